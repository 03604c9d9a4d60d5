/- set.Of of cells that are each there once: Clone, SortFunc, Compact. -/
import Derived.Test.YtehmbhdapgkbcaaCmp
import Derived.Test.YtehmbhdapgkbcaaShelf
import Derived.Shelf.SlSortCmp.NoneTotal
namespace Go.Proofs.Ytehmbhdapgkbcaa
open Go.RowKit

theorem flat_list {α : Type} [Inhabited α] (enc : α → List Value) (k : Nat) (hk : ∀ x, (enc x).length = k) (d : Array α) : (Sort.flatK enc k d).toList = d.toList.flatMap enc := by
  have hlen : (d.toList.flatMap enc).length = d.size * k := by
    have : ∀ l : List α, (l.flatMap enc).length = l.length * k := fun l => by
      induction l with
      | nil => simp
      | cons x r ih => rw [List.flatMap_cons, List.length_append, ih, hk, List.length_cons, Nat.add_mul]; omega
    rw [this]; simp
  apply List.ext_getElem?
  intro t
  by_cases ht : t < d.size * k
  · have k0 : 0 < k := by
      rcases Nat.eq_zero_or_pos k with h | h
      · subst h; simp at ht
      · exact h
    have hq : t / k < d.size := Nat.div_lt_of_lt_mul (by rwa [Nat.mul_comm])
    have hr := Nat.mod_lt t k0
    have e : t / k * k + t % k = t := by rw [Nat.mul_comm]; exact Nat.div_add_mod t k
    have h1 := Sort.get_flatK enc k d t ht
    have h2 := flatMap_get enc k hk d.toList (t / k) (t % k) (by simpa using hq) hr
    rw [e] at h2
    have hs : t < (Sort.flatK enc k d).size := by simpa using ht
    rw [Array.getElem?_toList, Array.getElem?_eq_getElem hs, ← getElem!_pos (Sort.flatK enc k d) t hs, h1, h2, getElem!_pos d (t / k) hq]
    have hlt : t % k < (enc d[t / k]).length := by rw [hk]; exact hr
    rw [getElem!_pos (enc d[t / k]) (t % k) hlt]
    show _ = (enc d[t / k])[t % k]?
    rw [List.getElem?_eq_getElem hlt]
  · rw [List.getElem?_eq_none (by simpa using ht), List.getElem?_eq_none (by rw [hlen]; omega)]

/-- The block of a row that was laid anew. -/
theorem heap_laid {w : World} {g m : Nat} {cur : Array Value} {e : TypeId} (F : Array Value) (os : Array Obj) (h : w.heap[g]? = some (.cells cur e (0, 0))) :
    (Sort.grow (Sort.putRow id (Sort.ahead w m) g 0 F) os).heap[g]? = some (.cells (Sort.putCells id 0 F cur) e (0, 0)) := by
  have hlt := lt_of_block h
  show ((w.heap.modify g _) ++ os)[g]? = _
  rw [Array.getElem?_append_left (by simpa using hlt), Array.getElem?_modify, if_pos rfl, h]
  rfl
theorem touch_laid {w : World} {g m : Nat} (F : Array Value) (os : Array Obj) : Touch (fun k => k = g) w (Sort.grow (Sort.putRow id (Sort.ahead w m) g 0 F) os) := by
  refine ⟨rfl, rfl, rfl, ?_, fun k hk hn => ?_⟩
  · show w.heap.size ≤ ((w.heap.modify g _) ++ os).size
    simp
  · show ((w.heap.modify g _) ++ os)[k]? = _
    rw [Array.getElem?_append_left (by simpa using hk), Array.getElem?_modify, if_neg (fun e => hn e.symm)]

theorem lt_cmp (c d : Cl) : Go.Proofs.ltOf cmpI c d = c.lt d := by
  unfold Go.Proofs.ltOf cmpI
  cases h : c.lt d
  · by_cases e : c = d <;> simp [e]
  · simp
theorem swo_cmp : Sort.SWO (Go.Proofs.ltOf cmpI) where
  irrefl x := by rw [lt_cmp]; exact Cl.lt_irrefl x
  trans x y z h1 h2 := by rw [lt_cmp] at *; exact Cl.lt_trans h1 h2
  ntrans x y z h1 h2 := by
    rw [lt_cmp] at *
    cases h : x.lt z
    · rfl
    · rcases Cl.lt_not h1 with k | k
      · have := Cl.lt_trans k h; rw [h2] at this; cases this
      · subst k; rw [h2] at h; cases h

def SortPost (l : List Cl) (v : Value) (w : World) (e : Ending) (w' : World) : Prop :=
  e = .returned (.tuple #[]) ∧ ∃ l' : List Cl, l'.Perm l ∧ l'.Pairwise (fun c d => d.lt c = false) ∧ CellRow w' v l' ∧ Touch (fun k => v.ownBlock = some k) w w'

theorem cells_len (l : List Cl) : (l.flatMap Cl.cells).length = l.length * 3 := by
  induction l with
  | nil => rfl
  | cons x r ih => rw [List.flatMap_cons, List.length_append, ih, Cl.cells_length, List.length_cons]; omega

theorem isAggCl (w : World) : (isAgg 40).run Try.prog w = .ok true w := by kernel_rfl
theorem sizeCl (w : World) : (Go.sizeOf 40).run Try.prog w = .ok 3 w := by kernel_rfl

theorem sort_any {l : List Cl} {v : Value} {w : World} (h : CellRow w v l) (hl : l.length < 1152921504606846976) :
    Calls Try.prog 64 #[v, .func (.func 65) #[] #[]] w (SortPost l v w) := by
  by_cases h0 : l = []
  · subst h0
    obtain ⟨a, cap, rfl, _⟩ := h.slice
    have := AnyF.slices_SortFunc_none { Try.sortCl with } a cap (.func (.func 65) #[] #[]) w
    change Calls Try.prog 64 _ _ _ at this
    refine this.mono fun e w' ⟨he, hw⟩ => ?_
    subst hw
    exact ⟨he, [], .refl _, List.Pairwise.nil, h, .refl _ _⟩
  · have hpos : 0 < l.length := List.length_pos_iff.2 h0
    rcases h.2 with ⟨_, hz⟩ | ⟨g, cap, cur, rfl, hb, hg, h1, h2, h3, h4⟩
    · omega
    · have eg : ∀ args w, (callFunc 65 args).run Try.prog w = .ok (.enter 65 args) w := enters_of Try.func65 (by kernel_rfl) rfl
      have hH : Sort.HoldsK Cl.cells 3 w g 0 l.toArray := by
        intro j hj
        have hj' : j < l.length * 3 := by simpa using hj
        refine ⟨?_, frozen_of_row _ _ _ _ _ hg⟩
        have e1 : (Sort.flatK Cl.cells 3 l.toArray)[j]! = (Sort.flatK Cl.cells 3 l.toArray)[j]'hj := getElem!_pos (Sort.flatK Cl.cells 3 l.toArray) j hj
        have e2 : l.flatMap Cl.cells = (Sort.flatK Cl.cells 3 l.toArray).toList := (flat_list Cl.cells 3 Cl.cells_length l.toArray).symm
        show w.cell? ⟨g, 0 + j, none⟩ = some ((Sort.flatK Cl.cells 3 l.toArray)[j]!)
        rw [Nat.zero_add, World.ownsRow.cellAt h _ (by omega), e1, e2, Array.getElem?_toList, Array.getElem?_eq_getElem hj]
      have hcon := AnyQ.slices_SortFunc Try.sortCl 3 isAggCl sizeCl Cl.cells Cl.cells_length (fun x u hu => by simp [Cl.cells] at hu; rcases hu with rfl | rfl | rfl <;> rfl) cmpI swo_cmp 65 #[] g 0 cap l.toArray w eg
        (fun _ _ _ _ x y => compare_any x y _) hH (lt_of_block hg) (by simp; omega)
      change Calls Try.prog 64 _ _ _ at hcon
      rw [show l.toArray.size = l.length by simp] at hcon
      refine hcon.mono fun e w' ⟨he, d', n, os, hp, hs, hw⟩ => ?_
      obtain ⟨p1, _, p3⟩ := hp
      have q1 : d'.size = l.length := by simpa using p1
      have q2 : d'.toList.Perm l := by
        have a1 : d'.extract 0 l.length = d' := by rw [← q1]; exact Array.extract_size
        have a2 : l.toArray.extract 0 l.length = l.toArray := by
          have := Array.extract_size (xs := l.toArray)
          rwa [show l.toArray.size = l.length by simp] at this
        rw [a1, a2] at p3
        exact p3
      refine ⟨he, d'.toList, q2, ?_, ?_, ?_⟩
      · rw [List.pairwise_iff_getElem]
        intro i j hi hj hij
        have := hs i j (Nat.zero_le _) hij (by rw [← q1]; simpa using hj)
        rw [lt_cmp, getElem!_pos d' j (by simpa using hj), getElem!_pos d' i (by simpa using hi)] at this
        simpa using this
      · subst hw
        have hfl := flat_list Cl.cells 3 Cl.cells_length d'
        have hfs : (Sort.flatK Cl.cells 3 d').size = l.length * 3 := by simp [q1]
        have hcs : l.length * 3 ≤ cur.size := by rw [h3]; exact Nat.mul_le_mul_right 3 h1
        refine ⟨by rw [cells_len], .inr ⟨g, cap, _, by simp [q1], hb, heap_laid (Sort.flatK Cl.cells 3 d') os hg, by simp [q1]; exact h1, h2, by simp [Sort.putCells, h3], ?_⟩⟩
        rw [← hfl]
        apply List.ext_getElem?
        intro t
        by_cases ht : t < l.length * 3
        · rw [List.getElem?_take_of_lt (by simpa [q1] using ht)]
          simp only [Sort.putCells, Array.toList_mapIdx, List.getElem?_mapIdx, Array.getElem?_toList]
          rw [Array.getElem?_eq_getElem (by omega), Option.map_some, if_pos ⟨Nat.zero_le _, by omega⟩, Array.getElem?_eq_getElem (by omega)]
          simp only [id, Nat.sub_zero]
          rw [getElem!_pos _ _ (by omega)]
        · rw [List.getElem?_eq_none (by simp [q1]; omega), List.getElem?_eq_none (by simp [q1]; omega)]
      · subst hw
        exact (touch_laid _ _).mono fun x _ hx => by subst hx; rfl


theorem infoClone : (Try.prog.info? 40).map (fun i => (i.zero, i.size, i.bytes)) = some (some (.agg #[.int .i64 0, .int .i64 0, .int .i64 0]), 3, 24) := by kernel_rfl

theorem clone_any {l : List Cl} {v : Value} {w : World} (h : CellRow w v l) (hl : l.length < 1048576) :
    Calls Try.prog 63 #[v] w (CellsPost l w) := by
  obtain ⟨i0, hi0, hz0, hz1, hz2⟩ := info_parts infoClone
  rcases h.2 with ⟨rfl, hz⟩ | ⟨g, cap, cur, rfl, hb, hg, h1, h2, h3, h4⟩
  · have := AnyE.slices_Clone_nil Try.cloneCl 0 0 w
    change Calls Try.prog 63 _ _ _ at this
    refine this.mono fun e w' ⟨he, hw⟩ => ?_
    subst hw
    obtain rfl : l = [] := List.length_eq_zero_iff.1 hz
    exact ⟨_, he, h, Below.refl _ _, fun k hk => by cases hk⟩
  · have hlen := cells_len l
    have := AnyE.slices_Clone Try.cloneCl i0 (.agg #[.int .i64 0, .int .i64 0, .int .i64 0]) 3 24 hi0 hz0 hz1 hz2 rfl (by omega) sizeCl g 0 l.length cap (l.flatMap Cl.cells) w hlen (by unfold maxLen; omega) (by omega)
      (fun j u hj => by
        have hjl : j < l.length * 3 := by
          rw [← hlen]
          exact (List.getElem?_eq_some_iff.1 hj).1
        rw [Nat.zero_add, World.ownsRow.cellAt h _ (by omega)]; exact hj)
      (fun u hu => by
        obtain ⟨c, _, hc⟩ := List.mem_flatMap.1 hu
        simp [Cl.cells] at hc
        rcases hc with rfl | rfl | rfl <;> rfl)
    change Calls Try.prog 63 _ _ _ at this
    refine this.mono fun e w' ⟨v', he, hown, hnn, hbel⟩ => ?_
    refine ⟨v', he, ⟨hown.1, ?_⟩, hbel, fun k hk => ?_⟩
    · rcases hown.2 with x | ⟨g', cap', cur', a1, a2, rest⟩
      · exact .inl x
      · exact .inr ⟨g', cap', cur', a1, Nat.zero_le _, rest⟩
    · rcases hown.2 with ⟨x, _⟩ | ⟨g', cap', cur', rfl, a2, rest⟩
      · rw [x] at hk; cases hk
      · cases hk; exact a2

/-- The cells of one place of a row. -/
theorem CellRow.at {w : World} {l : List Cl} {g cap : Nat} (h : CellRow w (.slice (some ⟨g, 0, none⟩) l.length cap) l) {i : Nat} (hi : i < l.length) :
    w.cell? ⟨g, i * 3, none⟩ = some (.int .i64 l[i].a) ∧ w.cell? ⟨g, i * 3 + 1, none⟩ = some (.int .i64 l[i].b) ∧ w.cell? ⟨g, i * 3 + 2, none⟩ = some (.int .i64 l[i].h) := by
  refine ⟨?_, ?_, ?_⟩
  · have := World.ownsRow.cellAt h (i * 3 + 0) (by omega)
    rw [flatMap_get _ _ Cl.cells_length _ _ _ hi (by omega)] at this
    exact this
  · rw [World.ownsRow.cellAt h _ (by omega), flatMap_get _ _ Cl.cells_length _ _ _ hi (by omega)]; rfl
  · rw [World.ownsRow.cellAt h _ (by omega), flatMap_get _ _ Cl.cells_length _ _ _ hi (by omega)]; rfl

def SamePost (v : Value) (w : World) (e : Ending) (w' : World) : Prop := e = .returned v ∧ Below w.heap.size w w'

set_option maxHeartbeats 4000000 in
theorem compact_any {l : List Cl} {v : Value} {w : World} (h : CellRow w v l) (hl : l.length < 1048576) (hd : ∀ i (h : i + 1 < l.length), l[i + 1] ≠ l[i]) :
    Calls Try.prog 66 #[v] w (SamePost v w) := by
  by_cases h2 : l.length < 2
  · obtain ⟨a, cap, rfl, _⟩ := h.slice
    have h2' : (l.length : Int) < 2 := by omega
    clear h hd
    generalize l.length = n at *
    go_enter Try.func66, Try.ntmps66
    go_wp2
    go_ret
    exact ⟨rfl, Below.refl _ _⟩
  · obtain ⟨g, cap, rfl, _, _, hg⟩ := h.form (by omega)
    have h2' : ¬ (l.length : Int) < 2 := by omega
    have H := Lib.hid h
    have Hd := Lib.hid hd
    clear h hd
    go_enter Try.func66, Try.ntmps66
    go_wp2_with fail
    go_loopg [3] l.length (fun m s3 wr => ∃ k : Nat, m = l.length - k ∧ k < l.length ∧ s3 = .int .i64 ((k : Int) + 1) ∧ Below w.heap.size w wr)
    case atStart => exact ⟨0, by omega, by omega, rfl, Below.refl _ _⟩
    case round =>
      obtain ⟨k, hm, hk, rfl, hB⟩ := hrel
      by_cases hk1 : k + 1 = l.length
      · have hge : ¬ ((k : Int) + 1 < (l.length : Int)) := by omega
        go_wp2
        go_ret
        exact ⟨rfl, hB⟩
      · have hlt : (k : Int) + 1 < (l.length : Int) := by omega
        have hr : CellRow wr (.slice (some ⟨g, 0, none⟩) l.length cap) l := H.out.move (S := Only) (.of_new hB) fun _ _ h => h
        obtain ⟨a0, a1, a2⟩ := hr.at (i := k) (by omega)
        obtain ⟨b0, b1, b2⟩ := hr.at (i := k + 1) (by omega)
        have hne := Hd.out k (by omega)
        have heq := eql_cl l[k + 1] l[k]
        rw [decide_eq_false hne] at heq
        clear hr hne
        generalize l[k] = c at a0 a1 a2 heq
        generalize l[k + 1] = d at b0 b1 b2 heq
        obtain ⟨ca, cb, ch⟩ := c
        obtain ⟨da, db, dh⟩ := d
        dsimp only at a0 a1 a2 b0 b1 b2 heq
        clear Hd H
        go_wp2_with fail
        go_quiet (fail)
        go_wp2
        go_roundg (l.length - (k + 1))
        case measure => omega
        case rel => exact ⟨k + 1, rfl, by omega, by go_num, belN hB _⟩


theorem sorted_rise {l l' : List Cl} (hn : l.Nodup) (hp : l'.Perm l) (hs : l'.Pairwise (fun c d => d.lt c = false)) : Rise l' := by
  have hn' : l'.Nodup := hp.nodup_iff.2 hn
  have := hs.and hn'
  exact this.imp fun {c d} h => (Cl.lt_not h.1).resolve_right h.2

/-- set.Of of cells that are each there once: they, in order. -/
def OfPost (l : List Cl) (w : World) (e : Ending) (w' : World) : Prop :=
  ∃ v l', e = .returned v ∧ CellRow w' v l' ∧ Rise l' ∧ (∀ c, c ∈ l' ↔ c ∈ l) ∧ l'.length = l.length ∧ Below w.heap.size w w' ∧ ∀ k, v.ownBlock = some k → w.heap.size ≤ k

theorem of_any {l : List Cl} {v : Value} {w : World} (h : CellRow w v l) (hl : l.length < 1048576) (hn : l.Nodup) :
    Calls Try.prog 45 #[v] w (OfPost l w) := by
  have hclone := clone_any h hl
  go_enter Try.func45, Try.ntmps45
  go_wp2_with fail
  refine hclone.mono ?_
  rintro e w1 ⟨v1, rfl, h1, hb1, hnew1⟩
  have hsort := sort_any h1 (by omega)
  clear hclone
  go_wp2_with fail
  refine hsort.mono ?_
  rintro e w2 ⟨rfl, l', hp, hs, h2, ht⟩
  have hr := sorted_rise hn hp hs
  have hlen : l'.length = l.length := hp.length_eq
  have hB : Below w.heap.size w w2 := by
    have ht' := (Touch.of_new (S := Only) hb1).trans (S'' := fun k => w.heap.size ≤ k) ht (fun _ _ h => h.elim) (fun x _ hx => hnew1 x hx)
    exact ht'.below (fun k hk h => by omega)
  have hcomp := compact_any h2 (by omega) (fun i hi e => by
    have := (List.pairwise_iff_getElem.1 hr) i (i + 1) (by omega) hi (by omega)
    rw [e, Cl.lt_irrefl] at this
    cases this)
  clear hsort
  go_wp2_with fail
  refine hcomp.mono ?_
  rintro e w3 ⟨rfl, hb3⟩
  go_wp2
  go_ret
  exact ⟨_, l', rfl, h2.move (S := Only) (.of_new hb3) fun _ _ h => h, hr, fun c => hp.mem_iff, hlen, hB.trans (hb3.mono hB.size), hnew1⟩

end Go.Proofs.Ytehmbhdapgkbcaa
