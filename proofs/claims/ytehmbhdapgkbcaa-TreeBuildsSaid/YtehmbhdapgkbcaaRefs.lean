/- The document's sets: Put, Of, Less: walks. -/
import Derived.Test.YtehmbhdapgkbcaaBuildA
namespace Go.Proofs.Ytehmbhdapgkbcaa
open Go.RowKit

/-- A slice of the document's cells that owns its row. -/
abbrev RefRow (w : World) (v : Value) (l : List Cl) : Prop := Own w 32 3 v l.length (l.flatMap Cl.cells)
theorem row3 {e : TypeId} {w : World} {l : List Cl} {g cap : Nat} (h : Own w e 3 (.slice (some ⟨g, 0, none⟩) l.length cap) l.length (l.flatMap Cl.cells)) {i : Nat} (hi : i < l.length) :
    w.cell? ⟨g, i * 3, none⟩ = some (.int .i64 l[i].a) ∧ w.cell? ⟨g, i * 3 + 1, none⟩ = some (.int .i64 l[i].b) ∧ w.cell? ⟨g, i * 3 + 2, none⟩ = some (.int .i64 l[i].h) := by
  refine ⟨?_, ?_, ?_⟩
  · have := World.ownsRow.cellAt h (i * 3 + 0) (by omega)
    rw [flatMap_get _ _ Cl.cells_length _ _ _ hi (by omega)] at this
    exact this
  · rw [World.ownsRow.cellAt h _ (by omega), flatMap_get _ _ Cl.cells_length _ _ _ hi (by omega)]; rfl
  · rw [World.ownsRow.cellAt h _ (by omega), flatMap_get _ _ Cl.cells_length _ _ _ hi (by omega)]; rfl

/-- 'append(out, c)' where out owns its row and c lies in a block of its own: for the walk. -/
theorem wpList_push {P : Program} {w : World} {ops : Array Oper} {rest : List Oper} {o : Oper} {a : Act} {Q : Exit → Act → World → Prop} (hgd : o.guard = none) (s x : Operand) (t : TypeId)
    (ho : o.op = .call { callee := .builtin .append, args := #[s, x], argTypes := #[t, t] }) (e : TypeId) (ht : P.underlying t = some (.slice e)) {zz : Value} (hinfo : (P.info? e).map (fun i => (i.zero, i.size, i.bytes)) = some (some zz, 3, 24)) (hzz : zz.cells.size = 3)
    (v : Value) (l : List Cl) (hs : a.eval s = v) (hrow : Own w e 3 v l.length (l.flatMap Cl.cells)) (hl : l.length < 1000000) (k : Nat) (c : Cl) (T : TypeId) (hx : a.eval x = .slice (some ⟨k, 0, none⟩) 1 1) (hblk : w.heap[k]? = some (.cells #[.int .i64 c.a, .int .i64 c.b, .int .i64 c.h] T (0, 0)))
    (h : ∀ v' w', Own w' e 3 v' (l ++ [c]).length ((l ++ [c]).flatMap Cl.cells) → Touch (fun j => v.ownBlock = some j) w w' → (∀ j, v'.ownBlock = some j → v.ownBlock = some j ∨ w.heap.size ≤ j) → wpList P ops Q rest (a.put o.dst v') w') : wpList P ops Q (o :: rest) a w := by
  obtain ⟨i0, hi0, hz0, hz1, hz2⟩ := info_parts hinfo
  refine wpList_append_lies w hgd s x t ho 0 e i0 zz 3 24 ht hi0 hz0 hz1 hz2 hzz (by omega) v l.length (l.flatMap Cl.cells) hs hrow ⟨k, 0, none⟩ 1 1 [.int .i64 c.a, .int .i64 c.b, .int .i64 c.h] hx rfl
    (World.news_of_block (cs := #[.int .i64 c.a, .int .i64 c.b, .int .i64 c.h]) (t := T) (fr := (0, 0)) hblk) (by simp [Value.oneCell']) (by omega) (by unfold maxLen; omega) (by omega) (Nat.zero_le _) w.heap.size rfl ?_
  intro gg cap w3 hown hgrow hat hlt
  refine h _ w3 (by simpa [Cl.cells] using hown) ((Touch.refl (fun j => v.ownBlock = some j) w).grown hgrow fun j hj _ => hj) fun j hj => ?_
  cases hj
  rcases hat with hat | hat
  · exact .inl hat
  · right; show w.heap.size ≤ gg; omega

theorem infoRef : (Try.prog.info? 32).map (fun i => (i.zero, i.size, i.bytes)) = some (some (.agg #[.int .i64 0, .int .i64 0, .int .i64 0]), 3, 24) := by kernel_rfl

/-- What comes back: a slice of just these cells, in new memory. -/
def RowPost (l : List Cl) (w : World) (e : Ending) (w' : World) : Prop :=
  ∃ v, e = .returned v ∧ RefRow w' v l ∧ Below w.heap.size w w' ∧ ∀ k, v.ownBlock = some k → w.heap.size ≤ k

theorem made_row (w : World) : RefRow (w.alloc (.cells #[] 32)) (.slice (some ⟨w.heap.size, 0, none⟩) 0 0) [] := by
  refine ⟨rfl, .inr ⟨w.heap.size, 0, #[], rfl, Nat.zero_le _, heap_alloc_new _ _, Nat.le_refl _, Nat.zero_le _, rfl, rfl⟩⟩

set_option maxHeartbeats 8000000 in
set_option maxRecDepth 100000 in
theorem less_set {l : List Cl} {v : Value} {w : World} (h : RefRow w v l) (hl : l.length < 100000) (c : Cl) :
    Calls Try.prog 16 #[v, .agg #[.int .i64 c.a, .int .i64 c.b, .int .i64 c.h]] w (RowPost (lessOf c l) w) := by
  obtain ⟨va, vcap, rfl, _⟩ := h.slice
  have hform : 0 < l.length → ∃ g, va = some ⟨g, 0, none⟩ ∧ g < w.heap.size := fun hp => by
    obtain ⟨g, cap, he, _, _, hg⟩ := h.form hp
    cases he
    exact ⟨g, rfl, hg⟩
  have H := Lib.hid h
  have Hform := Lib.hid hform
  clear h hform
  have hne := fun x => neq_rf x c
  have Hne := Lib.hid hne
  clear hne
  obtain ⟨ca, cb, ch⟩ := c
  have hmade := made_row (w.alloc (.cells #[.int .i64 ca, .int .i64 cb, .int .i64 ch] 32))
  rw [World.size_alloc] at hmade
  go_enter Try.func16, Try.ntmps16
  go_wp2_with fail
  have hBs : Below (w.heap.size + 1) (w.alloc (.cells #[.int .i64 ca, .int .i64 cb, .int .i64 ch] 32)) ((w.alloc (.cells #[.int .i64 ca, .int .i64 cb, .int .i64 ch] 32)).alloc (.cells #[] 32)) := (Below.refl _ _).alloc (by simp) _
  go_loopg [5, 11] l.length (fun m s5 s11 wr => ∃ k : Nat, m = l.length - k ∧ k ≤ l.length ∧ s11 = .int .i64 k ∧ RefRow wr s5 (lessOf ⟨ca, cb, ch⟩ (l.take k)) ∧ (∀ j, s5.ownBlock = some j → w.heap.size + 1 ≤ j) ∧ Below (w.heap.size + 1) (w.alloc (.cells #[.int .i64 ca, .int .i64 cb, .int .i64 ch] 32)) wr)
  case atStart => exact ⟨0, by omega, by omega, rfl, hmade, (fun j hj => by cases hj; exact Nat.le_refl _), hBs⟩
  case round =>
    clear hmade hBs
    obtain ⟨k, hm, hk, rfl, hrow, hnw, hB⟩ := hrel
    have hz := hB.size
    simp only [World.size_alloc] at hz
    have hBw : Below w.heap.size w wr := ((Below.refl _ _).alloc (Nat.le_refl _) _).trans (hB.mono (by omega))
    by_cases hkn : k = l.length
    · have hge : ¬ ((k : Int) < (l.length : Int)) := by omega
      have Hkn := Lib.hid hkn
      clear hkn hm
      go_wp2
      go_ret
      rw [Hkn.out, List.take_length] at hrow
      exact ⟨_, rfl, hrow, hBw, fun j hj => by have := hnw j hj; omega⟩
    · have hlt : (k : Int) < (l.length : Int) := by omega
      obtain ⟨g, rfl, hg⟩ := Hform.out (by omega)
      have hr : RefRow wr (.slice (some ⟨g, 0, none⟩) l.length vcap) l := H.out.move (S := Only) (.of_new hBw) fun _ _ h => h
      obtain ⟨a0, a1, a2⟩ := row3 hr (i := k) (by omega)
      have htk : l.take (k + 1) = l.take k ++ [l[k]] := List.take_succ_eq_append_getElem (by omega)
      generalize l[k] = x at a0 a1 a2 htk
      have hxne := Hne.out x
      have d0 : ∀ o, (wr.alloc o).cell? ⟨w.heap.size, 0, none⟩ = some (.int .i64 ca) := fun o => (World.cell?_alloc_past _ _ _ (by omega)).trans ((hB.cell (p := ⟨w.heap.size, 0, none⟩) (by simp)).trans (World.cell?_alloc_new _ _ _ _))
      have d1 : ∀ o, (wr.alloc o).cell? ⟨w.heap.size, 1, none⟩ = some (.int .i64 cb) := fun o => (World.cell?_alloc_past _ _ _ (by omega)).trans ((hB.cell (p := ⟨w.heap.size, 1, none⟩) (by simp)).trans (World.cell?_alloc_new _ _ _ _))
      have d2 : ∀ o, (wr.alloc o).cell? ⟨w.heap.size, 2, none⟩ = some (.int .i64 ch) := fun o => (World.cell?_alloc_past _ _ _ (by omega)).trans ((hB.cell (p := ⟨w.heap.size, 2, none⟩) (by simp)).trans (World.cell?_alloc_new _ _ _ _))
      have hll := lessOf_le ⟨ca, cb, ch⟩ (l.take k)
      have htl := List.length_take_le k l
      by_cases hx : x = ⟨ca, cb, ch⟩
      · have e : lessOf ⟨ca, cb, ch⟩ (l.take (k + 1)) = lessOf ⟨ca, cb, ch⟩ (l.take k) := by rw [htk]; unfold lessOf; rw [List.filter_append]; simp [hx]
        have He := Lib.hid e
        rw [decide_eq_true hx] at hxne
        clear e hx htk hr
        obtain ⟨xa, xb, xh⟩ := x
        dsimp only at a0 a1 a2 hxne
        go_wp2
        go_roundg (l.length - (k + 1))
        case measure => omega
        case rel => exact ⟨k + 1, rfl, by omega, by go_num, by rw [He.out]; exact hrow.alloc _, hnw, hB.alloc (by omega) _⟩
      · have e : lessOf ⟨ca, cb, ch⟩ (l.take (k + 1)) = lessOf ⟨ca, cb, ch⟩ (l.take k) ++ [x] := by rw [htk]; unfold lessOf; rw [List.filter_append]; simp [hx]
        have He := Lib.hid e
        rw [decide_eq_false hx] at hxne
        clear e hx htk hr
        obtain ⟨xa, xb, xh⟩ := x
        dsimp only at a0 a1 a2 hxne
        have hblk : ((wr.alloc (.cells #[.int .i64 xa, .int .i64 xb, .int .i64 xh] 32)).alloc (.cells #[.int .i64 xa, .int .i64 xb, .int .i64 xh] 32)).heap[wr.heap.size + 1]? = some (.cells #[.int .i64 xa, .int .i64 xb, .int .i64 xh] 32 (0, 0)) := by
          rw [← World.size_alloc wr (.cells #[.int .i64 xa, .int .i64 xb, .int .i64 xh] 32)]; exact heap_alloc_new _ _
        go_wp2_with (refine wpList_push rfl _ _ 22 rfl 32 Try.underlying22 infoRef rfl _ _ rfl ((hrow.alloc _).alloc _) (by omega) (wr.heap.size + 1) ⟨xa, xb, xh⟩ 32 rfl hblk ?_; intro v3 w3 hrow3 hT3 hnew3)
        go_roundg (l.length - (k + 1))
        case measure => omega
        case rel =>
          have hB2 := (hB.alloc (by omega) (.cells #[.int .i64 xa, .int .i64 xb, .int .i64 xh] 32)).alloc (by simp; omega) (.cells #[.int .i64 xa, .int .i64 xb, .int .i64 xh] 32)
          refine ⟨k + 1, rfl, by omega, by go_num, by rw [He.out]; exact hrow3, fun j hj => ?_, ?_⟩
          · rcases hnew3 j hj with h | h
            · exact hnw j h
            · simp at h; omega
          · exact ⟨hT3.os.trans hB2.os, hT3.tape.trans hB2.tape, hT3.output.trans hB2.output, Nat.le_trans hB2.size hT3.size, fun j hj => (hT3.block j (Nat.lt_of_lt_of_le (by simpa using hj) hB2.size) (fun h => by have := hnw j h; omega)).trans (hB2.block j hj)⟩


end Go.Proofs.Ytehmbhdapgkbcaa
