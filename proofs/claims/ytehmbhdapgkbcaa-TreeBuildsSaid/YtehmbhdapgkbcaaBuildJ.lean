/- build at a square of four: parted, built, joined. -/
import Derived.Test.YtehmbhdapgkbcaaBuild
namespace Go.Proofs.Ytehmbhdapgkbcaa
open Go.RowKit

/-- The least points of the kids, in memory. -/
def LowsAt (x y z : Int) (k : Nat) (cs : Array Value) : Prop := cs.size = 8 ∧ ∀ j, j < k → cs[j * 2]? = some (.int .i64 (x + z * (j % 2 : Nat))) ∧ cs[j * 2 + 1]? = some (.int .i64 (y + z * (j / 2 : Nat)))

theorem LowsAt.step {x y z : Int} {k : Nat} {cs : Array Value} (h : LowsAt x y z k cs) (hk : k < 4) : LowsAt x y z (k + 1) ((cs.setIfInBounds (k * 2) (.int .i64 (x + z * (k % 2 : Nat)))).setIfInBounds (k * 2 + 1) (.int .i64 (y + z * (k / 2 : Nat)))) := by
  obtain ⟨h1, h2⟩ := h
  refine ⟨by simp [h1], fun j hj => ?_⟩
  by_cases e : j = k
  · subst e
    constructor
    · rw [Array.getElem?_setIfInBounds, if_neg (by omega), Array.getElem?_setIfInBounds, if_pos rfl, if_pos (by omega)]
    · rw [Array.getElem?_setIfInBounds, if_pos rfl, if_pos (by simp; omega)]
  · have := h2 j (by omega)
    constructor
    · rw [Array.getElem?_setIfInBounds, if_neg (by omega), Array.getElem?_setIfInBounds, if_neg (by omega)]; exact this.1
    · rw [Array.getElem?_setIfInBounds, if_neg (by omega), Array.getElem?_setIfInBounds, if_neg (by omega)]; exact this.2

def upd {α : Type} (V : Nat → α) (q : Nat) (v : α) : Nat → α := fun i => if i = q then v else V i

/-- Four slices of points in an array, each in a row of its own. -/
structure Parts (w : World) (pb base : Nat) (V : Nat → Value) (ls : Nat → List (Int × Int)) : Prop where
  blk : w.heap[pb]? = some (.cells #[V 0, V 1, V 2, V 3] 124 (0, 0))
  row : ∀ i, i < 4 → PtRow w (V i) (ls i)
  new : ∀ i, i < 4 → ∀ k, (V i).ownBlock = some k → base ≤ k
  apart : ∀ i j, i < 4 → j < 4 → i ≠ j → ∀ k, (V i).ownBlock = some k → (V j).ownBlock ≠ some k

theorem Parts.move {w w' : World} {pb base : Nat} {V : Nat → Value} {ls : Nat → List (Int × Int)} (h : Parts w pb base V ls) {S : Nat → Prop} (ht : Touch S w w') (h1 : ¬ S pb) (h2 : ∀ i, i < 4 → ∀ k, (V i).ownBlock = some k → ¬ S k) : Parts w' pb base V ls :=
  ⟨(ht.block _ (lt_of_block h.blk) h1).trans h.blk, fun i hi => (h.row i hi).move ht (h2 i hi), h.new, h.apart⟩
theorem Parts.newB {w w' : World} {pb base : Nat} {V : Nat → Value} {ls : Nat → List (Int × Int)} (h : Parts w pb base V ls) (hb : Below w.heap.size w w') : Parts w' pb base V ls := h.move (S := Only) (.of_new hb) (fun h => h) (fun _ _ _ _ h => h)
theorem Parts.cell {w : World} {pb base : Nat} {V : Nat → Value} {ls : Nat → List (Int × Int)} (h : Parts w pb base V ls) {q : Nat} (hq : q < 4) : w.cell? ⟨pb, q, none⟩ = some (V q) := by
  rw [cell_of_row _ _ _ _ _ _ h.blk]
  have h4 : q = 0 ∨ q = 1 ∨ q = 2 ∨ q = 3 := by omega
  rcases h4 with rfl | rfl | rfl | rfl <;> rfl
theorem Parts.nil (w : World) (pb base : Nat) (h : w.heap[pb]? = some (.cells #[.slice none 0 0, .slice none 0 0, .slice none 0 0, .slice none 0 0] 124 (0, 0))) : Parts w pb base (fun _ => .slice none 0 0) (fun _ => []) :=
  ⟨h, fun _ _ => World.ownsRow_nil _ _ _ _, (fun _ _ _ h => by cases h), (fun _ _ _ _ _ _ h => by cases h)⟩

theorem Parts.put {w w2 w3 : World} {pb base q gg cap : Nat} {V : Nat → Value} {ls : Nat → List (Int × Int)} {pt : Int × Int} (h : Parts w pb base V ls) (hq : q < 4) (hb : Below w.heap.size w w2) (hpb : pb < base) (hbs : base ≤ w.heap.size)
    (hgrow : w2.grownBy w3 (V q).ownBlock) (hown : w3.ownsRow 0 38 2 (.slice (some ⟨gg, 0, none⟩) ((ls q).length + 1) cap) ((ls q).length + 1) ((ls q).flatMap ptCells ++ [.int .i64 pt.1, .int .i64 pt.2])) (hat : (V q).ownBlock = some gg ∨ w2.heap.size ≤ gg) :
    Parts (w3.setCell ⟨pb, q, none⟩ (.slice (some ⟨gg, 0, none⟩) ((ls q).length + 1) cap)) pb base (upd V q (.slice (some ⟨gg, 0, none⟩) ((ls q).length + 1) cap)) (upd ls q (ls q ++ [pt])) := by
  have h2 := h.newB hb
  have hz := hb.size
  have hgb : base ≤ gg := by
    rcases hat with hat | hat
    · exact h.new q hq _ hat
    · omega
  have hpq : some pb ≠ (V q).ownBlock := fun e => by have := h.new q hq pb e.symm; omega
  have hb3 := (hgrow.block pb (lt_of_block h2.blk) hpq).trans h2.blk
  have hgl : ∀ i, i < 4 → i ≠ q → ∀ k, (V i).ownBlock = some k → k ≠ gg := fun i hi hne k hk e => by
    subst e
    rcases hat with hat | hat
    · exact h.apart i q hi hq hne k hk hat
    · have := (h2.row i hi).lt hk; omega
  have hT : Touch (fun k => k = pb) w3 (w3.setCell ⟨pb, q, none⟩ (.slice (some ⟨gg, 0, none⟩) ((ls q).length + 1) cap)) := (Touch.refl (fun k => k = pb) w3).setCell (p := ⟨pb, q, none⟩) (fun _ => rfl) _
  refine ⟨?_, fun i hi => ?_, fun i hi k hk => ?_, fun i j hi hj hij k hk hk2 => ?_⟩
  · have := heap_setCell_same w3 pb q _ _ (.slice (some ⟨gg, 0, none⟩) ((ls q).length + 1) cap) hb3
    rw [this]
    have h4 : q = 0 ∨ q = 1 ∨ q = 2 ∨ q = 3 := by omega
    rcases h4 with rfl | rfl | rfl | rfl <;> rfl
  · unfold upd
    by_cases e : i = q
    · rw [if_pos e, if_pos e]
      have hr : PtRow w3 (.slice (some ⟨gg, 0, none⟩) ((ls q).length + 1) cap) (ls q ++ [pt]) := by simpa [PtRow, ptCells] using hown
      exact hr.move hT fun k hk e2 => by
        cases hk
        have e3 : gg = pb := e2
        omega
    · rw [if_neg e, if_neg e]
      have hr2 := h2.row i hi
      have hr3 : PtRow w3 (V i) (ls i) := hr2.move ((Touch.refl (fun k => (V q).ownBlock = some k) w2).grown hgrow (fun k hk _ => hk)) fun k hk e2 => h.apart i q hi hq e k hk e2
      exact hr3.move hT fun k hk e2 => by have := h.new i hi k hk; omega
  · unfold upd at hk
    by_cases e : i = q
    · rw [if_pos e] at hk; cases hk; exact hgb
    · rw [if_neg e] at hk; exact h.new i hi k hk
  · unfold upd at hk hk2
    by_cases e : i = q <;> by_cases e2 : j = q
    · omega
    · rw [if_pos e] at hk; rw [if_neg e2] at hk2; cases hk; exact hgl j hj e2 _ hk2 rfl
    · rw [if_neg e] at hk; rw [if_pos e2] at hk2; cases hk2; exact hgl i hi e _ hk rfl
    · rw [if_neg e] at hk; rw [if_neg e2] at hk2; exact h.apart i j hi hj hij k hk hk2

/-- How many points the first kids have. -/
def used (ls : Nat → List (Int × Int)) : Nat → Nat
  | 0 => 0
  | i + 1 => used ls i + (ls i).length
theorem used_all (f : Nat) (x y : Int) (ps : List (Int × Int)) : used (part4 f x y ps) 4 = ps.length := by
  rw [← part4_len f x y ps]
  simp [used]
theorem used_mono (ls : Nat → List (Int × Int)) : ∀ {i j : Nat}, i ≤ j → used ls i ≤ used ls j
  | i, 0, h => by obtain rfl : i = 0 := by omega
                  exact Nat.le_refl _
  | i, j + 1, h => by
    rcases Nat.lt_or_ge i (j + 1) with h1 | h1
    · have := used_mono ls (i := i) (j := j) (by omega); simp only [used]; omega
    · obtain rfl : i = j + 1 := by omega
      exact Nat.le_refl _

/-- The kids that were built, in memory. -/
def KidsAt (g : Int → Int → Option Nat) (f : Nat) (x y z : Int) (ls : Nat → List (Int × Int)) (A : Ar) (i : Nat) (ks : Array Value) : Prop :=
  ks.size = 4 ∧ ∃ r : Nat → Nat, ∀ j, j < i → ks[j]? = some (U32 (r j)) ∧ r j < A.nodes.length ∧ BuildR g f (x + z * (j % 2 : Nat)) (y + z * (j / 2 : Nat)) (ls j) (r j) A
theorem KidsAt.step {g : Int → Int → Option Nat} {f : Nat} {x y z : Int} {ls : Nat → List (Int × Int)} {A A' : Ar} {i : Nat} {ks : Array Value} (h : KidsAt g f x y z ls A i ks) (hi : i < 4) (hx : Ext A A') (w : WF A.nodes) {r : Nat} (hr : r < A'.nodes.length)
    (hR : BuildR g f (x + z * (i % 2 : Nat)) (y + z * (i / 2 : Nat)) (ls i) r A') : KidsAt g f x y z ls A' (i + 1) (ks.setIfInBounds i (U32 r)) := by
  obtain ⟨h1, ρ, h2⟩ := h
  refine ⟨by simp [h1], upd ρ i r, fun j hj => ?_⟩
  unfold upd
  by_cases e : j = i
  · subst e
    rw [if_pos rfl, Array.getElem?_setIfInBounds, if_pos rfl, if_pos (by omega)]
    exact ⟨rfl, hr, hR⟩
  · have h3 := h2 j (by omega)
    rw [if_neg e, Array.getElem?_setIfInBounds, if_neg (fun k => e k.symm)]
    exact ⟨h3.1, Nat.lt_of_lt_of_le h3.2.1 hx.len, h3.2.2.ext hx w h3.2.1⟩

set_option maxHeartbeats 32000000 in
set_option maxRecDepth 100000 in
theorem build_join {p f : Nat} (hf : f ≤ 41) {b n : Nat} {g : Int → Int → Option Nat}
    (ih : ∀ (w : World) (F : Foot) (A : Ar) (v : Value) (ps : List (Int × Int)) (x y : Int), BldOk w p F A v ps b n g f x y → ∀ L : Nat, L = f + 2 →
      Calls Try.prog 51 #[.pointer (some ⟨p, 0, none⟩), .int .i64 L, ptV x y, v, .map (some b)] w (Ret p F A (ps.length * (f + 1)) (BuildR g f x y ps) w))
    {w : World} {F : Foot} {A : Ar} {v : Value} {ps : List (Int × Int)} {x y : Int} (h : BldOk w p F A v ps b n g (f + 1) x y) (h0 : ps ≠ []) (L' : Nat) (hL' : L' = f + 2) :
    Calls Try.prog 51 #[.pointer (some ⟨p, 0, none⟩), .int .i64 ((L' : Int) + 1), ptV x y, v, .map (some b)] w (Ret p F A (ps.length * (f + 2)) (BuildR g (f + 1) x y ps) w) := by
  obtain ⟨ar, ok, row, map, nf, nb, nd, sq, lf, xm, ym, x0, x1, y0, y1, room, len⟩ := h
  rw [show f + 1 + 2 = f + 2 + 1 from rfl, pow_more] at x1 y1
  have hpw := pow_bounds (L := f + 2) (Nat.add_le_add_right hf 2)
  have hsub := fun q hq => (sq q hq).part xm ym
  generalize hz : (2 : Int) ^ (f + 2) = z at x1 y1 hpw hsub
  have Hz := Lib.hid hz
  clear hz
  have hpos : 0 < ps.length := List.length_pos_iff.2 h0
  obtain ⟨gv, vcap, rfl, _, _, hgv⟩ := row.form hpos
  have hne : ((ps.length : Int) == 0) = false := by rw [beq_eq_false_iff_ne]; omega
  have hquart : ∀ (q : Int × Int) W, Calls Try.prog 53 #[.int .i64 ((L' : Int) + 1), .agg #[.int .i64 x, .int .i64 y], .agg #[.int .i64 q.1, .int .i64 q.2]] W fun e w' => e = .returned (.tuple #[.int .i64 (qd f x y q), .agg #[.int .i64 (quadA (f + 2) x q.1), .int .i64 (quadA (f + 2) y q.2)]]) ∧ Below W.heap.size W w' := fun q W => by
    have := quarter_any (f + 2) (by omega) x y q.1 q.2 ⟨x0, by omega⟩ ⟨y0, by omega⟩ W
    rwa [show ((f + 2 + 1 : Nat) : Int) = (L' : Int) + 1 by omega] at this
  have hsh : RowKit.wrap64 ((2 : Int) ^ L') = z := by rw [hL', Hz.out, RowKit.wrap64]; omega
  have Hsh := Lib.hid hsh
  clear hsh
  have hL2 : ((L' : Int) + 1 == 2) = false := by rw [beq_eq_false_iff_ne]; omega
  have hL44 : (L' : Int) ≤ 44 := by omega
  have Ih := Lib.hid ih
  have HL' := Lib.hid hL'
  have Hrow := Lib.hid row
  have Hnf := Lib.hid nf
  have Hsub := Lib.hid hsub
  have Hlf := Lib.hid lf
  have Hquart := Lib.hid hquart
  have Hnd := Lib.hid nd
  have Hxm := Lib.hid xm
  have Hym := Lib.hid ym
  clear ih hL' row nf hsub lf hquart nd sq xm ym h0
  have hB3 : Below w.heap.size w (((w.alloc (.cells #[.int .i64 x, .int .i64 y] 38)).alloc (.cells #[.slice none 0 0, .slice none 0 0, .slice none 0 0, .slice none 0 0] 124)).alloc (.cells #[.int .i64 0, .int .i64 0, .int .i64 0, .int .i64 0, .int .i64 0, .int .i64 0, .int .i64 0, .int .i64 0] 125)) :=
    (((Below.refl _ _).alloc (Nat.le_refl _) _).alloc (by simp) _).alloc (by simp; omega) _
  have hb0 : (((w.alloc (.cells #[.int .i64 x, .int .i64 y] 38)).alloc (.cells #[.slice none 0 0, .slice none 0 0, .slice none 0 0, .slice none 0 0] 124)).alloc (.cells #[.int .i64 0, .int .i64 0, .int .i64 0, .int .i64 0, .int .i64 0, .int .i64 0, .int .i64 0, .int .i64 0] 125)).heap[w.heap.size]? = some (.cells #[.int .i64 x, .int .i64 y] 38 (0, 0)) :=
    (Below.heap_alloc _ _ _ (by simp; omega)).trans ((Below.heap_alloc _ _ _ (by simp)).trans (heap_alloc_new _ _))
  have hb1 : (((w.alloc (.cells #[.int .i64 x, .int .i64 y] 38)).alloc (.cells #[.slice none 0 0, .slice none 0 0, .slice none 0 0, .slice none 0 0] 124)).alloc (.cells #[.int .i64 0, .int .i64 0, .int .i64 0, .int .i64 0, .int .i64 0, .int .i64 0, .int .i64 0, .int .i64 0] 125)).heap[w.heap.size + 1]? = some (.cells #[.slice none 0 0, .slice none 0 0, .slice none 0 0, .slice none 0 0] 124 (0, 0)) :=
    (Below.heap_alloc _ _ _ (by simp)).trans (by rw [← World.size_alloc w (.cells #[.int .i64 x, .int .i64 y] 38)]; exact heap_alloc_new _ _)
  have hb2 : (((w.alloc (.cells #[.int .i64 x, .int .i64 y] 38)).alloc (.cells #[.slice none 0 0, .slice none 0 0, .slice none 0 0, .slice none 0 0] 124)).alloc (.cells #[.int .i64 0, .int .i64 0, .int .i64 0, .int .i64 0, .int .i64 0, .int .i64 0, .int .i64 0, .int .i64 0] 125)).heap[w.heap.size + 1 + 1]? = some (.cells #[.int .i64 0, .int .i64 0, .int .i64 0, .int .i64 0, .int .i64 0, .int .i64 0, .int .i64 0, .int .i64 0] 125 (0, 0)) := by
    rw [← World.size_alloc w (.cells #[.int .i64 x, .int .i64 y] 38), ← World.size_alloc (w.alloc (.cells #[.int .i64 x, .int .i64 y] 38)) (.cells #[.slice none 0 0, .slice none 0 0, .slice none 0 0, .slice none 0 0] 124)]; exact heap_alloc_new _ _
  go_enter Try.func51, Try.ntmps51
  go_wp2_with fail
  generalize ((w.alloc (.cells #[.int .i64 x, .int .i64 y] 38)).alloc (.cells #[.slice none 0 0, .slice none 0 0, .slice none 0 0, .slice none 0 0] 124)).alloc (.cells #[.int .i64 0, .int .i64 0, .int .i64 0, .int .i64 0, .int .i64 0, .int .i64 0, .int .i64 0, .int .i64 0] 125) = W3 at *
  go_loopg [42] 4 (fun m s42 wr => ∃ k : Nat, m = 4 - k ∧ k ≤ 4 ∧ s42 = .int .i64 k ∧ Below w.heap.size w wr ∧ wr.heap[w.heap.size]? = some (.cells #[.int .i64 x, .int .i64 y] 38 (0, 0)) ∧
    wr.heap[w.heap.size + 1]? = some (.cells #[.slice none 0 0, .slice none 0 0, .slice none 0 0, .slice none 0 0] 124 (0, 0)) ∧ ∃ cs, wr.heap[w.heap.size + 1 + 1]? = some (.cells cs 125 (0, 0)) ∧ LowsAt x y z k cs)
  case atStart => exact ⟨0, by omega, by omega, rfl, hB3, hb0, hb1, _, hb2, rfl, fun j hj => by omega⟩
  case round =>
    clear hB3 hb0 hb1 hb2
    obtain ⟨k, hm, hk, rfl, hB, hb0, hb1, cs, hb2, hcs⟩ := hrel
    have v0 : wr.cell? ⟨w.heap.size, 0, none⟩ = some (.int .i64 x) := by rw [cell_of_row _ _ _ _ _ _ hb0]; rfl
    have v1 : wr.cell? ⟨w.heap.size, 1, none⟩ = some (.int .i64 y) := by rw [cell_of_row _ _ _ _ _ _ hb0]; rfl
    by_cases hk4 : k = 4
    · subst hk4
      have hge : ¬ ((4 : Int) < 4) := by omega
      have hlz : (((4 : Nat) : Int)) = 4 := rfl
      rw [hlz]
      have HLows := Lib.hid hcs
      clear hcs hm hk hlz
      go_wp2_with fail
      have Hb0 := Lib.hid hb0
      clear v0 v1
      go_loopg [68] ps.length (fun m s68 wr => ∃ k : Nat, m = ps.length - k ∧ k ≤ ps.length ∧ s68 = .int .i64 k ∧ Below w.heap.size w wr ∧ w.heap.size + 1 + 1 + 1 ≤ wr.heap.size ∧ wr.heap[w.heap.size]? = some (.cells #[.int .i64 x, .int .i64 y] 38 (0, 0)) ∧
        wr.heap[w.heap.size + 1 + 1]? = some (.cells cs 125 (0, 0)) ∧ ∃ V, Parts wr (w.heap.size + 1) (w.heap.size + 1 + 1 + 1) V (part4 f x y (ps.take k)))
      case atStart => exact ⟨0, by omega, by omega, rfl, hB, lt_of_block hb2, Hb0.out, hb2, _, by rw [List.take_zero]; exact Parts.nil _ _ _ hb1⟩
      case round =>
        clear hB hb0 hb1 hb2 Hb0
        obtain ⟨k, hm, hk, rfl, hB, hbs, hb0, hb2, V, hparts⟩ := hrel
        by_cases hkn : k = ps.length
        · subst hkn
          have hge2 : ¬ ((ps.length : Int) < (ps.length : Int)) := by omega
          rw [List.take_length] at hparts
          clear hm hk
          go_wp2_with fail
          have hB8 := hB.alloc hB.size (.cells #[.int .u32 0, .int .u32 0, .int .u32 0, .int .u32 0] 81)
          have hbk : (wr.alloc (.cells #[.int .u32 0, .int .u32 0, .int .u32 0, .int .u32 0] 81)).heap[wr.heap.size]? = some (.cells #[.int .u32 0, .int .u32 0, .int .u32 0, .int .u32 0] 81 (0, 0)) := heap_alloc_new _ _
          have hb28 := (Below.heap_alloc wr (.cells #[.int .u32 0, .int .u32 0, .int .u32 0, .int .u32 0] 81) _ (lt_of_block hb2)).trans hb2
          have hparts8 := hparts.newB ((Below.refl _ _).alloc (Nat.le_refl _) (.cells #[.int .u32 0, .int .u32 0, .int .u32 0, .int .u32 0] 81))
          have hz8 : wr.heap.size < (wr.alloc (.cells #[.int .u32 0, .int .u32 0, .int .u32 0, .int .u32 0] 81)).heap.size := by simp
          have hVlt : ∀ i, i < 4 → ∀ k, (V i).ownBlock = some k → k < wr.heap.size := fun i hi k hk => (hparts.row i hi).lt hk
          clear hB hb0 hb2 hparts
          generalize hKB : wr.heap.size = KB at *
          clear hKB
          generalize wr.alloc (.cells #[.int .u32 0, .int .u32 0, .int .u32 0, .int .u32 0] 81) = W8 at *
          have ar8 : ArS W8 p F A := ar.new hB8
          have hFlt := fun k (hk : F.at p k) => ar.toArM.foot_lt hk
          have map8 : PtMap W8 b n g := map.new hB8
          have hblt := map.lt
          have hused := used_all f x y ps
          have hum := fun {i j : Nat} => used_mono (part4 f x y ps) (i := i) (j := j)
          have Hused := Lib.hid hused
          have Hum := Lib.hid (fun (i j : Nat) (h : i ≤ j) => used_mono (part4 f x y ps) h)
          clear hused hum
          go_loopg [88] 4 (fun m s88 wr => ∃ i : Nat, m = 4 - i ∧ i ≤ 4 ∧ s88 = .int .i64 i ∧ ∃ F' A' ks, ArS wr p F' A' ∧ A'.Ok ∧ Ext A A' ∧ Touch (fun k => F.at p k ∨ k = KB) W8 wr ∧ (∀ k, k < W8.heap.size → F'.at p k → F.at p k) ∧
            A'.room ≤ A.room + used (part4 f x y ps) i * (f + 1) ∧ wr.heap[KB]? = some (.cells ks 81 (0, 0)) ∧ KidsAt g f x y z (part4 f x y ps) A' i ks)
          case atStart => exact ⟨0, by omega, by omega, rfl, F, A, _, ar8, ok, .refl _, .refl _ _, fun _ _ h => h, by simp [used], hbk, rfl, fun _ => 0, fun j hj => by omega⟩
          case round =>
            clear hbk
            obtain ⟨i, hm, hi4, rfl, F', A', ks, arq, okq, hext, hT, hfoot, hroomq, hbk, hkids⟩ := hrel
            by_cases hi : i = 4
            · subst hi
              have hge3 : ¬ ((4 : Int) < 4) := by omega
              obtain ⟨hks, r, hr⟩ := hkids
              obtain ⟨a0, b0, c0⟩ := hr 0 (by omega)
              obtain ⟨a1, b1, c1⟩ := hr 1 (by omega)
              obtain ⟨a2, b2, c2⟩ := hr 2 (by omega)
              obtain ⟨a3, b3, c3⟩ := hr 3 (by omega)
              have k0 : wr.cell? ⟨KB, 0, none⟩ = some (U32 (r 0)) := by rw [cell_of_row _ _ _ _ _ _ hbk]; exact a0
              have k1 : wr.cell? ⟨KB, 1, none⟩ = some (U32 (r 1)) := by rw [cell_of_row _ _ _ _ _ _ hbk]; exact a1
              have k2 : wr.cell? ⟨KB, 2, none⟩ = some (U32 (r 2)) := by rw [cell_of_row _ _ _ _ _ _ hbk]; exact a2
              have k3 : wr.cell? ⟨KB, 3, none⟩ = some (U32 (r 3)) := by rw [cell_of_row _ _ _ _ _ _ hbk]; exact a3
              rw [Hused.out] at hroomq
              have h4 : ps.length * (f + 1 + 1) = ps.length * (f + 1) + ps.length := Nat.mul_succ _ _
              have hjoin := join_ret arq okq (by omega) (L := f + 2) (by omega) (by omega) b0 b1 b2 b3 c0.1 c1.1 c2.1 c3.1
              have hall : ∀ j, j < 4 → r j < A'.nodes.length ∧ BuildR g f (x + z * (j % 2 : Nat)) (y + z * (j / 2 : Nat)) (part4 f x y ps j) (r j) A' := fun j hj => (hr j hj).2
              have Hall := Lib.hid hall
              clear hr a0 a1 a2 a3 b0 b1 b2 b3 c0 c1 c2 c3 hall hks hm hi4 h4
              generalize hr0 : r 0 = r0 at *
              generalize hr1 : r 1 = r1 at *
              generalize hr2 : r 2 = r2 at *
              generalize hr3 : r 3 = r3 at *
              have Hr0 := Lib.hid hr0
              have Hr1 := Lib.hid hr1
              have Hr2 := Lib.hid hr2
              have Hr3 := Lib.hid hr3
              clear hr0 hr1 hr2 hr3
              go_wp2_with fail
              refine hjoin.mono ?_
              rintro e w9 ⟨r9, err9, F9, A9, rfl, hs9, ok9, hext9, hst9, hroom9, hres9⟩
              have hst : Step p F w F9 w9 := by
                have h1 := (Touch.of_new (S := Only) hB8).trans (S'' := F.at p) hT (fun _ _ h => h.elim) (fun k hk h => by
                  rcases h with h | h
                  · exact h
                  · omega)
                have h2 : Step p F w F' wr := ⟨h1, fun k hk h => hfoot k (Nat.lt_of_lt_of_le hk hB8.size) h⟩
                exact h2.trans hst9
              have h4 : ps.length * (f + 2) = ps.length * (f + 1) + ps.length := Nat.mul_succ _ _
              have hroomf : A9.room ≤ A.room + ps.length * (f + 2) := by omega
              clear h4 hst9 hT hfoot k0 k1 k2 k3 hjoin
              go_wp2
              go_ret2
              refine ⟨r9, err9, F9, A9, rfl, hs9, ok9, hext.trans hext9, hst, hroomf, ?_⟩
              rcases hres9 with ⟨e1, e2, e3⟩ | hres9
              · refine .inl ⟨e1, e2, BuildR.join (by rw [e3]; rfl) fun j hj => ?_⟩
                rw [Hz.out]
                have hj4 : j = 0 ∨ j = 1 ∨ j = 2 ∨ j = 3 := by omega
                have h5 := Hall.out j hj
                have h6 : (ndAt A9.nodes r9).kid j = r j := by
                  rw [e3, ← Hr0.out, ← Hr1.out, ← Hr2.out, ← Hr3.out]
                  rcases hj4 with rfl | rfl | rfl | rfl <;> rfl
                rw [h6]
                exact h5.2.ext hext9 okq.wf h5.1
              · exact .inr hres9
            have hlt : (i : Int) < 4 := by omega
            have hNF : ∀ k, k < W8.heap.size → ¬ F.at p k → ¬ F'.at p k := fun k h1 h2 h3 => h2 (hfoot k h1 h3)
            have hpq : Parts wr (w.heap.size + 1) (w.heap.size + 1 + 1 + 1) V (part4 f x y ps) := hparts8.move hT (fun h => by
                rcases h with h | h
                · have := hFlt _ h; omega
                · omega) (fun i hi k hk h => by
                have h1 := hparts8.new i hi k hk
                have h2 := hVlt i hi k hk
                rcases h with h | h
                · have := hFlt _ h; omega
                · omega)
            have hbq : wr.heap[w.heap.size + 1 + 1]? = some (.cells cs 125 (0, 0)) := (hT.block _ (lt_of_block hb28) (fun h => by
                rcases h with h | h
                · have := hFlt _ h; omega
                · omega)).trans hb28
            have mapq : PtMap wr b n g := map8.move hT (fun h => by
                rcases h with h | h
                · exact nb h
                · omega)
            have hcell := hpq.cell (q := i) (by omega)
            have hlows := HLows.out.2 i (by omega)
            obtain ⟨u, hu⟩ : ∃ u : Nat, u = i % 2 := ⟨_, rfl⟩
            obtain ⟨t, ht⟩ : ∃ t : Nat, t = i / 2 := ⟨_, rfl⟩
            rw [← hu, ← ht] at hlows
            have hu1 : u = 0 ∨ u = 1 := by omega
            have ht1 : t = 0 ∨ t = 1 := by omega
            obtain ⟨z4, hz4, _⟩ := pow_four f
            rw [Hz.out] at hz4
            have hlen1 := Hum.out (i + 1) 4 (by omega)
            rw [Hused.out] at hlen1
            simp only [used] at hlen1
            have hmul := Nat.mul_le_mul_right (f + 1) hlen1
            rw [Nat.add_mul] at hmul
            have hmul2 : ps.length * (f + 1 + 1) = ps.length * (f + 1) + ps.length := Nat.mul_succ _ _
            have hxu : -8796093022208 ≤ x + z * u ∧ x + z * u + z ≤ 8796093022208 := by rcases hu1 with rfl | rfl <;> simp <;> omega
            have hyt : -8796093022208 ≤ y + z * t ∧ y + z * t + z ≤ 8796093022208 := by rcases ht1 with rfl | rfl <;> simp <;> omega
            have hxm : (x + z * u) % 4 = 0 := by have := Hxm.out; rcases hu1 with rfl | rfl <;> simp <;> omega
            have hym : (y + z * t) % 4 = 0 := by have := Hym.out; rcases ht1 with rfl | rfl <;> simp <;> omega
            have hplen := part4_le f x y ps i
            have hok : BldOk wr.drew p F' A' (V i) (part4 f x y ps i) b n g f (x + z * u) (y + z * t) :=
              ⟨arq.drew, okq, (hpq.row i (by omega)).move (S := Only) (Touch.refl _ _).drew (fun _ _ h => h), mapq.move (S := Only) (Touch.refl _ _).drew (fun h => h), fun k hk => hNF k (by have := hVlt i (by omega) k hk; omega) (fun h => by have := hFlt _ h; have := hpq.new i (by omega) k hk; omega), hNF b (by omega) nb,
                Hnd.out.filter _, fun q hq => by
                  have := Hsub.out q (mem_part4.1 hq).1
                  rw [(mem_part4.1 hq).2, ← hu, ← ht] at this
                  exact this, fun q hq => Hlf.out q (mem_part4.1 hq).1, hxm, hym, hxu.1, by rw [Hz.out]; exact hxu.2, hyt.1, by rw [Hz.out]; exact hyt.2, by omega, by omega⟩
            have hrec := Ih.out _ _ _ _ _ _ _ hok L' HL'.out
            have hcz := HLows.out.1
            have l0 : wr.cell? ⟨w.heap.size + 1 + 1, i * 2, none⟩ = some (.int .i64 (x + z * u)) := by rw [cell_of_row _ _ _ _ _ _ hbq]; exact hlows.1
            have l1 : wr.cell? ⟨w.heap.size + 1 + 1, i * 2 + 1, none⟩ = some (.int .i64 (y + z * t)) := by rw [cell_of_row _ _ _ _ _ _ hbq]; exact hlows.2
            have hc1 := (hpq.cell (q := i) (by omega))
            have hks := hkids.1
            have kc : wr.cell? ⟨KB, i, none⟩ = some ks[i] := by rw [cell_of_row _ _ _ _ _ _ hbk, Array.getElem?_eq_getElem (by omega)]
            generalize ks[i] = kc0 at kc
            have n1 : ¬ F'.at p (w.heap.size + 1) := hNF _ (by omega) (fun h => by have := hFlt _ h; omega)
            have n2 : ¬ F'.at p (w.heap.size + 1 + 1) := hNF _ (by omega) (fun h => by have := hFlt _ h; omega)
            have n3 : ¬ F'.at p KB := hNF _ hz8 (fun h => by have := hFlt _ h; omega)
            have hlk := lt_of_block hbk
            have Hkids := Lib.hid hkids
            have Hu := Lib.hid hu
            have Ht := Lib.hid ht
            have hwL : IntKind.i64.wrap (L' : Int) = L' := IntWalk.i64_in _ (by omega)
            clear hkids hu ht hu1 ht1 hxm hym hxu hyt hlows hbq hpq hok hcell mapq hks hz4 hcz hmul hmul2
            generalize V i = vi at hrec hc1
            go_wp2_with fail
            refine wp_region_planN 16 (fun w' => w'.cell? ⟨w.heap.size + 1, i, none⟩ = some vi ∧ w'.cell? ⟨w.heap.size + 1 + 1, i * 2, none⟩ = some (.int .i64 (x + z * u)) ∧ w'.cell? ⟨w.heap.size + 1 + 1, i * 2 + 1, none⟩ = some (.int .i64 (y + z * t)))
              [11, 16, 17] [14] [0, 1, 2, 3, 4, 5, 6, 7, 8, 9, 10, 11, 12, 13, 14, 15, 16, 17] (by kernel_rfl) (by kernel_rfl) (fun _ _ d _ _ h => by cases d <;> exact h) ⟨hc1, l0, l1⟩ ?_
            repeat ((first | (refine' wpPlan_q rfl rfl rfl ?_ ?_; rotate_left; (focus (intro _ hSw; (try dsimp only at hSw); go_simp; (try with_reducible rfl); done))) | (refine' wpPlan_p rfl rfl rfl ?_ ?_; rotate_left; (focus (intro _; go_simp; (try with_reducible rfl); done)))); (try simp only [Act.put, List.setIfInBounds_toArray, List.set_cons_zero, List.set_cons_succ]))
            refine wpPlan_x rfl rfl (fun K hK => ?_)
            go_simp
            refine hrec.mono ?_
            rintro e w7 ⟨r, err, F7, A7, rfl, hs7, ok7, hx7, hst7, hroom7, hres⟩
            have hT7 := hst7.touch
            refine hK _ _ (fun _ => ⟨hT7.kept hc1 n1, hT7.kept l0 n2, hT7.kept l1 n2⟩) ?_
            clear hK K
            (try simp only [Act.put, List.setIfInBounds_toArray, List.set_cons_zero, List.set_cons_succ])
            repeat ((first | (refine' wpPlan_q rfl rfl rfl ?_ ?_; rotate_left; (focus (intro _ hSw; (try dsimp only at hSw); go_simp; (try with_reducible rfl); done))) | (refine' wpPlan_p rfl rfl rfl ?_ ?_; rotate_left; (focus (intro _; go_simp; (try with_reducible rfl); done)))); (try simp only [Act.put, List.setIfInBounds_toArray, List.set_cons_zero, List.set_cons_succ]))
            have hbk7 : w7.heap[KB]? = some (.cells ks 81 (0, 0)) := (hT7.block _ hlk n3).trans hbk
            have hc7 := hT7.kept kc n3
            have hf7 : w7.frozen? ⟨KB, i, none⟩ = false := frozen_of_row _ _ _ _ _ hbk7
            refine wpPlan_x rfl rfl (fun K hK => ?_)
            go_simp
            refine hK _ _ (fun h => absurd h (by decide)) ?_
            clear hK K
            (try simp only [Act.put, List.setIfInBounds_toArray, List.set_cons_zero, List.set_cons_succ])
            refine wpPlan_x rfl rfl (fun K hK => ?_)
            go_simp
            refine hK _ _ (fun h => absurd h (by decide)) (wpPlan_nil ?_)
            clear hK K
            (try simp only [Act.put, List.setIfInBounds_toArray, List.set_cons_zero, List.set_cons_succ])
            have hbk8 := heap_setCell_same w7 KB i _ _ (U32 r) hbk7
            have hTs : Touch (fun k => k = KB) w7 (w7.setCell ⟨KB, i, none⟩ (U32 r)) := (Touch.refl (fun k => k = KB) w7).setCell (p := ⟨KB, i, none⟩) (fun _ => rfl) _
            have hs8 : ArS (w7.setCell ⟨KB, i, none⟩ (U32 r)) p F7 A7 := hs7.move hTs (fun k hk e => n3 (hst7.foot _ hlk (e ▸ hk)))
            have hT8 : Touch (fun k => F.at p k ∨ k = KB) W8 (w7.setCell ⟨KB, i, none⟩ (U32 r)) := by
              have h1 := hT.trans (S'' := fun k => F.at p k ∨ k = KB) (Touch.trans (Touch.drew (Touch.refl Only wr)) hT7 (S'' := F'.at p) (fun _ _ h => h.elim) (fun _ _ h => h)) (fun _ _ h => h) (fun k hk h => .inl (hfoot k hk h))
              exact h1.trans (S'' := fun k => F.at p k ∨ k = KB) hTs (fun _ _ h => h) (fun _ _ h => .inr h)
            have hfoot8 : ∀ k, k < W8.heap.size → F7.at p k → F.at p k := fun k hk h => hfoot k hk (hst7.foot k (Nat.lt_of_lt_of_le hk hT.size) h)
            have hroom8 : A7.room ≤ A.room + used (part4 f x y ps) (i + 1) * (f + 1) := by simp only [used]; rw [Nat.add_mul]; omega
            have hext8 := hext.trans hx7
            clear hc7 hf7 hTs hbk7 hT7 hst7 hs7 hrec hc1 l0 l1 kc hT hbk arq
            generalize w7.setCell ⟨KB, i, none⟩ (U32 r) = w8 at *
            rcases hres with ⟨rfl, hrl, hR⟩ | ⟨rfl, rfl, hfull⟩
            · simp only [errV]
              go_wp2
              go_roundg (4 - (i + 1))
              case measure => omega
              case rel =>
                refine ⟨i + 1, rfl, by omega, by go_num, F7, A7, _, hs8, ok7, hext8, hT8, hfoot8, hroom8, hbk8, Hkids.out.step (by omega) hx7 okq.wf hrl ?_⟩
                rw [← Hu.out, ← Ht.out]
                exact hR
            · simp only [errV]
              go_wp2
              go_ret2
              have hst : Step p F w F7 w8 := by
                have h1 := (Touch.of_new (S := Only) hB8).trans (S'' := F.at p) hT8 (fun _ _ h => h.elim) (fun k hk h => by
                  rcases h with h | h
                  · exact h
                  · omega)
                exact ⟨h1, fun k hk h => hfoot8 k (Nat.lt_of_lt_of_le hk hB8.size) h⟩
              refine ⟨0, some 8, F7, A7, rfl, hs8, ok7, hext8, hst, ?_, .inr ⟨rfl, rfl, hfull⟩⟩
              have h3 := Nat.mul_le_mul_right (f + 1) (Hum.out (i + 1) 4 (by omega))
              rw [Hused.out] at h3
              have h4 : ps.length * (f + 2) = ps.length * (f + 1) + ps.length := Nat.mul_succ _ _
              omega
        have hlt : (k : Int) < (ps.length : Int) := by omega
        have hrowk : PtRow wr (.slice (some ⟨gv, 0, none⟩) ps.length vcap) ps := Hrow.out.move (S := Only) (.of_new hB) fun _ _ h => h
        obtain ⟨c0, c1⟩ := PtRow.at hrowk (i := k) (by omega)
        have htk : ps.take (k + 1) = ps.take k ++ [ps[k]] := List.take_succ_eq_append_getElem (by omega)
        generalize ps[k] = q at c0 c1 htk
        have Htk := Lib.hid htk
        have hquart := Hquart.out q
        have hq4 := qd_lt f x y q
        have hsn := part4_snoc f x y (ps.take k) q
        have hple := part4_le f x y (ps.take k) (qd f x y q)
        have htl := List.length_take_le k ps
        have Hsn := Lib.hid hsn
        clear hrowk htk hsn
        generalize quadA (f + 2) x q.1 = s at hquart
        generalize quadA (f + 2) y q.2 = t at hquart
        generalize qd f x y q = qq at hquart hq4 Hsn hple
        obtain ⟨qa, qb⟩ := q
        dsimp only at c0 c1 hquart
        have v0 : ∀ o, (wr.alloc o).cell? ⟨w.heap.size, 0, none⟩ = some (.int .i64 x) := fun o => (World.cell?_alloc_past _ _ _ (by omega)).trans (by rw [cell_of_row _ _ _ _ _ _ hb0]; rfl)
        have v1 : ∀ o, (wr.alloc o).cell? ⟨w.heap.size, 1, none⟩ = some (.int .i64 y) := fun o => (World.cell?_alloc_past _ _ _ (by omega)).trans (by rw [cell_of_row _ _ _ _ _ _ hb0]; rfl)
        go_wp2_with fail
        refine (hquart _).mono ?_
        rintro e w4 ⟨rfl, hb4⟩
        have hz4 := hb4.size
        simp only [World.size_alloc] at hz4
        have hB4 : Below wr.heap.size wr w4 := ((Below.refl _ _).alloc (Nat.le_refl _) _).trans (hb4.mono (by simp))
        have p0 : ∀ o, (w4.alloc o).cell? ⟨wr.heap.size, 0, none⟩ = some (.int .i64 qa) := fun o => (World.cell?_alloc_past _ _ _ (by omega)).trans ((hb4.cell (p := ⟨wr.heap.size, 0, none⟩) (by simp)).trans (World.cell?_alloc_new _ _ _ _))
        have p1 : ∀ o, (w4.alloc o).cell? ⟨wr.heap.size, 1, none⟩ = some (.int .i64 qb) := fun o => (World.cell?_alloc_past _ _ _ (by omega)).trans ((hb4.cell (p := ⟨wr.heap.size, 1, none⟩) (by simp)).trans (World.cell?_alloc_new _ _ _ _))
        clear v0 v1 hb4 hquart c0 c1
        go_wp2_with fail
        have hB5 := hB4.alloc hB4.size (.cells #[.int .i64 s, .int .i64 t] 38)
        have hz5 : w4.heap.size < (w4.alloc (.cells #[.int .i64 s, .int .i64 t] 38)).heap.size := by simp
        replace p0 := p0 (.cells #[.int .i64 s, .int .i64 t] 38)
        replace p1 := p1 (.cells #[.int .i64 s, .int .i64 t] 38)
        generalize w4.alloc (.cells #[.int .i64 s, .int .i64 t] 38) = W5 at *
        have hp5 := hparts.newB hB5
        have hcell5 := hp5.cell hq4
        have hqi : (qq : Int) < 4 := by omega
        have hrow5 := hp5.row qq hq4
        obtain ⟨i0, hi0, hz0, hz1, hz2⟩ := info_parts infoPt
        have hnb : ¬ (V qq).ownBlock = some (w.heap.size + 1) := fun e => by have := hparts.new qq hq4 _ e; omega
        generalize hVq : V qq = vq at hcell5 hrow5 hnb
        refine wp_region_planN 6 (fun w' => w'.cell? ⟨w.heap.size + 1, qq, none⟩ = some vq ∧ w'.cell? ⟨wr.heap.size, 0, none⟩ = some (.int .i64 qa) ∧ w'.cell? ⟨wr.heap.size, 1, none⟩ = some (.int .i64 qb))
          [5, 6, 7, 8] [0] [0, 1, 2, 3, 4, 5, 6, 7, 8] (by kernel_rfl) (by kernel_rfl) (fun _ _ d _ _ h => by cases d <;> exact h) ⟨hcell5, p0, p1⟩ ?_
        repeat ((first | (refine' wpPlan_q rfl rfl rfl ?_ ?_; rotate_left; (focus (intro _ hSw; (try dsimp only at hSw); go_simp; (try with_reducible rfl); done))) | (refine' wpPlan_p rfl rfl rfl ?_ ?_; rotate_left; (focus (intro _; go_simp; (try with_reducible rfl); done)))); (try simp only [Act.put, List.setIfInBounds_toArray, List.set_cons_zero, List.set_cons_succ]))
        refine wpPlan_x rfl rfl (fun K hK => ?_)
        go_simp
        have hlz5 : w.heap.size + 1 < W5.heap.size := by omega
        refine hK _ _ (fun _ => ⟨(World.cell?_alloc_past _ _ _ hlz5).trans hcell5, (World.cell?_alloc_past _ _ _ (by omega)).trans p0, (World.cell?_alloc_past _ _ _ (by omega)).trans p1⟩) ?_
        clear hK K
        (try simp only [Act.put, List.setIfInBounds_toArray, List.set_cons_zero, List.set_cons_succ])
        have hple2 : (part4 f x y (ps.take k) qq).length ≤ 1000000 := by omega
        refine wpPlan_x rfl rfl (fun K hK => ?_)
        refine wp_append_lies _ _ _ _ rfl 0 38 i0 _ 2 16 Try.underlying101 hi0 hz0 hz1 hz2 rfl (by omega) vq (part4 f x y (ps.take k) qq).length ((part4 f x y (ps.take k) qq).flatMap ptCells) rfl ((hrow5.alloc _).drew) ⟨W5.heap.size, 0, none⟩ 1 1 [.int .i64 qa, .int .i64 qb] rfl rfl
          (World.news_of_block (cs := #[.int .i64 qa, .int .i64 qb]) (t := 38) (fr := (0, 0)) (heap_alloc_new W5 _)) (by simp [Value.oneCell']) (by omega) (by unfold maxLen; omega) (by omega) (Nat.zero_le _) (W5.heap.size + 1) (by simp) ?_
        intro gg cap w6 hown6 hgrow hat hlt6
        have hnb2 : some (w.heap.size + 1) ≠ vq.ownBlock := fun e => hnb e.symm
        have hcz6 : w6.cell? ⟨w.heap.size + 1, qq, none⟩ = some vq := (hgrow.cell_far _ (by first | (simp; done) | (simp; omega)) hnb2).trans ((World.cell?_alloc_past _ _ _ hlz5).trans hcell5)
        have hfz6 : w6.frozen? ⟨w.heap.size + 1, qq, none⟩ = false := (hgrow.frozen_far _ (by first | (simp; done) | (simp; omega)) hnb2).trans ((World.frozen?_alloc_past _ _ _ hlz5).trans (frozen_of_row _ _ _ _ _ hp5.blk))
        refine hK _ _ (fun h => absurd h (by decide)) ?_
        clear hK K
        (try simp only [Act.put, List.setIfInBounds_toArray, List.set_cons_zero, List.set_cons_succ])
        refine wpPlan_x rfl rfl (fun K hK => ?_)
        go_simp
        refine hK _ _ (fun h => absurd h (by decide)) ?_
        clear hK K
        (try simp only [Act.put, List.setIfInBounds_toArray, List.set_cons_zero, List.set_cons_succ])
        refine wpPlan_x rfl rfl (fun K hK => ?_)
        go_simp
        refine hK _ _ (fun h => absurd h (by decide)) (wpPlan_nil ?_)
        clear hK K
        (try simp only [Act.put, List.setIfInBounds_toArray, List.set_cons_zero, List.set_cons_succ])
        subst hVq
        have hBa : Below wr.heap.size wr (W5.alloc (.cells #[.int .i64 qa, .int .i64 qb] 38)).drew := (hB5.alloc hB5.size _).drew
        have hfin := hparts.put (pt := (qa, qb)) hq4 hBa (by omega) hbs hgrow hown6 (hat.imp id fun h => by rw [h]; simp)
        have hT6 : Touch (fun k => k = w.heap.size + 1 ∨ (V qq).ownBlock = some k) wr (w6.setCell ⟨w.heap.size + 1, qq, none⟩ (.slice (some ⟨gg, 0, none⟩) ((part4 f x y (ps.take k) qq).length + 1) cap)) :=
          ((Touch.of_new (S := fun k => k = w.heap.size + 1 ∨ (V qq).ownBlock = some k) hBa).grown hgrow (fun k hk _ => .inr hk)).setCell (p := ⟨w.heap.size + 1, qq, none⟩) (fun _ => .inl rfl) _
        clear hat hgrow hown6 hcz6 hfz6 hrow5 hcell5 hp5 p0 p1 hB5 hB4 hBa
        generalize w6.setCell ⟨w.heap.size + 1, qq, none⟩ (.slice (some ⟨gg, 0, none⟩) ((part4 f x y (ps.take k) qq).length + 1) cap) = w7 at *
        have hnV := hparts.new qq hq4
        have hB7 : Below w.heap.size w w7 := by
          have := (Touch.of_new (S := Only) hB).trans (S'' := fun k => w.heap.size ≤ k) hT6 (fun _ _ h => h.elim) (fun k _ hk => by
            rcases hk with hk | hk
            · omega
            · have := hnV k hk; omega)
          exact this.below fun k hk h => by omega
        have hb07 := (hT6.block _ (lt_of_block hb0) (fun h => by
            rcases h with h | h
            · omega
            · have := hnV _ h; omega)).trans hb0
        have hb27 := (hT6.block _ (lt_of_block hb2) (fun h => by
            rcases h with h | h
            · omega
            · have := hnV _ h; omega)).trans hb2
        have hz7 := hT6.size
        clear hT6 hparts hB hb0 hb2
        go_wp2
        go_roundg (ps.length - (k + 1))
        case measure => omega
        case rel =>
          refine ⟨k + 1, rfl, by omega, by go_num, hB7, by omega, hb07, hb27, upd V qq (.slice (some ⟨gg, 0, none⟩) ((part4 f x y (ps.take k) qq).length + 1) cap), ?_⟩
          have he : part4 f x y (ps.take (k + 1)) = upd (part4 f x y (ps.take k)) qq (part4 f x y (ps.take k) qq ++ [(qa, qb)]) := by
            funext i
            rw [Htk.out, Hsn.out]
            unfold upd
            by_cases e : i = qq
            · subst e; rfl
            · rw [if_neg e, if_neg e]
          rw [he]
          exact hfin
    have hlt : (k : Int) < 4 := by omega
    obtain ⟨u, hu⟩ : ∃ u : Nat, u = k % 2 := ⟨_, rfl⟩
    obtain ⟨t, ht⟩ : ∃ t : Nat, t = k / 2 := ⟨_, rfl⟩
    have e1 : bits .and .i64 (k : Int) 1 = (u : Int) := by rw [hu]; exact and1_i64 k (by omega)
    have e2 : (k : Int) / 2 = (t : Int) := by omega
    have hu1 : u = 0 ∨ u = 1 := by omega
    have ht1 : t = 0 ∨ t = 1 := by omega
    have e3 : IntKind.i64.wrap (z * u) = z * u := IntWalk.i64_in _ (by rcases hu1 with rfl | rfl <;> simp <;> omega)
    have e4 : IntKind.i64.wrap (z * t) = z * t := IntWalk.i64_in _ (by rcases ht1 with rfl | rfl <;> simp <;> omega)
    have e5 : IntKind.i64.wrap (x + z * u) = x + z * u := IntWalk.i64_in _ (by rcases hu1 with rfl | rfl <;> simp <;> omega)
    have e6 : IntKind.i64.wrap (y + z * t) = y + z * t := IntWalk.i64_in _ (by rcases ht1 with rfl | rfl <;> simp <;> omega)
    have hstep := hcs.step (by omega : k < 4)
    rw [← hu, ← ht] at hstep
    have hcz := hcs.1
    have q0 : wr.cell? ⟨w.heap.size + 1 + 1, k * 2, none⟩ = some cs[k * 2] := by rw [cell_of_row _ _ _ _ _ _ hb2, Array.getElem?_eq_getElem (by omega)]
    have q1 : wr.cell? ⟨w.heap.size + 1 + 1, k * 2 + 1, none⟩ = some cs[k * 2 + 1] := by rw [cell_of_row _ _ _ _ _ _ hb2, Array.getElem?_eq_getElem (by omega)]
    have fz : ∀ j, wr.frozen? ⟨w.heap.size + 1 + 1, j, none⟩ = false := fun j => frozen_of_row _ _ _ _ _ hb2
    generalize cs[k * 2] = c0 at q0
    generalize cs[k * 2 + 1] = c1 at q1
    have Hstep := Lib.hid hstep
    clear hstep hcs hu ht hu1 ht1
    go_upto_region 11 with (fail)
    rw [Hsh.out]
    go_wp2_with fail
    have hT : Touch (fun k => k = w.heap.size + 1 + 1) wr ((wr.setCell ⟨w.heap.size + 1 + 1, k * 2, none⟩ (.int .i64 (x + z * u))).setCell ⟨w.heap.size + 1 + 1, k * 2 + 1, none⟩ (.int .i64 (y + z * t))) := ((Touch.refl (fun k => k = w.heap.size + 1 + 1) wr).setCell (p := ⟨w.heap.size + 1 + 1, k * 2, none⟩) (fun _ => rfl) _).setCell (p := ⟨w.heap.size + 1 + 1, k * 2 + 1, none⟩) (fun _ => rfl) _
    go_roundg (4 - (k + 1))
    case measure => omega
    case rel =>
      exact ⟨k + 1, rfl, by omega, by go_num, (hB.setCell (p := ⟨w.heap.size + 1 + 1, k * 2, none⟩) (show w.heap.size ≤ w.heap.size + 1 + 1 by omega) _).setCell (p := ⟨w.heap.size + 1 + 1, k * 2 + 1, none⟩) (show w.heap.size ≤ w.heap.size + 1 + 1 by omega) _,
        (hT.block _ (lt_of_block hb0) (by omega)).trans hb0, (hT.block _ (lt_of_block hb1) (by omega)).trans hb1, _, heap_setCell_same _ _ _ _ _ _ (heap_setCell_same wr _ _ _ _ _ hb2), Hstep.out⟩


theorem build_any {p b n : Nat} {g : Int → Int → Option Nat} : ∀ (f : Nat), f ≤ 42 → ∀ (w : World) (F : Foot) (A : Ar) (v : Value) (ps : List (Int × Int)) (x y : Int), BldOk w p F A v ps b n g f x y → ∀ L : Nat, L = f + 2 →
    Calls Try.prog 51 #[.pointer (some ⟨p, 0, none⟩), .int .i64 L, ptV x y, v, .map (some b)] w (Ret p F A (ps.length * (f + 1)) (BuildR g f x y ps) w)
  | 0, hf, w, F, A, v, ps, x, y, h, L, hL => by
    by_cases h0 : ps = []
    · subst h0
      have := build_none h hf hL
      simpa using this
    · subst hL
      have := build_leaf h h0
      rw [Nat.zero_add, Nat.mul_one]
      exact this
  | f + 1, hf, w, F, A, v, ps, x, y, h, L, hL => by
    by_cases h0 : ps = []
    · subst h0
      have := build_none h hf hL
      simpa using this
    · obtain ⟨L', rfl⟩ : ∃ L', L = L' + 1 := ⟨L - 1, by omega⟩
      have := build_join (by omega) (fun w F A v ps x y h L hL => build_any f (by omega) w F A v ps x y h L hL) h h0 L' (by omega)
      rwa [show ((L' : Int) + 1) = ((L' + 1 : Nat) : Int) by push_cast; rfl] at this

end Go.Proofs.Ytehmbhdapgkbcaa
