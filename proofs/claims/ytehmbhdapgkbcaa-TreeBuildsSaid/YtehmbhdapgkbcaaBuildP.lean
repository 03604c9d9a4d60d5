/- The points of a square, parted: plain. And a node of no points, a node of one leaf. -/
import Derived.Test.YtehmbhdapgkbcaaLeaves
namespace Go.Proofs.Ytehmbhdapgkbcaa
open Go.RowKit

def ptCells (q : Int × Int) : List Value := [.int .i64 q.1, .int .i64 q.2]
theorem ptCells_length (q : Int × Int) : (ptCells q).length = 2 := rfl
/-- A slice of points that owns its row. -/
abbrev PtRow (w : World) (v : Value) (l : List (Int × Int)) : Prop := Own w 38 2 v l.length (l.flatMap ptCells)
theorem PtRow.at {w : World} {l : List (Int × Int)} {g cap : Nat} (h : PtRow w (.slice (some ⟨g, 0, none⟩) l.length cap) l) {i : Nat} (hi : i < l.length) :
    w.cell? ⟨g, i * 2, none⟩ = some (.int .i64 l[i].1) ∧ w.cell? ⟨g, i * 2 + 1, none⟩ = some (.int .i64 l[i].2) := by
  refine ⟨?_, ?_⟩
  · have := World.ownsRow.cellAt h (i * 2 + 0) (by omega)
    rw [flatMap_get _ _ ptCells_length _ _ _ hi (by omega)] at this
    exact this
  · rw [World.ownsRow.cellAt h _ (by omega), flatMap_get _ _ ptCells_length _ _ _ hi (by omega)]; rfl
theorem infoPt : (Try.prog.info? 38).map (fun i => (i.zero, i.size, i.bytes)) = some (some (.agg #[.int .i64 0, .int .i64 0]), 2, 16) := by kernel_rfl

/-- What build makes of points: a node of just their leaves' cells. -/
def BuildR (g : Int → Int → Option Nat) (f : Nat) (x y : Int) (ps : List (Int × Int)) (r : Nat) (A : Ar) : Prop :=
  (ndAt A.nodes r).lv = f + 2 ∧ ∀ d, d ∈ cl A.nodes f r x y ↔ ∃ q ∈ ps, d ∈ leafCl ((g q.1 q.2).getD 0) q.1 q.2

theorem BuildR.ext {g : Int → Int → Option Nat} {f : Nat} {x y : Int} {ps : List (Int × Int)} {r : Nat} {A A' : Ar} (h : BuildR g f x y ps r A) (hx : Ext A A') (w : WF A.nodes) (hr : r < A.nodes.length) : BuildR g f x y ps r A' :=
  ⟨by rw [hx.nd hr]; exact h.1, fun d => by rw [hx.cl w _ _ hr h.1]; exact h.2 d⟩

def qd (f : Nat) (x y : Int) (q : Int × Int) : Nat := quad (f + 2) x y q.1 q.2
theorem qd_lt (f : Nat) (x y : Int) (q : Int × Int) : qd f x y q < 4 := quad_lt _ _ _ _ _
def part4 (f : Nat) (x y : Int) (l : List (Int × Int)) (i : Nat) : List (Int × Int) := l.filter fun q => decide (qd f x y q = i)
theorem part4_len (f : Nat) (x y : Int) : ∀ l : List (Int × Int), (part4 f x y l 0).length + (part4 f x y l 1).length + (part4 f x y l 2).length + (part4 f x y l 3).length = l.length
  | [] => rfl
  | q :: l => by
    have ih := part4_len f x y l
    have h := qd_lt f x y q
    have h4 : qd f x y q = 0 ∨ qd f x y q = 1 ∨ qd f x y q = 2 ∨ qd f x y q = 3 := by omega
    unfold part4 at *
    rcases h4 with h4 | h4 | h4 | h4 <;> simp [h4] <;> omega
theorem part4_le (f : Nat) (x y : Int) (l : List (Int × Int)) (i : Nat) : (part4 f x y l i).length ≤ l.length := List.length_filter_le _ _
theorem mem_part4 {f : Nat} {x y : Int} {l : List (Int × Int)} {i : Nat} {q : Int × Int} : q ∈ part4 f x y l i ↔ q ∈ l ∧ qd f x y q = i := by simp [part4]
theorem part4_snoc (f : Nat) (x y : Int) (l : List (Int × Int)) (q : Int × Int) (i : Nat) : part4 f x y (l ++ [q]) i = if i = qd f x y q then part4 f x y l i ++ [q] else part4 f x y l i := by
  unfold part4
  rw [List.filter_append]
  by_cases h : i = qd f x y q
  · rw [if_pos h]; simp [h.symm]
  · rw [if_neg h]; simp [Ne.symm h]

/-- Where points of a square lie. -/
def InP (f : Nat) (x y : Int) (q : Int × Int) : Prop := q.1 % 4 = 0 ∧ q.2 % 4 = 0 ∧ x ≤ q.1 ∧ q.1 + 4 ≤ x + 2 ^ (f + 2) ∧ y ≤ q.2 ∧ q.2 + 4 ≤ y + 2 ^ (f + 2)
theorem pow_four (f : Nat) : ∃ z : Int, (2 : Int) ^ (f + 2) = 4 * z ∧ 1 ≤ z := by
  refine ⟨2 ^ f, ?_, ?_⟩
  · rw [Int.pow_succ, Int.pow_succ]; omega
  · have : (0 : Int) < 2 ^ f := Int.pow_pos (by omega)
    omega
theorem InP.part {f : Nat} {x y : Int} {q : Int × Int} (h : InP (f + 1) x y q) (hx : x % 4 = 0) (hy : y % 4 = 0) : InP f (x + 2 ^ (f + 2) * (qd f x y q % 2 : Nat)) (y + 2 ^ (f + 2) * (qd f x y q / 2 : Nat)) q := by
  obtain ⟨z, hz, _⟩ := pow_four f
  unfold InP at *
  rw [show f + 1 + 2 = f + 2 + 1 from rfl, pow_more] at h
  unfold qd quad
  generalize (2 : Int) ^ (f + 2) = zz at *
  subst hz
  obtain ⟨h1, h2, h3, h4, h5, h6⟩ := h
  by_cases c1 : x + 4 * z ≤ q.1 <;> by_cases c2 : y + 4 * z ≤ q.2 <;> simp only [c1, c2, if_true, if_false, Nat.reduceAdd, Nat.reduceMod, Nat.reduceDiv, Nat.add_zero, Nat.zero_add, Int.natCast_one, Int.natCast_zero, Int.mul_zero, Int.mul_one, Int.add_zero] <;> refine ⟨h1, h2, ?_, ?_, ?_, ?_⟩ <;> first | trivial | omega

theorem BuildR.join {g : Int → Int → Option Nat} {f j : Nat} {x y : Int} {ps : List (Int × Int)} {A : Ar} (hl : (ndAt A.nodes j).lv = f + 3)
    (hk : ∀ i, i < 4 → BuildR g f (x + 2 ^ (f + 2) * (i % 2 : Nat)) (y + 2 ^ (f + 2) * (i / 2 : Nat)) (part4 f x y ps i) ((ndAt A.nodes j).kid i) A) : BuildR g (f + 1) x y ps j A := by
  refine ⟨hl, fun d => ?_⟩
  rw [← kidCl_all, List.mem_flatMap]
  constructor
  · rintro ⟨i, hi, hd⟩
    have hi4 : i < 4 := List.mem_range.1 hi
    obtain ⟨q, hq, h⟩ := ((hk i hi4).2 d).1 hd
    exact ⟨q, (mem_part4.1 hq).1, h⟩
  · rintro ⟨q, hq, h⟩
    exact ⟨qd f x y q, List.mem_range.2 (qd_lt _ _ _ _), ((hk _ (qd_lt _ _ _ _)).2 d).2 ⟨q, mem_part4.2 ⟨hq, rfl⟩, h⟩⟩

/-- What build asks. -/
structure BldOk (w : World) (p : Nat) (F : Foot) (A : Ar) (v : Value) (ps : List (Int × Int)) (b n : Nat) (g : Int → Int → Option Nat) (f : Nat) (x y : Int) : Prop where
  ar : ArS w p F A
  ok : A.Ok
  row : PtRow w v ps
  map : PtMap w b n g
  nf : ∀ k, v.ownBlock = some k → ¬ F.at p k
  nb : ¬ F.at p b
  nd : ps.Nodup
  sq : ∀ q ∈ ps, InP f x y q
  lf : ∀ q ∈ ps, (g q.1 q.2).getD 0 < 4294967296
  xm : x % 4 = 0
  ym : y % 4 = 0
  x0 : -8796093022208 ≤ x
  x1 : x + 2 ^ (f + 2) ≤ 8796093022208
  y0 : -8796093022208 ≤ y
  y1 : y + 2 ^ (f + 2) ≤ 8796093022208
  room : A.room + ps.length * (f + 1) < 2147483647
  len : ps.length < 1000000

theorem build_none {w : World} {p : Nat} {F : Foot} {A : Ar} {v : Value} {b n : Nat} {g : Int → Int → Option Nat} {f : Nat} {x y : Int} (h : BldOk w p F A v [] b n g f x y) (hf : f ≤ 42) {L : Nat} (hL : L = f + 2) :
    Calls Try.prog 51 #[.pointer (some ⟨p, 0, none⟩), .int .i64 L, ptV x y, v, .map (some b)] w (Ret p F A ([] : List (Int × Int)).length (BuildR g f x y []) w) := by
  obtain ⟨ar, ok, row, map, nf, nb, nd, sq, lf, xm, ym, x0, x1, y0, y1, room, len⟩ := h
  obtain ⟨va, vcap, rfl, _⟩ := row.slice
  simp only [List.length_nil, Nat.zero_mul, Nat.add_zero] at room
  have hemp := fun W (hW : ArS W p F A) => empty_any hW ok room (level := L) (by omega) (by omega)
  have hR : ∀ w e w', Ret p F A 0 (EmptyAt L) w e w' → Ret p F A 0 (BuildR g f x y []) w e w' := fun w e w' h => h.mono (fun r A' ok' _ hr h => ⟨by rw [h.1, hL], fun d => by
    rw [(cl_nil ok'.wf hr (by rw [h.1, hL])).1 h.2]; simp⟩) (Nat.le_refl _)
  have hback : ∀ e w', Ret p F A 0 (EmptyAt L) (w.alloc (.cells #[.int .i64 x, .int .i64 y] 38)) e w' → Ret p F A 0 (BuildR g f x y []) w e w' := fun e w' h => (hR _ _ _ h).back ((Below.refl _ _).alloc (Nat.le_refl _) _)
  clear hR x1 y1 sq lf row map hL
  simp only [List.length_nil]
  go_enter Try.func51, Try.ntmps51
  go_wp2_with fail
  refine (hemp _ (ar.alloc _)).mono ?_
  rintro e w1 hret
  have hfin := hback _ _ hret
  obtain ⟨r, err, F', A', rfl, -⟩ := hret
  go_wp2
  go_ret2
  exact hfin

end Go.Proofs.Ytehmbhdapgkbcaa
