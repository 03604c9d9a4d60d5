/- tree.Box: the walk. -/
import Derived.Test.YtehmbhdapgkbcaaMeasR
import Derived.Test.YtehmbhdapgkbcaaPutB
namespace Go.Proofs.Ytehmbhdapgkbcaa
open Go.RowKit

abbrev zeroB : Obj := .cells #[.int .i64 0, .int .i64 0, .int .i64 0, .int .i64 0] 53

/-- The box of a root's cells: none, or the least and the greatest. -/
def TBoxPost (l : List Cl) (w : World) (e : Ending) (w' : World) : Prop :=
  ((l = [] ∧ e = .returned (.tuple #[edgV 0 0 0 0, .bool false])) ∨ ∃ la lb ha hb, e = .returned (.tuple #[edgV la lb ha hb, .bool true]) ∧ BoxOf l la lb ha hb) ∧ Below w.heap.size w w'

theorem cells_shift (A : Ar) (i : Nat) : A.cells i = (cl A.nodes (A.lv i - 2) i 0 0).map fun c => ⟨c.a + -half (A.lv i), c.b + -half (A.lv i), c.h⟩ := by
  unfold Ar.cells
  have := cl_shift A.nodes (-half (A.lv i)) (-half (A.lv i)) (A.lv i - 2) i 0 0
  rw [Int.zero_add] at this
  exact this

set_option maxHeartbeats 4000000 in
set_option maxRecDepth 100000 in
theorem tbox_none {w : World} {p : Nat} {F : Foot} {A : Ar} (h : ArS w p F A) {i : Nat} (hi : i < A.nodes.length) (hn : A.nodes.length < 100000000) (hc : (ndAt A.nodes i).cnt = 0) (hl : 3 ≤ (ndAt A.nodes i).lv) :
    Calls Try.prog 20 #[.pointer (some ⟨p, 0, none⟩), .int .u32 i] w fun e w' => e = .returned (.tuple #[edgV 0 0 0 0, .bool false]) ∧ Below w.heap.size w w' := by
  have h1 := h.alloc zeroB
  have hlvl := h1.toArM.level (i := i) (by omega)
  rw [Ar.lvl_in hi] at hlvl
  have hcount := h1.toArM.count (i := i) (by omega)
  rw [hc] at hcount
  have hnl : ¬ (((ndAt A.nodes i).lv : Int) < 3) := by omega
  generalize (ndAt A.nodes i).lv = L at *
  clear hc hl
  go_enter Try.func20, Try.ntmps20
  go_wp2_with fail
  refine hlvl.mono ?_
  rintro e w' ⟨rfl, rfl⟩
  go_wp2_with fail
  refine hcount.mono ?_
  rintro e w' ⟨rfl, rfl⟩
  go_wp2_with fail
  exact bodyPost_ret (v := .tuple #[edgV 0 0 0 0, .bool false]) (by simp [results, Try.results20, go_sem]) rfl ⟨rfl, (Below.refl _ _).alloc (Nat.le_refl _) _⟩

set_option maxHeartbeats 4000000 in
set_option maxRecDepth 100000 in
theorem tbox_some {w : World} {p : Nat} {F : Foot} {A : Ar} (h : ArS w p F A) (ok : A.Ok) {i : Nat} (hl : 3 ≤ A.lv i) (hn : A.nodes.length < 100000000) (hc : A.cells i ≠ []) :
    Calls Try.prog 20 #[.pointer (some ⟨p, 0, none⟩), .int .u32 i] w fun e w' => (∃ la lb ha hb, e = .returned (.tuple #[edgV la lb ha hb, .bool true]) ∧ BoxOf (A.cells i) la lb ha hb) ∧ Below w.heap.size w w' := by
  have hmm := @run_makeMap Try.prog
  have hi := lvl_lt hl
  have h44 : A.lv i ≤ 44 := (ok.wf.lv hi).2
  have e2 : A.lv i - 2 + 2 = A.lv i := by omega
  have hsh := cells_shift A i
  have hne : cl A.nodes (A.lv i - 2) i 0 0 ≠ [] := fun h => hc (by rw [hsh, h]; rfl)
  have hcnt : (ndAt A.nodes i).cnt ≠ 0 := fun h => hne ((cl_nil ok.wf hi e2.symm).1 h)
  have hrange := cl_range ok.wf (A.lv i - 2) i 0 0 hi e2.symm
  rw [e2, half_two (by omega)] at hrange
  have h1 := h.alloc zeroB
  have hlvl := h1.toArM.level (i := i) (by omega)
  rw [Ar.lvl_in hi] at hlvl
  have hcount := h1.toArM.count (i := i) (by omega)
  have hcq : ((((ndAt A.nodes i).cnt : Nat) : Int) == 0) = false := by rw [beq_eq_false_iff_ne]; omega
  have hnl : ¬ (((ndAt A.nodes i).lv : Int) < 3) := by unfold Ar.lv at hl; omega
  have hB0 : Below w.heap.size w (w.alloc zeroB) := (Below.refl _ _).alloc (Nat.le_refl _) _
  have hR0 : (w.alloc zeroB).heap[w.heap.size]? = some (.cells #[.int .i64 0, .int .i64 0, .int .i64 0, .int .i64 0] 53 (0, 0)) := heap_alloc_new _ _
  have hz0 : (w.alloc zeroB).heap.size = w.heap.size + 1 := World.size_alloc _ _
  have hB1 : Below w.heap.size w ((w.alloc zeroB).alloc (.map #[] 0)) := hB0.alloc (by omega) _
  have hR1 : ((w.alloc zeroB).alloc (.map #[] 0)).heap[w.heap.size]? = some (.cells #[.int .i64 0, .int .i64 0, .int .i64 0, .int .i64 0] 53 (0, 0)) := (Below.heap_alloc _ _ _ (by omega)).trans hR0
  have hmap := UMap.made (w.alloc zeroB)
  rw [hz0] at hmap
  have hmeas := measure_rec (A.lv i - 2) (by omega) (i := i) (b := w.heap.size + 1) (g := fun _ => none) ⟨h1.alloc (.map #[] 0), ok, hi, e2.symm, hne, by rw [dom_none]; exact hmap, fun k v h => (by cases h), hn⟩ (A.lv i : Int) (by omega)
  have horg := origin_any (A.lv i) (by omega) h44
  have hhb := half_bounds h44
  have Hsh := Lib.hid hsh
  unfold Ar.lv at *
  generalize (ndAt A.nodes i).lv = L at *
  generalize (ndAt A.nodes i).cnt = cn at *
  generalize half L = Hf at *
  have hnd : decide ((L : Int) < 3) = false := decide_eq_false hnl
  clear hsh hc hne hcnt hmap hl e2 h44
  go_enter Try.func20, Try.ntmps20
  go_wp2_with fail
  refine hlvl.mono ?_
  rintro e w' ⟨rfl, rfl⟩
  clear hlvl
  go_wp2_with fail
  refine hcount.mono ?_
  rintro e w' ⟨rfl, rfl⟩
  clear hcount
  go_wp2_with fail
  refine hmeas.mono ?_
  rintro e w2 ⟨la, lb, ha, hb, g', rfl, hbo, -, -, -, hT2⟩
  have hz1 : ((w.alloc zeroB).alloc (.map #[] 0)).heap.size = w.heap.size + 1 + 1 := by rw [World.size_alloc, hz0]
  have hR2 := (hT2.block w.heap.size (by omega) (by omega)).trans hR1
  have hB2 : Below w.heap.size w w2 := hB1.trans (hT2.below0 (fun k hk => by omega) (by omega))
  have hz2 := hT2.size
  have hrg : 0 ≤ la ∧ la < 2 * Hf ∧ 0 ≤ lb ∧ lb < 2 * Hf ∧ 0 ≤ ha ∧ ha < 2 * Hf ∧ 0 ≤ hb ∧ hb < 2 * Hf := by
    obtain ⟨_, ⟨a, a1, a2⟩, ⟨b1, b2, b3⟩, ⟨c1, c2, c3⟩, ⟨d1, d2, d3⟩⟩ := hbo
    have := hrange a a1; have := hrange b1 b2; have := hrange c1 c2; have := hrange d1 d2
    omega
  have hbs := hbo.shift (-Hf) (-Hf)
  rw [← Hsh.out] at hbs
  clear hmeas hrange hbo hR1 hR0 hB1 hB0 h1 hT2
  have hR3 : (w2.alloc (.cells #[.int .i64 la, .int .i64 lb, .int .i64 ha, .int .i64 hb] 104)).heap[w.heap.size]? = some (.cells #[.int .i64 0, .int .i64 0, .int .i64 0, .int .i64 0] 53 (0, 0)) := (Below.heap_alloc _ _ _ (lt_of_block hR2)).trans hR2
  have hB3 : Below w.heap.size w (w2.alloc (.cells #[.int .i64 la, .int .i64 lb, .int .i64 ha, .int .i64 hb] 104)) := hB2.alloc hB2.size _
  have hE3 : (w2.alloc (.cells #[.int .i64 la, .int .i64 lb, .int .i64 ha, .int .i64 hb] 104)).heap[w2.heap.size]? = some (.cells #[.int .i64 la, .int .i64 lb, .int .i64 ha, .int .i64 hb] 104 (0, 0)) := heap_alloc_new _ _
  have hz3 : (w2.alloc (.cells #[.int .i64 la, .int .i64 lb, .int .i64 ha, .int .i64 hb] 104)).heap.size = w2.heap.size + 1 := World.size_alloc _ _
  go_wp2_with fail
  generalize (w2.alloc (.cells #[.int .i64 la, .int .i64 lb, .int .i64 ha, .int .i64 hb] 104)) = W3 at *
  refine (horg _).mono ?_
  rintro e w4 ⟨rfl, hB4⟩
  have hR4 := (hB4.block w.heap.size (by omega)).trans hR3
  have hE4 := (hB4.block w2.heap.size (by omega)).trans hE3
  have hB5 : Below w.heap.size w w4 := hB3.trans (hB4.mono (by omega))
  have hz4 := hB4.size
  have hR5 : (w4.alloc (.cells #[.int .i64 (-Hf), .int .i64 (-Hf)] 38)).heap[w.heap.size]? = some (.cells #[.int .i64 0, .int .i64 0, .int .i64 0, .int .i64 0] 53 (0, 0)) := (Below.heap_alloc _ _ _ (lt_of_block hR4)).trans hR4
  have hE5 : (w4.alloc (.cells #[.int .i64 (-Hf), .int .i64 (-Hf)] 38)).heap[w2.heap.size]? = some (.cells #[.int .i64 la, .int .i64 lb, .int .i64 ha, .int .i64 hb] 104 (0, 0)) := (Below.heap_alloc _ _ _ (lt_of_block hE4)).trans hE4
  have hB6 : Below w.heap.size w (w4.alloc (.cells #[.int .i64 (-Hf), .int .i64 (-Hf)] 38)) := hB5.alloc hB5.size _
  obtain ⟨r0, r1, r2, r3⟩ := four_cells hR5
  obtain ⟨e0, e1, e2, e3⟩ := four_cells hE5
  have fz : ∀ j, (w4.alloc (.cells #[.int .i64 (-Hf), .int .i64 (-Hf)] 38)).frozen? ⟨w.heap.size, j, none⟩ = false := fun j => frozen_of_row _ _ _ _ _ hR5
  have s1 : RowKit.wrap64 (-Hf + la) = -Hf + la := by rw [RowKit.wrap64]; omega
  have s2 : RowKit.wrap64 (-Hf + lb) = -Hf + lb := by rw [RowKit.wrap64]; omega
  have s3 : RowKit.wrap64 (-Hf + ha) = -Hf + ha := by rw [RowKit.wrap64]; omega
  have s4 : RowKit.wrap64 (-Hf + hb) = -Hf + hb := by rw [RowKit.wrap64]; omega
  have Hbs := Lib.hid hbs
  clear horg hbs hrg hhb hR3 hR4 hE3 hE4 hB3 hB4 hB5 hR2 hB2
  go_wp2_with fail
  have hf9 := set4_block hR5 (-Hf + la) (-Hf + lb) (-Hf + ha) (-Hf + hb)
  have hB9 : Below w.heap.size w (set4 _ w.heap.size (-Hf + la) (-Hf + lb) (-Hf + ha) (-Hf + hb)) := hB6.trans ((set4_touch (w4.alloc (.cells #[.int .i64 (-Hf), .int .i64 (-Hf)] 38)) w.heap.size (-Hf + la) (-Hf + lb) (-Hf + ha) (-Hf + hb)).below0 (fun k hk => by omega) hB6.size)
  obtain ⟨q0, q1, q2, q3⟩ := four_cells hf9
  refine bodyPost_ret (v := .tuple #[edgV (-Hf + la) (-Hf + lb) (-Hf + ha) (-Hf + hb), .bool true]) (by simp [results, Try.results20, go_sem, q0, q1, q2, q3]) rfl ⟨⟨_, _, _, _, rfl, ?_⟩, hB9⟩
  have := Hbs.out
  rw [show la + -Hf = -Hf + la by omega, show lb + -Hf = -Hf + lb by omega, show ha + -Hf = -Hf + ha by omega, show hb + -Hf = -Hf + hb by omega] at this
  exact this

end Go.Proofs.Ytehmbhdapgkbcaa
