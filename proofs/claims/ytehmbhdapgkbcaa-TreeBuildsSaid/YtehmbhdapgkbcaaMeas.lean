/- leafEdges, measure: walks. -/
import Derived.Test.YtehmbhdapgkbcaaMeasP
import Derived.Test.YtehmbhdapgkbcaaLeafs
namespace Go.Proofs.Ytehmbhdapgkbcaa
open Go.RowKit

theorem zeroEdges (w : World) : (zeroValue 104).run Try.prog w = .ok (edgV 0 0 0 0) w := by kernel_rfl

def EdgesPost (l : List Cl) (w : World) (e : Ending) (w' : World) : Prop :=
  ∃ la lb ha hb, e = .returned (edgV la lb ha hb) ∧ BoxOf l la lb ha hb ∧ Below w.heap.size w w'

theorem Touch.below0 {S : Nat → Prop} {w w' : World} (h : Touch S w w') {B : Nat} (hn : ∀ k, k < B → ¬ S k) (hB : B ≤ w.heap.size := by omega) : Below B w w' :=
  ⟨h.os, h.tape, h.output, h.size, fun k hk => h.block k (by omega) (hn k hk)⟩

/-- Four stores into a block of four cells. -/
abbrev set4 (W : World) (R : Nat) (la lb ha hb : Int) : World := (((W.setCell ⟨R, 0, none⟩ (.int .i64 la)).setCell ⟨R, 1, none⟩ (.int .i64 lb)).setCell ⟨R, 2, none⟩ (.int .i64 ha)).setCell ⟨R, 3, none⟩ (.int .i64 hb)
theorem set4_block {W : World} {R : Nat} {a b c d : Value} {T : TypeId} (h : W.heap[R]? = some (.cells #[a, b, c, d] T (0, 0))) (la lb ha hb : Int) :
    (set4 W R la lb ha hb).heap[R]? = some (.cells #[.int .i64 la, .int .i64 lb, .int .i64 ha, .int .i64 hb] T (0, 0)) :=
  heap_setCell_same _ _ 3 _ _ _ (heap_setCell_same _ _ 2 _ _ _ (heap_setCell_same _ _ 1 _ _ _ (heap_setCell_same W _ 0 _ _ _ h)))
theorem set4_touch (W : World) (R : Nat) (la lb ha hb : Int) : Touch (fun k => k = R) W (set4 W R la lb ha hb) :=
  ((((Touch.refl (fun k => k = R) W).setCell (p := ⟨R, 0, none⟩) (fun _ => rfl) _).setCell (p := ⟨R, 1, none⟩) (fun _ => rfl) _).setCell (p := ⟨R, 2, none⟩) (fun _ => rfl) _).setCell (p := ⟨R, 3, none⟩) (fun _ => rfl) _
theorem four_cells {W : World} {R : Nat} {la lb ha hb : Int} {T : TypeId} (h : W.heap[R]? = some (.cells #[.int .i64 la, .int .i64 lb, .int .i64 ha, .int .i64 hb] T (0, 0))) :
    W.cell? ⟨R, 0, none⟩ = some (.int .i64 la) ∧ W.cell? ⟨R, 1, none⟩ = some (.int .i64 lb) ∧ W.cell? ⟨R, 2, none⟩ = some (.int .i64 ha) ∧ W.cell? ⟨R, 3, none⟩ = some (.int .i64 hb) := by
  refine ⟨?_, ?_, ?_, ?_⟩ <;> (rw [cell_of_row _ _ _ _ _ _ h]; rfl)

set_option maxHeartbeats 2000000 in
theorem leafEdges_any (f : Nat) (hf : f < 4294967296) (hne : leafCl f 0 0 ≠ []) (w : World) :
    Calls Try.prog 68 #[.int .u32 f] w (EdgesPost (leafCl f 0 0) w) := by
  have hlen : (leafCl f 0 0).length ≤ 32 := by
    unfold leafCl bitsOf
    rw [List.length_map]
    have := List.length_filter_le (fun k => f.testBit k) (List.range 32)
    simpa using this
  have hpos : 0 < (leafCl f 0 0).length := List.length_pos_iff.2 hne
  have hcells := cells_any f hf 0 0 (by omega) (by omega)
  generalize leafCl f 0 0 = l at *
  have hB0 : Below w.heap.size w (w.alloc (.cells #[.int .i64 0, .int .i64 0, .int .i64 0, .int .i64 0] 104)) := (Below.refl _ _).alloc (Nat.le_refl _) _
  have hblk : (w.alloc (.cells #[.int .i64 0, .int .i64 0, .int .i64 0, .int .i64 0] 104)).heap[w.heap.size]? = some (.cells #[.int .i64 0, .int .i64 0, .int .i64 0, .int .i64 0] 104 (0, 0)) := heap_alloc_new _ _
  have hz0 : (w.alloc (.cells #[.int .i64 0, .int .i64 0, .int .i64 0, .int .i64 0] 104)).heap.size = w.heap.size + 1 := World.size_alloc _ _
  go_enter Try.func68, Try.ntmps68
  go_wp2_with fail
  refine (hcells _).mono ?_
  rintro e w2 ⟨v2, rfl, hrow2, hB2, -⟩
  have hblk2 := (hB2.block w.heap.size (by omega)).trans hblk
  have hB3 : Below w.heap.size w w2 := hB0.trans (hB2.mono (by omega))
  have hbox := box_some hrow2 (by omega) hpos
  have hz2 := hB2.size
  clear hcells hblk
  go_wp2_with fail
  refine hbox.mono ?_
  rintro e w3 ⟨la, lb, ha, hb, rfl, hbo, hB4⟩
  have hblk3 := (hB4.block w.heap.size (by omega)).trans hblk2
  have hB5 : Below w.heap.size w w3 := hB3.trans (hB4.mono (by omega))
  have hz3 := hB4.size
  have hB6 : Below w.heap.size w (w3.alloc (.cells #[.int .i64 la, .int .i64 lb, .int .i64 ha, .int .i64 hb] 53)) := hB5.alloc (by omega) _
  have hblk4 : (w3.alloc (.cells #[.int .i64 la, .int .i64 lb, .int .i64 ha, .int .i64 hb] 53)).heap[w.heap.size]? = some (.cells #[.int .i64 0, .int .i64 0, .int .i64 0, .int .i64 0] 104 (0, 0)) := (Below.heap_alloc _ _ _ (by omega)).trans hblk3
  have c0 : (w3.alloc (.cells #[.int .i64 la, .int .i64 lb, .int .i64 ha, .int .i64 hb] 53)).cell? ⟨w.heap.size, 0, none⟩ = some (.int .i64 0) := by rw [cell_of_row _ _ _ _ _ _ hblk4]; rfl
  have c1 : (w3.alloc (.cells #[.int .i64 la, .int .i64 lb, .int .i64 ha, .int .i64 hb] 53)).cell? ⟨w.heap.size, 1, none⟩ = some (.int .i64 0) := by rw [cell_of_row _ _ _ _ _ _ hblk4]; rfl
  have c2 : (w3.alloc (.cells #[.int .i64 la, .int .i64 lb, .int .i64 ha, .int .i64 hb] 53)).cell? ⟨w.heap.size, 2, none⟩ = some (.int .i64 0) := by rw [cell_of_row _ _ _ _ _ _ hblk4]; rfl
  have c3 : (w3.alloc (.cells #[.int .i64 la, .int .i64 lb, .int .i64 ha, .int .i64 hb] 53)).cell? ⟨w.heap.size, 3, none⟩ = some (.int .i64 0) := by rw [cell_of_row _ _ _ _ _ _ hblk4]; rfl
  have fz : ∀ j, (w3.alloc (.cells #[.int .i64 la, .int .i64 lb, .int .i64 ha, .int .i64 hb] 53)).frozen? ⟨w.heap.size, j, none⟩ = false := fun j => frozen_of_row _ _ _ _ _ hblk4
  clear hbox
  go_wp2_with fail
  have hf := set4_block hblk4 la lb ha hb
  have hBf : Below w.heap.size w (set4 _ w.heap.size la lb ha hb) := hB6.trans ((set4_touch (w3.alloc (.cells #[.int .i64 la, .int .i64 lb, .int .i64 ha, .int .i64 hb] 53)) w.heap.size la lb ha hb).below0 (B := w.heap.size) (fun k hk => by omega) hB6.size)
  obtain ⟨q0, q1, q2, q3⟩ := four_cells hf
  refine bodyPost_ret (v := edgV la lb ha hb) (by simp [results, Try.results68, go_sem, q0, q1, q2, q3]) rfl ⟨la, lb, ha, hb, rfl, hbo, hBf⟩

end Go.Proofs.Ytehmbhdapgkbcaa
