/- Arguments opened: slices of the document's cells, slices of bools, as they came in. -/
import Derived.Test.YtehmbhdapgkbcaaPutsP
import Derived.Test.YtehmbhdapgkbcaaRows
import Derived.ProofKit
import Derived.OpenShut
import Derived.Deep.Slices
import Derived.Deep.Fields
namespace Go.Proofs.Ytehmbhdapgkbcaa
open Go.ChangeShapes Go.WideShapes Go.ChangeAt Go.RowKit Go.Deep

section
variable {H : Type} {enc : TypeId × Value → H}

instance : Inhabited Cl := ⟨⟨0, 0, 0⟩⟩

theorem cellsOfRf : Try.prog.cellsOf 32 = 3 := by kernel_rfl
theorem cellsOfBool : Try.prog.cellsOf 4 = 1 := by kernel_rfl
theorem cellsOfI64 : Try.prog.cellsOf 2 = 1 := by kernel_rfl
theorem cellsOfInt : Try.prog.cellsOf 3 = 1 := by kernel_rfl

theorem i64_of_wf {k : Int} (h : (Lit.int .i64 k).wf = true) : I64 k := by
  have e1 : IntKind.i64.min = -9223372036854775808 := rfl
  have e2 : IntKind.i64.max = 9223372036854775807 := rfl
  simpa [Lit.wf, e1, e2, I64] using h

set_option maxRecDepth 100000 in
theorem open_rf {W : World} {v : Value} {d : DataW H} {ps : List MemPlace} (h : DataW.Trod enc Try.prog W 0 (fun _ => true) true 22 v d ps) (hv : ∃ a len cap, v = .slice a len cap) : ∃ l, CellsAt W v l := by
  obtain ⟨a0, len0, cap0, rfl⟩ := hv
  obtain ⟨fuel, hf⟩ := h
  rcases open_slice Try.underlying22 hf with ⟨hcs, _⟩ | ⟨a, len, cap, m, n, D, Pl, hcs, _, hl, hm, hmm, _, hi⟩
  · simp [Value.cells] at hcs
    obtain ⟨rfl, rfl, rfl⟩ := hcs
    exact ⟨[], ⟨.inl ⟨rfl, rfl⟩, fun c hc => by simp at hc⟩⟩
  · simp [Value.cells] at hcs
    obtain ⟨rfl, rfl, rfl⟩ := hcs
    simp only [if_true] at hmm
    subst hmm
    obtain ⟨C, hC⟩ := choose_lt (α := Cl) (p := fun i c => (W.cell? (a.add (i * 3)) = some (.int .i64 c.a) ∧ W.cell? (a.add (i * 3 + 1)) = some (.int .i64 c.b) ∧ W.cell? (a.add (i * 3 + 2)) = some (.int .i64 c.h)) ∧ I64 c.a ∧ I64 c.b ∧ I64 c.h) (fun i him => by
      obtain ⟨cs', hc, ht⟩ := hi i him
      rw [cellsOfRf] at hc
      obtain ⟨_, hcl, hat⟩ := World.cells?_some hc
      obtain ⟨xs, n', _, _, _, hxl, hfl⟩ := DataW.trod_struct Try.underlying32 ht
      have f0 := hfl 0 _ rfl
      have f1 := hfl 1 _ rfl
      have f2 := hfl 2 _ rfl
      match cs', hcl with
      | [c0, c1, c2], _ =>
        match xs, hxl with
        | [y0, y1, y2], _ =>
          obtain ⟨za, ea, _, wa⟩ := DataW.trod_int Try.underlying2 f0
          obtain ⟨zb, eb, _, wb⟩ := DataW.trod_int Try.underlying2 f1
          obtain ⟨zh, eh, _, wh⟩ := DataW.trod_int Try.underlying3 f2
          have ga : List.take (Try.prog.cellsOf 2) (List.drop 0 [c0, c1, c2]) = [Value.int .i64 za] := ea
          have gb : List.take (Try.prog.cellsOf 2) (List.drop 1 [c0, c1, c2]) = [Value.int .i64 zb] := eb
          have gh : List.take (Try.prog.cellsOf 3) (List.drop 2 [c0, c1, c2]) = [Value.int .i64 zh] := eh
          rw [cellsOfI64] at ga gb
          rw [cellsOfInt] at gh
          simp at ga gb gh
          subst ga gb gh
          have q0 := hat 0 (by omega)
          have q1 := hat 1 (by omega)
          have q2 := hat 2 (by omega)
          rw [add_add] at q0 q1 q2
          exact ⟨⟨za, zb, zh⟩, ⟨q0, q1, q2⟩, i64_of_wf wa, i64_of_wf wb, i64_of_wf wh⟩)
    have hlen : ((List.range len0).map C).length = len0 := by simp
    refine ⟨(List.range len0).map C, ⟨.inr ⟨a, m, by rw [hlen], fun hp => ?_, by omega, hm, fun i h => ?_⟩, fun c hc => ?_⟩⟩
    · rw [hlen] at hp
      have := World.block_lt_of_cell? _ _ (hC 0 (by omega)).1.1
      rwa [addBlock] at this
    · rw [hlen] at h
      simp only [List.getElem_map, List.getElem_range]
      exact (hC i (by omega)).1
    · obtain ⟨i, hi, rfl⟩ := List.mem_map.1 hc
      exact (hC i (by have := List.mem_range.1 hi; omega)).2

set_option maxRecDepth 100000 in
theorem open_bl {W : World} {v : Value} {d : DataW H} {ps : List MemPlace} (h : DataW.Trod enc Try.prog W 0 (fun _ => true) true 23 v d ps) (hv : ∃ a len cap, v = .slice a len cap) : ∃ l, BoolsAt W v l := by
  obtain ⟨a0, len0, cap0, rfl⟩ := hv
  obtain ⟨fuel, hf⟩ := h
  rcases open_slice1 Try.underlying23 cellsOfBool hf with ⟨hcs, _⟩ | ⟨a, len, cap, m, n, V, D, Pl, hcs, _, hl, hm, hmm, _, hi⟩
  · simp [Value.cells] at hcs
    obtain ⟨rfl, rfl, rfl⟩ := hcs
    exact ⟨[], .inl ⟨rfl, rfl⟩⟩
  · simp [Value.cells] at hcs
    obtain ⟨rfl, rfl, rfl⟩ := hcs
    simp only [if_true] at hmm
    subst hmm
    obtain ⟨B, hB⟩ := choose_lt (α := Bool) (p := fun i b => W.cell? (a.add i) = some (.bool b)) (fun i him => by
      obtain ⟨hc, ht⟩ := hi i him
      obtain ⟨b, eb, _⟩ := DataW.trod_bool Try.underlying4 ht
      simp only [List.cons.injEq, and_true] at eb
      exact ⟨b, by rw [hc, eb]⟩)
    have hlen : ((List.range len0).map B).length = len0 := by simp
    refine ⟨(List.range len0).map B, .inr ⟨a, m, by rw [hlen], fun hp => ?_, by omega, hm, fun i h => ?_⟩⟩
    · rw [hlen] at hp
      have := World.block_lt_of_cell? _ _ (hB 0 (by omega))
      rwa [addBlock] at this
    · rw [hlen] at h
      simp only [List.getElem_map, List.getElem_range]
      exact hB i (by omega)
end

end Go.Proofs.Ytehmbhdapgkbcaa
