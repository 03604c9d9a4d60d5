/- Proved: at every input the law TreeBuilds returns true, and its arguments read as they did. No condition. -/
import Derived.Test.YtehmbhdapgkbcaaBuildsW
import Derived.Test.YtehmbhdapgkbcaaOpenA
namespace Go.Proofs.Ytehmbhdapgkbcaa
open Go.ChangeShapes Go.WideShapes Go.ChangeAt Go.RowKit

theorem own : ownKnob Try.prog.godebug = none := by kernel_rfl
theorem laidOut : laidOutB Try.prog = true := by kernel_rfl

set_option maxRecDepth 100000 in
theorem okWide_cl {W : World} {b : Nat} {v : Value} (h : Value.okWide Try.prog W .any b 32 v) : ∃ cs : Array Value, v = .agg cs ∧ cs.size = 3 := by
  obtain ⟨cs, rfl, hsz⟩ := okWide_struct Try.underlying32 h
  exact ⟨cs, rfl, hsz.trans cellsOfRf⟩

set_option maxRecDepth 100000 in
theorem open_cl {H : Type} {enc : TypeId × Value → H} {W : World} {v : Value} {d : DataW H} {ps : List MemPlace} (hv : ∃ cs : Array Value, v = .agg cs ∧ cs.size = 3) (h : DataW.Trod enc Try.prog W 0 (fun _ => true) true 32 v d ps) : ∃ c : Cl, v = .agg #[.int .i64 c.a, .int .i64 c.b, .int .i64 c.h] := by
  obtain ⟨cs, rfl, hsz⟩ := hv
  obtain ⟨fuel, ht⟩ := h
  obtain ⟨l⟩ := cs
  obtain ⟨xs, n', _, _, _, hxl, hfl⟩ := DataW.trod_struct Try.underlying32 ht
  have f0 := hfl 0 _ rfl
  have f1 := hfl 1 _ rfl
  have f2 := hfl 2 _ rfl
  match l, hsz with
  | [c0, c1, c2], _ =>
    match xs, hxl with
    | [y0, y1, y2], _ =>
      obtain ⟨za, ea, _, _⟩ := DataW.trod_int Try.underlying2 f0
      obtain ⟨zb, eb, _, _⟩ := DataW.trod_int Try.underlying2 f1
      obtain ⟨zh, eh, _, _⟩ := DataW.trod_int Try.underlying3 f2
      have ga : List.take (Try.prog.cellsOf 2) (List.drop 0 [c0, c1, c2]) = [Value.int .i64 za] := ea
      have gb : List.take (Try.prog.cellsOf 2) (List.drop 1 [c0, c1, c2]) = [Value.int .i64 zb] := eb
      have gh : List.take (Try.prog.cellsOf 3) (List.drop 2 [c0, c1, c2]) = [Value.int .i64 zh] := eh
      rw [cellsOfI64] at ga gb
      rw [cellsOfInt] at gh
      simp at ga gb gh
      subst ga gb gh
      exact ⟨⟨za, zb, zh⟩, rfl⟩

set_option maxRecDepth 100000 in
theorem builds_lifted (os : Os) (started : os.Started) (H : Type) (enc : TypeId × Value → H) :
    ReturnsInHanded {} Try.checked os 4 .any (Rows.treeBuildsSpec.pre6 enc Try.prog Try.f4 Rows.treeBuildsRow.domain false) (Rows.treeBuildsSpec.post enc Try.prog Try.f4 false true false false) := by
  refine returnsInHanded_of_change (C := Try.checked) own started (by kernel_rfl) Try.func4
    (ChangeSpec.witness6 (enc := enc) (C := Try.checked) false ⟨#[], #[.slice none 0 0, .agg #[.int .i64 0, .int .i64 0, .int .i64 0], .int .i64 0], []⟩ 8 (by kernel_rfl) (by kernel_rfl) (by kernel_rfl) (by kernel_rfl)) ?_
  intro W base args ds gs before hval0 hW hcnd _
  have hval : ∀ (j : Nat) t v, Try.f4.params[j]? = some t → args[j]? = some v → Value.okWide Try.prog W .any base t v := hval0
  have hW' := hW
  obtain ⟨p, q, hA0, hV, rfl, hfz, hnd⟩ := hW
  have hA : DataW.TrodAll enc Try.prog W 0 (fun _ => true) true Try.f4.params.toList args.toList ds p := hA0
  rw [Try.params4] at hA hval
  obtain ⟨v0, v1, v2, d0, d1, d2, p0, p1, p2, rfl, rfl, rfl, h0, h1, h2⟩ := trodAll_three hA
  obtain ⟨rfl, rfl⟩ := trodVars_none hV
  obtain ⟨l0, c0⟩ := open_rf h0 (okWide_slice Try.underlying22 (hval 0 22 v0 rfl rfl))
  obtain ⟨c, rfl⟩ := open_cl (okWide_cl (hval 1 32 v1 rfl rfl)) h1
  obtain ⟨most, rfl, rfl, rfl, wm⟩ := open_int Try.underlying3 (hval 2 3 v2 rfl rfl) h2
  clear hA0 hval0
  simp only [List.append_nil] at hW'
  have hlt : ∀ x ∈ p0 ++ p1, x.block < W.heap.size := fun x hx => by simpa using hW'.lt x hx
  refine (builds_any c0 (i64_of_wf wm)).mono fun e W' ⟨he, hb⟩ => ?_
  subst he
  refine ⟨_, rfl, _, _, _, [], _, [], hW', trodAll_mk1 (shut_bool Try.underlying4 true), trodAll_mk3
    (Below.trod laidOut (by kernel_rfl) (of_decide_eq_true (by kernel_rfl)) h0 hb fun x hx => hlt x (by simp [hx]))
    (Below.trod laidOut (by kernel_rfl) (of_decide_eq_true (by kernel_rfl)) h1 hb fun x hx => hlt x (by simp [hx]))
    (shut_int Try.underlying3 wm), rfl, hb.frame _, fun h => by cases h⟩

theorem treeBuilds_said : Rows.TreeBuildsSaid :=
  OpenClaim.holds_of_wide 4 Try.f4 rfl rfl rfl rfl rfl rfl rfl ⟨rfl, rfl, rfl, rfl, rfl⟩ rfl rfl rfl rfl rfl (by kernel_rfl) Try.func4 (by kernel_rfl)
    (of_decide_eq_true (by kernel_rfl)) (by unfold Func.isWrapper; first | (rw [if_pos (by decide +kernel)]; kernel_rfl) | (rw [if_neg (by decide +kernel)]; exact ⟨rfl, rfl⟩))
    (fun os started H enc _ => builds_lifted os started H enc)
#print axioms treeBuilds_said
end Go.Proofs.Ytehmbhdapgkbcaa
