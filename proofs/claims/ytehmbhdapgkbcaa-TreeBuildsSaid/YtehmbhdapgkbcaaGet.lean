/- Get: does a cell live? -/
import Derived.Test.YtehmbhdapgkbcaaPutB
namespace Go.Proofs.Ytehmbhdapgkbcaa
open Go.RowKit

theorem kid_index (n : Nd) (q : Nat) (hq : q < 4) (w : World) : (Instr.index 81 (kids4 n.k0 n.k1 n.k2 n.k3) (.int .i64 q)).run Try.prog w = .ok (U32 (n.kid q)) w := by
  have h2 : q = 0 ∨ q = 1 ∨ q = 2 ∨ q = 3 := by omega
  have e0 : (Instr.index 81 (kids4 n.k0 n.k1 n.k2 n.k3) (.int .i64 0)).run Try.prog w = .ok (U32 n.k0) w := by kernel_rfl
  have e1 : (Instr.index 81 (kids4 n.k0 n.k1 n.k2 n.k3) (.int .i64 1)).run Try.prog w = .ok (U32 n.k1) w := by kernel_rfl
  have e2 : (Instr.index 81 (kids4 n.k0 n.k1 n.k2 n.k3) (.int .i64 2)).run Try.prog w = .ok (U32 n.k2) w := by kernel_rfl
  have e3 : (Instr.index 81 (kids4 n.k0 n.k1 n.k2 n.k3) (.int .i64 3)).run Try.prog w = .ok (U32 n.k3) w := by kernel_rfl
  rcases h2 with rfl | rfl | rfl | rfl
  · exact e0
  · exact e1
  · exact e2
  · exact e3

set_option maxHeartbeats 4000000 in
theorem get_small {w : World} {p : Nat} {F : Foot} {A : Ar} (h : ArS w p F A) {i : Nat} (hi : i < 4294967296) {c : Cl} (hl : A.lv i < 3) :
    Calls Try.prog 25 #[.pointer (some ⟨p, 0, none⟩), .int .u32 i, clV c] w fun e w' => e = .returned (.bool false) ∧ Below w.heap.size w w' := by
  have hlvl := fun W (hW : ArS W p F A) => hW.toArM.level (i := i) hi
  have hsm := lvl_small hl
  clear hl
  generalize A.lvl i = l at *
  obtain ⟨ca, cb, ch⟩ := c
  go_enter Try.func25, Try.ntmps25
  go_wp2_with fail
  refine (hlvl _ (h.alloc _)).mono ?_
  rintro e w1 ⟨rfl, rfl⟩
  go_wp2
  go_ret
  exact ⟨rfl, (Below.refl _ _).alloc (Nat.le_refl _) _⟩

/-- A cell that no root of the level can have. -/
theorem not_cells {A : Ar} (ok : A.Ok) {i : Nat} (hl : 3 ≤ A.lv i) {c : Cl} (h : inside (A.lv i) c.a c.b = false ∨ c.h < 0 ∨ 1 < c.h) : c ∉ A.cells i := fun hc => by
  have hlt := lvl_lt hl
  have e : A.lv i - 2 + 2 = A.lv i := by omega
  have := cl_range ok.wf (A.lv i - 2) i _ _ hlt e.symm c hc
  rw [e, half_two (by omega)] at this
  have hin : inside (A.lv i) c.a c.b = true := by rw [inside_iff]; omega
  rw [hin] at h
  simp at h
  omega

set_option maxHeartbeats 4000000 in
theorem get_out {w : World} {p : Nat} {F : Foot} {A : Ar} (h : ArS w p F A) (ok : A.Ok) {i : Nat} (hi : i < 4294967296) (hl : 3 ≤ A.lv i) {c : Cl} (hin : inside (A.lv i) c.a c.b = false ∨ c.h < 0 ∨ 1 < c.h) :
    Calls Try.prog 25 #[.pointer (some ⟨p, 0, none⟩), .int .u32 i, clV c] w fun e w' => e = .returned (.bool false) ∧ Below w.heap.size w w' := by
  have hin' := lvl_lt hl
  have h44 := (ok.wf.lv hin').2
  have hlvl := fun W (hW : ArS W p F A) => hW.toArM.level (i := i) hi
  rw [Ar.lvl_in hin'] at hlvl
  have hins := inside_any (A.lv i) (by omega) h44 c.a c.b
  unfold Ar.lv at *
  obtain ⟨ca, cb, ch⟩ := c
  dsimp only at *
  generalize hL : (ndAt A.nodes i).lv = L at *
  clear hL
  have hL3 : ¬ (L : Int) < 3 := by omega
  cases h1 : inside L ca cb
  · rw [h1] at hins
    clear hin h1
    go_enter Try.func25, Try.ntmps25
    go_wp2_with fail
    refine (hlvl _ (h.alloc _)).mono ?_
    rintro e w1 ⟨rfl, rfl⟩
    go_wp2_with fail
    refine (hins _).mono ?_
    rintro e w2 ⟨rfl, hb2⟩
    have hB2 : Below w.heap.size w w2 := ((Below.refl _ _).alloc (Nat.le_refl _) _).trans (hb2.mono (by simp))
    go_wp2
    go_ret
    exact ⟨rfl, hB2⟩
  · rw [h1] at hins hin
    have hh : ch < 0 ∨ 1 < ch := hin.resolve_left (by simp)
    clear hin h1
    by_cases h0 : ch < 0
    · clear hh
      go_enter Try.func25, Try.ntmps25
      go_wp2_with fail
      refine (hlvl _ (h.alloc _)).mono ?_
      rintro e w1 ⟨rfl, rfl⟩
      go_wp2_with fail
      refine (hins _).mono ?_
      rintro e w2 ⟨rfl, hb2⟩
      have z2 : w2.cell? ⟨w.heap.size, 2, none⟩ = some (.int .i64 ch) := (hb2.cell (p := ⟨w.heap.size, 2, none⟩) (by simp)).trans (World.cell?_alloc_new _ _ _ _)
      have hB2 : Below w.heap.size w w2 := ((Below.refl _ _).alloc (Nat.le_refl _) _).trans (hb2.mono (by simp))
      go_wp2
      go_ret
      exact ⟨rfl, hB2⟩
    · have hh1 : 1 < ch := hh.resolve_left h0
      clear hh
      go_enter Try.func25, Try.ntmps25
      go_wp2_with fail
      refine (hlvl _ (h.alloc _)).mono ?_
      rintro e w1 ⟨rfl, rfl⟩
      go_wp2_with fail
      refine (hins _).mono ?_
      rintro e w2 ⟨rfl, hb2⟩
      have z2 : w2.cell? ⟨w.heap.size, 2, none⟩ = some (.int .i64 ch) := (hb2.cell (p := ⟨w.heap.size, 2, none⟩) (by simp)).trans (World.cell?_alloc_new _ _ _ _)
      have hB2 : Below w.heap.size w w2 := ((Below.refl _ _).alloc (Nat.le_refl _) _).trans (hb2.mono (by simp))
      go_wp2
      go_ret
      exact ⟨rfl, hB2⟩

end Go.Proofs.Ytehmbhdapgkbcaa
