/- Put: a root in which a cell lives, or not. -/
import Derived.Test.YtehmbhdapgkbcaaPut
namespace Go.Proofs.Ytehmbhdapgkbcaa
open Go.RowKit

/-- A node's level; 0: there is no such node. -/
abbrev Ar.lv (A : Ar) (i : Nat) : Nat := (ndAt A.nodes i).lv
/-- The cells of a root. -/
def Ar.cells (A : Ar) (i : Nat) : List Cl := cl A.nodes (A.lv i - 2) i (-half (A.lv i)) (-half (A.lv i))

theorem half_two {L : Nat} (h : 1 ≤ L) : (2 : Int) ^ L = 2 * half L := by
  obtain ⟨n, rfl⟩ : ∃ n, L = n + 1 := ⟨L - 1, by omega⟩
  rw [half_pow, pow_more]
theorem half_four {L : Nat} (h : 3 ≤ L) : half L % 4 = 0 := by
  obtain ⟨n, rfl⟩ : ∃ n, L = n + 3 := ⟨L - 3, by omega⟩
  rw [half_pow, pow_more, pow_more]
  generalize (2 : Int) ^ n = z
  omega

theorem lvl_lt {A : Ar} {i : Nat} (h : 3 ≤ A.lv i) : i < A.nodes.length := by
  rcases Nat.lt_or_ge i A.nodes.length with h1 | h1
  · exact h1
  · rw [Ar.lv, ndAt_out h1] at h; exact absurd h (by decide)

theorem putOk {A : Ar} (ok : A.Ok) {i : Nat} (hl : 3 ≤ A.lv i) {c : Cl} (hin : inside (A.lv i) c.a c.b = true) (h0 : 0 ≤ c.h) (h1 : c.h ≤ 1) : PutOk A (A.lv i - 2) i (-half (A.lv i)) (-half (A.lv i)) c := by
  have hlt := lvl_lt hl
  have hlv : A.lv i = (ndAt A.nodes i).lv := rfl
  have h44 := (ok.wf.lv hlt).2
  have hb := half_bounds (L := A.lv i) (by omega)
  have h4 := half_four hl
  have h2 := half_two (L := A.lv i) (by omega)
  rw [inside_iff] at hin
  have e : A.lv i - 2 + 2 = A.lv i := by omega
  refine ⟨ok, hlt, by omega, by omega, by omega, by omega, ?_, by omega, ?_, ?_, h0, h1⟩
  · rw [e, h2]; omega
  · rw [e, h2]; omega
  · unfold InSq
    rw [e, h2]; omega

set_option maxHeartbeats 4000000 in
set_option maxRecDepth 100000 in
theorem put_good {w : World} {p : Nat} {F : Foot} {A : Ar} (h : ArS w p F A) (ok : A.Ok) {i : Nat} (hl : 3 ≤ A.lv i) (hn : A.room + 44 < 2147483647) {c : Cl} (hin : inside (A.lv i) c.a c.b = true) (h0 : 0 ≤ c.h) (h1 : c.h ≤ 1) (live : Bool) :
    Calls Try.prog 12 #[.pointer (some ⟨p, 0, none⟩), .int .u32 i, clV c, .bool live] w (Ret p F A (A.lv i - 1) (PutR A (A.lv i - 2) i (-half (A.lv i)) (-half (A.lv i)) c live) w) := by
  have hrm := A.room_le
  have hi := lvl_lt hl
  have hpo := putOk ok hl hin h0 h1
  have h44 := (ok.wf.lv hi).2
  have hlvl := fun W (hW : ArS W p F A) => hW.toArM.level (i := i) (by omega)
  rw [Ar.lvl_in hi] at hlvl
  have hput := fun W (hW : ArS W p F A) => put_rec live (A.lv i - 2) (by unfold Ar.lv; omega) hW hpo (by unfold Ar.lv; omega) (A.lv i : Int) (by omega)
  rw [show A.lv i - 2 + 1 = A.lv i - 1 by omega] at hput
  have horg := origin_any (A.lv i) (by omega) h44
  have hins := inside_any (A.lv i) (by omega) h44 c.a c.b
  rw [hin] at hins
  clear hin hpo
  unfold Ar.lv at *
  obtain ⟨ca, cb, ch⟩ := c
  dsimp only at *
  generalize hL : (ndAt A.nodes i).lv = L at *
  clear hL
  generalize half L = H at *
  have hL3 : ¬ (L : Int) < 3 := by omega
  have hc0 : ¬ ch < 0 := by omega
  have hc1 : ¬ 1 < ch := by omega
  go_enter Try.func12, Try.ntmps12
  go_wp2_with fail
  refine (hlvl _ (h.alloc _)).mono ?_
  rintro e w1 ⟨rfl, rfl⟩
  go_wp2_with fail
  refine (hins _).mono ?_
  rintro e w2 ⟨rfl, hb2⟩
  have hz2 := hb2.size
  simp only [World.size_alloc] at hz2
  have hS2 : ArS w2 p F A := (h.alloc _).new hb2
  have hB2 : Below w.heap.size w w2 := ((Below.refl _ _).alloc (Nat.le_refl _) _).trans (hb2.mono (by simp))
  have z0 : w2.cell? ⟨w.heap.size, 0, none⟩ = some (.int .i64 ca) := (hb2.cell (p := ⟨w.heap.size, 0, none⟩) (by simp)).trans (World.cell?_alloc_new _ _ _ _)
  have z1 : w2.cell? ⟨w.heap.size, 1, none⟩ = some (.int .i64 cb) := (hb2.cell (p := ⟨w.heap.size, 1, none⟩) (by simp)).trans (World.cell?_alloc_new _ _ _ _)
  have z2 : w2.cell? ⟨w.heap.size, 2, none⟩ = some (.int .i64 ch) := (hb2.cell (p := ⟨w.heap.size, 2, none⟩) (by simp)).trans (World.cell?_alloc_new _ _ _ _)
  clear hb2 hins hlvl
  go_wp2_with fail
  refine wp_region_plan (fun w' => w'.cell? ⟨w.heap.size, 0, none⟩ = some (.int .i64 ca) ∧ w'.cell? ⟨w.heap.size, 1, none⟩ = some (.int .i64 cb) ∧ w'.cell? ⟨w.heap.size, 2, none⟩ = some (.int .i64 ch))
    [4, 7, 11] [0, 1, 2, 3, 5, 6, 4, 7, 8, 9, 10, 11] (by kernel_rfl) (by kernel_rfl) (fun _ _ d _ _ h => by cases d <;> exact h) ⟨z0, z1, z2⟩ ?_
  repeat ((first | (refine' wpPlan_q rfl rfl rfl ?_ ?_; rotate_left; (focus (intro _ hSw; (try dsimp only at hSw); go_simp; (try with_reducible rfl); done))) | (refine' wpPlan_p rfl rfl rfl ?_ ?_; rotate_left; (focus (intro _; go_simp; (try with_reducible rfl); done)))); (try simp only [Act.put, List.setIfInBounds_toArray, List.set_cons_zero, List.set_cons_succ]))
  refine wpPlan_x rfl rfl (fun K hK => ?_)
  go_simp
  refine (horg _).mono ?_
  rintro e w3 ⟨rfl, hb3⟩
  have m : ∀ (j : Nat) v, w2.cell? ⟨w.heap.size, j, none⟩ = some v → w3.cell? ⟨w.heap.size, j, none⟩ = some v := fun j v hv => (hb3.cell (p := ⟨w.heap.size, j, none⟩) (show w.heap.size < w2.heap.size by omega)).trans hv
  have hS3 : ArS w3 p F A := hS2.drew.new hb3
  have hB3 : Below w.heap.size w w3 := hB2.drew.trans (hb3.mono hB2.size)
  refine hK _ _ (fun _ => ⟨m _ _ z0, m _ _ z1, m _ _ z2⟩) ?_
  clear hK K
  (try simp only [Act.put, List.setIfInBounds_toArray, List.set_cons_zero, List.set_cons_succ])
  refine wpPlan_x rfl rfl (fun K hK => ?_)
  go_simp
  refine (hput _ hS3).mono ?_
  rintro e w4 ⟨r, err, F', A', rfl, hs4, ok', hext, hst4, hroom, hres⟩
  have hnf : ¬ F.at p w.heap.size := fun k => by have := h.toArM.foot_lt k; omega
  refine hK _ _ (fun _ => ⟨hst4.touch.kept (m _ _ z0) hnf, hst4.touch.kept (m _ _ z1) hnf, hst4.touch.kept (m _ _ z2) hnf⟩) ?_
  clear hK K
  (try simp only [Act.put, List.setIfInBounds_toArray, List.set_cons_zero, List.set_cons_succ])
  repeat ((first | (refine' wpPlan_q rfl rfl rfl ?_ ?_; rotate_left; (focus (intro _ hSw; (try dsimp only at hSw); go_simp; (try with_reducible rfl); done))) | (refine' wpPlan_p rfl rfl rfl ?_ ?_; rotate_left; (focus (intro _; go_simp; (try with_reducible rfl); done)))); (try simp only [Act.put, List.setIfInBounds_toArray, List.set_cons_zero, List.set_cons_succ]))
  refine wpPlan_x rfl rfl (fun K hK => ?_)
  go_simp
  refine hK _ _ (fun h => absurd h (by decide)) (wpPlan_nil ?_)
  clear hK K
  (try simp only [Act.put, List.setIfInBounds_toArray, List.set_cons_zero, List.set_cons_succ])
  go_wp2
  go_ret2
  exact ⟨r, err, F', A', rfl, hs4, ok', hext, .from_new hB3 hst4, hroom, hres⟩

/-- A refusal: the error, nothing else. -/
def Refused (code : Nat) (w : World) (e : Ending) (w' : World) : Prop := e = .returned (.tuple #[U32 0, errV (some code)]) ∧ Below w.heap.size w w'

theorem lvl_small {A : Ar} {i : Nat} (h : A.lv i < 3) : A.lvl i < 3 := by
  unfold Ar.lvl
  split
  · unfold Ar.lv at h; omega
  · omega

set_option maxHeartbeats 4000000 in
theorem put_arg {w : World} {p : Nat} {F : Foot} {A : Ar} (h : ArS w p F A) {i : Nat} (hi : i < 4294967296) {c : Cl} (hb : A.lv i < 3 ∨ c.h < 0 ∨ 1 < c.h) (live : Bool) :
    Calls Try.prog 12 #[.pointer (some ⟨p, 0, none⟩), .int .u32 i, clV c, .bool live] w (Refused 4 w) := by
  have hlvl := fun W (hW : ArS W p F A) => hW.toArM.level (i := i) hi
  have hsm := lvl_small (A := A) (i := i)
  obtain ⟨ca, cb, ch⟩ := c
  dsimp only at *
  by_cases hl : A.lvl i < 3
  · generalize A.lvl i = l at *
    clear hsm hb
    go_enter Try.func12, Try.ntmps12
    go_wp2_with fail
    refine (hlvl _ (h.alloc _)).mono ?_
    rintro e w1 ⟨rfl, rfl⟩
    go_wp2
    go_ret2
    exact ⟨rfl, (Below.refl _ _).alloc (Nat.le_refl _) _⟩
  · have hb' : ch < 0 ∨ 1 < ch := hb.resolve_left (fun h => hl (hsm h))
    generalize A.lvl i = l at *
    clear hsm hb
    by_cases h0 : ch < 0
    · clear hb'
      go_enter Try.func12, Try.ntmps12
      go_wp2_with fail
      refine (hlvl _ (h.alloc _)).mono ?_
      rintro e w1 ⟨rfl, rfl⟩
      go_wp2
      go_ret2
      exact ⟨rfl, (Below.refl _ _).alloc (Nat.le_refl _) _⟩
    · have h1 : 1 < ch := hb'.resolve_left h0
      clear hb'
      go_enter Try.func12, Try.ntmps12
      go_wp2_with fail
      refine (hlvl _ (h.alloc _)).mono ?_
      rintro e w1 ⟨rfl, rfl⟩
      go_wp2
      go_ret2
      exact ⟨rfl, (Below.refl _ _).alloc (Nat.le_refl _) _⟩

set_option maxHeartbeats 4000000 in
theorem put_range {w : World} {p : Nat} {F : Foot} {A : Ar} (h : ArS w p F A) (ok : A.Ok) {i : Nat} (hi : i < 4294967296) (hl : 3 ≤ A.lv i) {c : Cl} (hin : inside (A.lv i) c.a c.b = false) (h0 : 0 ≤ c.h) (h1 : c.h ≤ 1) (live : Bool) :
    Calls Try.prog 12 #[.pointer (some ⟨p, 0, none⟩), .int .u32 i, clV c, .bool live] w (Refused 6 w) := by
  have hin' := lvl_lt hl
  have h44 := (ok.wf.lv hin').2
  have hlvl := fun W (hW : ArS W p F A) => hW.toArM.level (i := i) hi
  rw [Ar.lvl_in hin'] at hlvl
  have hins := inside_any (A.lv i) (by omega) h44 c.a c.b
  rw [hin] at hins
  clear hin
  unfold Ar.lv at *
  obtain ⟨ca, cb, ch⟩ := c
  dsimp only at *
  generalize hL : (ndAt A.nodes i).lv = L at *
  clear hL
  have hL3 : ¬ (L : Int) < 3 := by omega
  have hc0 : ¬ ch < 0 := by omega
  have hc1 : ¬ 1 < ch := by omega
  go_enter Try.func12, Try.ntmps12
  go_wp2_with fail
  refine (hlvl _ (h.alloc _)).mono ?_
  rintro e w1 ⟨rfl, rfl⟩
  go_wp2_with fail
  refine (hins _).mono ?_
  rintro e w2 ⟨rfl, hb2⟩
  have hB2 : Below w.heap.size w w2 := ((Below.refl _ _).alloc (Nat.le_refl _) _).trans (hb2.mono (by simp))
  go_wp2
  go_ret2
  exact ⟨rfl, hB2⟩

end Go.Proofs.Ytehmbhdapgkbcaa
