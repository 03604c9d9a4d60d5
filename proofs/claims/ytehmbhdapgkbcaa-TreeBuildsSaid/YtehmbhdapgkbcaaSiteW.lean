/- A leaf with a cell: With. -/
import Derived.Test.YtehmbhdapgkbcaaSite
namespace Go.Proofs.Ytehmbhdapgkbcaa
open Go.RowKit

set_option maxHeartbeats 8000000 in
theorem with_any (f : Nat) (hf : f < 4294967296) (a b h : Int) (live : Bool) (ha : -9223372036854775808 ≤ a ∧ a ≤ 9223372036854775807) (hb : -9223372036854775808 ≤ b ∧ b ≤ 9223372036854775807) (h0 : 0 ≤ h) (h1 : h ≤ 1) (w : World) :
    Calls Try.prog 61 #[.int .u32 f, .agg #[.int .i64 a, .int .i64 b, .int .i64 h], .bool live] w (WithPost f (bitAt a b h) live w) := by
  obtain ⟨A, hA⟩ : ∃ A : Nat, A = (a % 4).toNat := ⟨_, rfl⟩
  obtain ⟨B, hB⟩ : ∃ B : Nat, B = (b % 4).toNat := ⟨_, rfl⟩
  have hfin : ∀ g : Nat, (∀ i, g.testBit i = if i = 2 * (4 * B + A) then (stB (f / 2 ^ (2 * (4 * B + A)) % 4) h live).testBit 0 else if i = 2 * (4 * B + A) + 1 then (stB (f / 2 ^ (2 * (4 * B + A)) % 4) h live).testBit 1 else f.testBit i) → g = setB f (bitAt a b h) live := fun g hg => by
    have := setB_of h0 h1 hg
    rw [this, bitAt, ← hA, ← hB]
  have a1 : A < 4 := by omega
  have b1 : B < 4 := by omega
  have eA : a - a / 4 * 4 = (A : Int) := by omega
  have eB : b - b / 4 * 4 = (B : Int) := by omega
  have eA2 : IntKind.i64.wrap (a - a / 4 * 4) = (A : Int) := by rw [eA]; exact IntWalk.i64_in _ (by omega)
  have eB2 : IntKind.i64.wrap (b - b / 4 * 4) = (B : Int) := by rw [eB]; exact IntWalk.i64_in _ (by omega)
  have hlow := low_any a b ha hb
  have hst := state_any f A B hf a1 b1
  have hput := fun s hs => put_any f A B s hf a1 b1 hs
  have hs4 : f / 2 ^ (2 * (4 * B + A)) % 4 < 4 := Nat.mod_lt _ (by omega)
  generalize f / 2 ^ (2 * (4 * B + A)) % 4 = s at hst hfin hs4
  generalize 2 * (4 * B + A) = K at hput hfin
  have sn := st_not hs4
  have so := st_or hs4
  have l1 := stB_lt hs4 h live
  generalize a / 4 * 4 = x at *
  generalize b / 4 * 4 = y at *
  clear hA hB
  have Hfin := Lib.hid hfin
  clear hfin
  have hh : h = 0 ∨ h = 1 := by omega
  obtain ⟨sn0, sn1⟩ := sn
  obtain ⟨so0, so1⟩ := so
  rcases hh with rfl | rfl <;> cases live
  all_goals
    go_enter Try.func61, Try.ntmps61
    go_wp2_with fail
    refine (hlow _).mono ?_
    rintro e w1 ⟨rfl, hb1⟩
    have hz := hb1.size
    simp only [World.size_alloc] at hz
    have hl1 : w.heap.size < w1.heap.size := by omega
    have c0 : ∀ o, (w1.alloc o).cell? ⟨w.heap.size, 0, none⟩ = some (.int .i64 a) := fun o => (World.cell?_alloc_past _ _ _ hl1).trans ((hb1.cell (p := ⟨w.heap.size, 0, none⟩) (by simp)).trans (World.cell?_alloc_new _ _ _ _))
    have c1 : ∀ o, (w1.alloc o).cell? ⟨w.heap.size, 1, none⟩ = some (.int .i64 b) := fun o => (World.cell?_alloc_past _ _ _ hl1).trans ((hb1.cell (p := ⟨w.heap.size, 1, none⟩) (by simp)).trans (World.cell?_alloc_new _ _ _ _))
    have c2 : ∀ o, (w1.alloc o).cell? ⟨w.heap.size, 2, none⟩ = some (.int .i64 _) := fun o => (World.cell?_alloc_past _ _ _ hl1).trans ((hb1.cell (p := ⟨w.heap.size, 2, none⟩) (by simp)).trans (World.cell?_alloc_new _ _ _ _))
    have hbw : Below w.heap.size w w1 := ((Below.refl _ _).alloc (Nat.le_refl _) _).trans (hb1.mono (by simp))
    go_wp2_with fail
    go_quiet (fail)
    go_wp2_with fail
    go_quiet ((go_at_call 56; first | exact quiet_of_eq (hst _) | exact quiet_of_eq2 (hst _)))
    go_wp2_with fail
    refine (hput _ l1 _).mono ?_
    rintro e w2 ⟨g, rfl, hg2, hgb, n, rfl⟩
    have hfg := Hfin.out g hgb
    clear hgb Hfin hput hst hlow
    go_wp2
    go_ret
    exact ⟨by rw [← hfg]; rfl, below_drewN (hbw.alloc (by have := hbw.size; omega) _) _⟩

end Go.Proofs.Ytehmbhdapgkbcaa
