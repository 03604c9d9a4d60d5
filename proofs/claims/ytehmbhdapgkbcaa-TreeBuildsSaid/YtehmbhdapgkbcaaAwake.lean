/- awake: the walk. -/
import Derived.Test.YtehmbhdapgkbcaaMake
namespace Go.Proofs.Ytehmbhdapgkbcaa
open Go.RowKit

def l1 : List Cl := [⟨3, 0, 0⟩, ⟨-4, 3, 0⟩]
def l2 : List Cl := [⟨4, 0, 0⟩]
theorem set1 : SetOk l1 := ⟨fun c hc => by simp [l1] at hc; rcases hc with rfl | rfl <;> simp, fun c hc => by simp [l1] at hc; rcases hc with rfl | rfl <;> decide, by decide⟩
theorem set2 : SetOk l2 := ⟨fun c hc => by simp [l2] at hc; subst hc; simp, fun c hc => by simp [l2] at hc; subst hc; decide, by decide⟩
theorem lv1 : LvOf l1 3 := ⟨by omega, by omega, fun c hc => by simp [l1] at hc; rcases hc with rfl | rfl <;> decide, fun M h1 h2 => by omega⟩
theorem lv2 : LvOf l2 4 := ⟨by omega, by omega, fun c hc => by simp [l2] at hc; subst hc; decide, fun M h1 h2 h => by
  have : M = 3 := by omega
  subst this
  exact absurd (h ⟨4, 0, 0⟩ (by simp [l2])) (by decide)⟩

set_option maxHeartbeats 4000000 in
set_option maxRecDepth 100000 in
theorem awake_any (w : World) : Calls Try.prog 8 #[] w fun e w' => e = .returned (.bool true) ∧ Below w.heap.size w w' := by
  have hrow1 : RefRow (w.alloc (.cells #[.int .i64 3, .int .i64 0, .int .i64 0, .int .i64 (-4), .int .i64 3, .int .i64 0] 32)) (.slice (some ⟨w.heap.size, 0, none⟩) 2 2) l1 :=
    ⟨rfl, .inr ⟨w.heap.size, 2, _, rfl, Nat.zero_le _, heap_alloc_new _ _, Nat.le_refl _, by decide, rfl, rfl⟩⟩
  have hB0 : Below w.heap.size w (w.alloc (.cells #[.int .i64 3, .int .i64 0, .int .i64 0, .int .i64 (-4), .int .i64 3, .int .i64 0] 32)) := (Below.refl _ _).alloc (Nat.le_refl _) _
  have hmake1 := make_any hrow1 set1 (by decide)
  have hz0 := hB0.size
  go_enter Try.func8, Try.ntmps8
  go_wp2_with fail
  refine hmake1.mono ?_
  rintro e w1 ⟨p1, F1, A1, r1, rfl, hS1, ok1, hm1, hrm1, hr1, hR1, hB1, hf1⟩
  have hB2 : Below w.heap.size w w1 := hB0.trans (hB1.mono hz0)
  have hz1 := hB2.size
  have hrow2 : RefRow (w1.alloc (.cells #[.int .i64 4, .int .i64 0, .int .i64 0] 32)) (.slice (some ⟨w1.heap.size, 0, none⟩) 1 1) l2 :=
    ⟨rfl, .inr ⟨w1.heap.size, 1, _, rfl, Nat.zero_le _, heap_alloc_new _ _, Nat.le_refl _, by decide, rfl, rfl⟩⟩
  have hBa : Below w1.heap.size w1 (w1.alloc (.cells #[.int .i64 4, .int .i64 0, .int .i64 0] 32)) := (Below.refl _ _).alloc (Nat.le_refl _) _
  have hmake2 := make_any hrow2 set2 (by decide)
  have hza := hBa.size
  clear hmake1 hrow1
  go_wp2_with fail
  refine hmake2.mono ?_
  rintro e w2 ⟨p2, F2, A2, r2, rfl, hS2, ok2, hm2, hrm2, hr2, hR2, hB3, hf2⟩
  have hB4 : Below w1.heap.size w1 w2 := hBa.trans (hB3.mono hza)
  have hS3 := hS1.new hB4
  have hB5 : Below w.heap.size w w2 := hB2.trans (hB4.mono hz1)
  clear hmake2 hrow2
  have e1 : A1.lv r1 = 3 := hR1.1.uniq lv1
  have e2 : A2.lv r2 = 4 := hR2.1.uniq lv2
  have n1 := A1.room_le
  have n2 := A2.room_le
  have hl1 : l1.length = 2 := rfl
  have hl2 : l2.length = 1 := rfl
  have lvl1 := hS3.toArM.level (i := r1) (by omega)
  rw [Ar.lvl_in hr1, show (ndAt A1.nodes r1).lv = 3 from e1] at lvl1
  have lvl2 := fun W (h : ArS W p2 F2 A2) => h.toArM.level (i := r2) (by omega)
  have hcell : (⟨3, 0, 0⟩ : Cl) ∈ A1.cells r1 := (hR1.2 _).2 (by simp [l1])
  have hget := fun W (h : ArS W p1 F1 A1) => get_in h ok1 (i := r1) (by omega) (by omega) (c := ⟨3, 0, 0⟩) (by rw [e1]; decide) (by decide) (by decide)
  rw [decide_eq_true hcell] at hget
  have hown := own_any ⟨3, 0, 0⟩
  have hhalf := half_any 44 (by omega) (by omega)
  rw [show half 44 = 8796093022208 from rfl] at hhalf
  have q1 : ((3 : Nat) : Int) = 3 := rfl
  dsimp only at hget hown
  go_wp2_with fail
  refine lvl1.mono ?_
  rintro e w' ⟨rfl, rfl⟩
  have lvl2' := lvl2 _ hS2
  rw [Ar.lvl_in hr2, show (ndAt A2.nodes r2).lv = 4 from e2] at lvl2'
  go_wp2_with fail
  refine lvl2'.mono ?_
  rintro e w' ⟨rfl, rfl⟩
  go_wp2_with fail
  refine (hown _).mono ?_
  rintro e w4 ⟨rfl, hB6⟩
  have hg := hget _ (hS3.new hB6)
  go_wp2_with fail
  refine hg.mono ?_
  rintro e w5 ⟨rfl, hB7⟩
  go_wp2_with fail
  refine (hhalf _).mono ?_
  rintro e w' ⟨rfl, rfl⟩
  go_wp2
  go_ret
  exact ⟨rfl, (hB5.trans (hB6.mono hB5.size)).trans (hB7.mono (by have := hB5.size; have := hB6.size; omega))⟩

end Go.Proofs.Ytehmbhdapgkbcaa
