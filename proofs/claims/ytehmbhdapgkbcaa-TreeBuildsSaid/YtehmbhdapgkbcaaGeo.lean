/- Squares of the plane: Half, Inside, origin, quarter, Level. -/
import Derived.Test.YtehmbhdapgkbcaaLeafs
namespace Go.Proofs.Ytehmbhdapgkbcaa
open Go.RowKit

/-- How far a root of a level goes from the origin. -/
def half (L : Nat) : Int := 2 ^ (L - 1)
theorem half_bounds {L : Nat} (h : L ≤ 44) : 1 ≤ half L ∧ half L ≤ 8796093022208 := by
  have h1 : (2 : Nat) ^ (L - 1) ≤ 2 ^ 43 := Nat.pow_le_pow_right (by omega) (by omega)
  have h2 : 0 < (2 : Nat) ^ (L - 1) := Nat.pow_pos (by omega)
  have e : half L = ((2 ^ (L - 1) : Nat) : Int) := by unfold half; norm_cast
  rw [e]
  generalize (2 : Nat) ^ (L - 1) = x at *
  omega
theorem half_more {L : Nat} (h : 1 ≤ L) : half (L + 1) = 2 * half L := by
  obtain ⟨n, rfl⟩ : ∃ n, L = n + 1 := ⟨L - 1, by omega⟩
  simp only [half, Nat.add_sub_cancel, Int.pow_succ]; omega
theorem half_pow (L : Nat) : half (L + 1) = 2 ^ L := by simp [half]

def inside (L : Nat) (a b : Int) : Bool := decide (-half L ≤ a) && decide (a < half L) && decide (-half L ≤ b) && decide (b < half L)
theorem inside_iff {L : Nat} {a b : Int} : inside L a b = true ↔ -half L ≤ a ∧ a < half L ∧ -half L ≤ b ∧ b < half L := by simp [inside, and_assoc]

theorem half_any (L : Nat) (h1 : 1 ≤ L) (h2 : L ≤ 44) (w : World) :
    Calls Try.prog 34 #[.int .i64 L] w fun e w' => e = .returned (.int .i64 (half L)) ∧ w = w' := by
  obtain ⟨n, rfl⟩ : ∃ n, L = n + 1 := ⟨L - 1, by omega⟩
  have hb := half_bounds h2
  rw [half_pow] at *
  have hw : RowKit.wrap64 ((2 : Int) ^ n) = 2 ^ n := by
    generalize (2 : Int) ^ n = x at *
    rw [RowKit.wrap64]; omega
  have m1 : (if (n : Int) + 1 > 1 then (n : Int) + 1 else 1) = (n : Int) + 1 := by split <;> omega
  have m2 : (if (n : Int) + 1 < 44 then (n : Int) + 1 else 44) = (n : Int) + 1 := by split <;> omega
  go_enter Try.func34, Try.ntmps34
  go_wp2
  go_ret
  exact ⟨rfl, rfl⟩

def I64 (x : Int) : Prop := -9223372036854775808 ≤ x ∧ x ≤ 9223372036854775807

set_option maxHeartbeats 2000000 in
theorem inside_any (L : Nat) (h1 : 1 ≤ L) (h2 : L ≤ 44) (a b : Int) (w : World) :
    Calls Try.prog 37 #[.int .i64 L, .agg #[.int .i64 a, .int .i64 b]] w fun e w' => e = .returned (.bool (inside L a b)) ∧ Below w.heap.size w w' := by
  have hb := half_bounds h2
  have hhalf := half_any L h1 h2
  have hin : inside L a b = (decide (-half L ≤ a) && decide (a < half L) && decide (-half L ≤ b) && decide (b < half L)) := rfl
  generalize half L = H at *
  have hneg : IntKind.i64.wrap (-H) = -H := IntWalk.i64_in _ (by omega)
  have hneg2 : RowKit.wrap64 (-H) = -H := by rw [RowKit.wrap64]; omega
  by_cases c1 : -H ≤ a
  case neg =>
    rw [hin]; simp only [c1, decide_true, decide_false, Bool.and_true, Bool.true_and, Bool.and_false, Bool.false_and]
    clear hin
    go_enter Try.func37, Try.ntmps37
    go_wp2_with fail
    refine (hhalf _).mono ?_
    rintro e w1 ⟨rfl, rfl⟩
    go_wp2
    go_ret
    exact ⟨rfl, (Below.refl _ _).alloc (Nat.le_refl _) _⟩
  by_cases c2 : a < H
  case neg =>
    rw [hin]; simp only [c1, c2, decide_true, decide_false, Bool.and_true, Bool.true_and, Bool.and_false, Bool.false_and]
    clear hin
    go_enter Try.func37, Try.ntmps37
    go_wp2_with fail
    refine (hhalf _).mono ?_
    rintro e w1 ⟨rfl, rfl⟩
    go_wp2
    go_ret
    exact ⟨rfl, (Below.refl _ _).alloc (Nat.le_refl _) _⟩
  by_cases c3 : -H ≤ b
  case neg =>
    rw [hin]; simp only [c1, c2, c3, decide_true, decide_false, Bool.and_true, Bool.true_and, Bool.and_false, Bool.false_and]
    clear hin
    go_enter Try.func37, Try.ntmps37
    go_wp2_with fail
    refine (hhalf _).mono ?_
    rintro e w1 ⟨rfl, rfl⟩
    go_wp2
    go_ret
    exact ⟨rfl, (Below.refl _ _).alloc (Nat.le_refl _) _⟩
  rw [hin]; simp only [c1, c2, c3, decide_true, Bool.true_and]
  clear hin
  go_enter Try.func37, Try.ntmps37
  go_wp2_with fail
  refine (hhalf _).mono ?_
  rintro e w1 ⟨rfl, rfl⟩
  go_wp2
  go_ret
  exact ⟨rfl, (Below.refl _ _).alloc (Nat.le_refl _) _⟩

theorem origin_any (L : Nat) (h1 : 1 ≤ L) (h2 : L ≤ 44) (w : World) :
    Calls Try.prog 39 #[.int .i64 L] w fun e w' => e = .returned (.agg #[.int .i64 (-half L), .int .i64 (-half L)]) ∧ Below w.heap.size w w' := by
  have hb := half_bounds h2
  have hhalf := half_any L h1 h2
  generalize half L = H at *
  have hneg : IntKind.i64.wrap (-H) = -H := IntWalk.i64_in _ (by omega)
  have hneg2 : RowKit.wrap64 (-H) = -H := by rw [RowKit.wrap64]; omega
  go_enter Try.func39, Try.ntmps39
  go_wp2_with fail
  refine (hhalf _).mono ?_
  rintro e w1 ⟨rfl, rfl⟩
  go_wp2_with fail
  refine (hhalf _).mono ?_
  rintro e w1 ⟨rfl, rfl⟩
  go_wp2
  exact bodyPost_ret (v := .agg #[.int .i64 (-H), .int .i64 (-H)]) (by simp [results, Try.results39, go_sem]) rfl ⟨rfl, (Below.refl _ _).alloc (Nat.le_refl _) _⟩

/-- Which kid of the square of level L + 1 at (x, y) has a point, and that kid's least point. -/
def quad (L : Nat) (x y a b : Int) : Nat := (if x + 2 ^ L ≤ a then 1 else 0) + (if y + 2 ^ L ≤ b then 2 else 0)
def quadA (L : Nat) (x a : Int) : Int := if x + 2 ^ L ≤ a then x + 2 ^ L else x

theorem pow_bounds {L : Nat} (h : L ≤ 43) : 1 ≤ (2 : Int) ^ L ∧ (2 : Int) ^ L ≤ 8796093022208 := by
  have := half_bounds (L := L + 1) (by omega)
  rw [half_pow] at this
  exact this

set_option maxHeartbeats 4000000 in
theorem quarter_any (L : Nat) (h2 : L ≤ 43) (x y a b : Int) (hx : -8796093022208 ≤ x ∧ x ≤ 8796093022208) (hy : -8796093022208 ≤ y ∧ y ≤ 8796093022208) (w : World) :
    Calls Try.prog 53 #[.int .i64 ((L + 1 : Nat) : Int), .agg #[.int .i64 x, .int .i64 y], .agg #[.int .i64 a, .int .i64 b]] w fun e w' => e = .returned (.tuple #[.int .i64 (quad L x y a b), .agg #[.int .i64 (quadA L x a), .int .i64 (quadA L y b)]]) ∧ Below w.heap.size w w' := by
  have hb := pow_bounds h2
  unfold quad quadA
  have hw : RowKit.wrap64 ((2 : Int) ^ L) = 2 ^ L := by
    generalize (2 : Int) ^ L = x at *
    rw [RowKit.wrap64]; omega
  have w1 : IntKind.i64.wrap (x + (2 : Int) ^ L) = x + 2 ^ L := IntWalk.i64_in _ (by generalize (2 : Int) ^ L = x at *; omega)
  have w2 : IntKind.i64.wrap (y + (2 : Int) ^ L) = y + 2 ^ L := IntWalk.i64_in _ (by generalize (2 : Int) ^ L = x at *; omega)
  by_cases c1 : x + 2 ^ L ≤ a <;> by_cases c2 : y + 2 ^ L ≤ b
  focus
    simp only [c1, c2, if_true, if_false]
    go_enter Try.func53, Try.ntmps53
    go_wp2
    go_region
    go_wp2
    go_region
    go_wp2
    go_region
    go_wp2
    exact bodyPost_ret (v := .tuple #[.int .i64 3, .agg #[.int .i64 (x + 2 ^ L), .int .i64 (y + 2 ^ L)]]) (by simp [results, Try.results53, go_sem]) rfl ⟨rfl, by (repeat (first | exact Below.refl _ _ | refine Below.drew ?_ | refine Below.setCell ?_ (by first | (simp; done) | (simp; omega)) _ | refine Below.alloc ?_ (by first | (simp; done) | (simp; omega)) _))⟩
  focus
    simp only [c1, c2, if_true, if_false]
    go_enter Try.func53, Try.ntmps53
    go_wp2
    go_region
    go_wp2
    go_region
    go_wp2
    exact bodyPost_ret (v := .tuple #[.int .i64 1, .agg #[.int .i64 (x + 2 ^ L), .int .i64 (y)]]) (by simp [results, Try.results53, go_sem]) rfl ⟨rfl, by (repeat (first | exact Below.refl _ _ | refine Below.drew ?_ | refine Below.setCell ?_ (by first | (simp; done) | (simp; omega)) _ | refine Below.alloc ?_ (by first | (simp; done) | (simp; omega)) _))⟩
  focus
    simp only [c1, c2, if_true, if_false]
    go_enter Try.func53, Try.ntmps53
    go_wp2
    go_region
    go_wp2
    go_region
    go_wp2
    exact bodyPost_ret (v := .tuple #[.int .i64 2, .agg #[.int .i64 (x), .int .i64 (y + 2 ^ L)]]) (by simp [results, Try.results53, go_sem]) rfl ⟨rfl, by (repeat (first | exact Below.refl _ _ | refine Below.drew ?_ | refine Below.setCell ?_ (by first | (simp; done) | (simp; omega)) _ | refine Below.alloc ?_ (by first | (simp; done) | (simp; omega)) _))⟩
  focus
    simp only [c1, c2, if_true, if_false]
    go_enter Try.func53, Try.ntmps53
    go_wp2
    go_region
    go_wp2
    exact bodyPost_ret (v := .tuple #[.int .i64 0, .agg #[.int .i64 (x), .int .i64 (y)]]) (by simp [results, Try.results53, go_sem]) rfl ⟨rfl, by (repeat (first | exact Below.refl _ _ | refine Below.drew ?_ | refine Below.setCell ?_ (by first | (simp; done) | (simp; omega)) _ | refine Below.alloc ?_ (by first | (simp; done) | (simp; omega)) _))⟩

/-- The least level of a root (3 to 44) that has two points; 44 where none has. -/
def LevelIs (la lb ha hb : Int) (L : Nat) : Prop :=
  3 ≤ L ∧ L ≤ 44 ∧ (L < 44 → inside L la lb = true ∧ inside L ha hb = true) ∧ ∀ M, 3 ≤ M → M < L → ¬(inside M la lb = true ∧ inside M ha hb = true)

theorem level_step {la lb ha hb : Int} {L : Nat} (hM : ∀ M, 3 ≤ M → M < L → ¬(inside M la lb = true ∧ inside M ha hb = true)) (h : ¬(inside L la lb = true ∧ inside L ha hb = true)) : ∀ M, 3 ≤ M → M < L + 1 → ¬(inside M la lb = true ∧ inside M ha hb = true) := fun M h1 h2 hh => by
  rcases Nat.lt_or_ge M L with h3 | h3
  · exact hM M h1 h3 hh
  · obtain rfl : M = L := by omega
    exact h hh

set_option maxHeartbeats 4000000 in
theorem level_any (la lb ha hb : Int) (w : World) :
    Calls Try.prog 49 #[.agg #[.int .i64 la, .int .i64 lb, .int .i64 ha, .int .i64 hb]] w fun e w' => ∃ L : Nat, e = .returned (.int .i64 L) ∧ LevelIs la lb ha hb L ∧ Below w.heap.size w w' := by
  go_enter Try.func49, Try.ntmps49
  go_wp2_with fail
  go_loopg [3] 41 (fun g s3 wr => ∃ L : Nat, g = 44 - L ∧ s3 = .int .i64 L ∧ 3 ≤ L ∧ L ≤ 44 ∧ (∀ M, 3 ≤ M → M < L → ¬(inside M la lb = true ∧ inside M ha hb = true)) ∧ Below (w.heap.size + 1) (w.alloc (.cells #[.int .i64 la, .int .i64 lb, .int .i64 ha, .int .i64 hb] 53)) wr)
  case atStart => exact ⟨3, by omega, rfl, by omega, by omega, fun M h1 h2 => by omega, Below.refl _ _⟩
  case round =>
    obtain ⟨L, hg, rfl, h3, h44, hM, hB⟩ := hrel
    have hz := hB.size
    simp only [World.size_alloc] at hz
    have hbw : Below w.heap.size w wr := ((Below.refl _ _).alloc (Nat.le_refl _) _).trans (hB.mono (by omega))
    have c0 : wr.cell? ⟨w.heap.size, 0, none⟩ = some (.int .i64 la) := (hB.cell (p := ⟨w.heap.size, 0, none⟩) (by simp)).trans (World.cell?_alloc_new _ _ _ _)
    have c1 : wr.cell? ⟨w.heap.size, 1, none⟩ = some (.int .i64 lb) := (hB.cell (p := ⟨w.heap.size, 1, none⟩) (by simp)).trans (World.cell?_alloc_new _ _ _ _)
    have hin1 := inside_any L (by omega) h44 la lb
    have hin2 := inside_any L (by omega) h44 ha hb
    have HM := Lib.hid hM
    clear hM
    by_cases hL : L = 44
    · subst hL
      clear hin1 hin2
      go_wp2
      go_ret
      exact ⟨44, rfl, ⟨h3, h44, fun h => absurd h (by omega), HM.out⟩, hbw⟩
    have hL2 : (L : Int) < 44 := by omega
    cases i1 : inside L la lb
    · rw [i1] at hin1
      clear hin2
      have I1 := Lib.hid i1
      clear i1
      go_wp2_with fail
      refine (hin1 _).mono ?_
      rintro e w1 ⟨rfl, hb1⟩
      go_wp2
      go_roundg (44 - (L + 1))
      case measure => omega
      case rel => exact ⟨L + 1, rfl, by go_num, by omega, by omega, level_step HM.out (fun hh => by have := I1.out; simp [hh.1] at this), hB.trans (hb1.mono (by omega))⟩
    · rw [i1] at hin1
      cases i2 : inside L ha hb
      · rw [i2] at hin2
        have I2 := Lib.hid i2
        clear i1 i2
        go_wp2_with fail
        refine (hin1 _).mono ?_
        rintro e w1 ⟨rfl, hb1⟩
        have c2 : w1.cell? ⟨w.heap.size, 2, none⟩ = some (.int .i64 ha) := (hb1.cell (p := ⟨w.heap.size, 2, none⟩) (show w.heap.size < wr.heap.size by omega)).trans ((hB.cell (p := ⟨w.heap.size, 2, none⟩) (by simp)).trans (World.cell?_alloc_new _ _ _ _))
        have c3 : w1.cell? ⟨w.heap.size, 3, none⟩ = some (.int .i64 hb) := (hb1.cell (p := ⟨w.heap.size, 3, none⟩) (show w.heap.size < wr.heap.size by omega)).trans ((hB.cell (p := ⟨w.heap.size, 3, none⟩) (by simp)).trans (World.cell?_alloc_new _ _ _ _))
        go_wp2_with fail
        refine (hin2 _).mono ?_
        rintro e w2 ⟨rfl, hb2⟩
        go_wp2
        go_roundg (44 - (L + 1))
        case measure => omega
        case rel => exact ⟨L + 1, rfl, by go_num, by omega, by omega, level_step HM.out (fun hh => by have := I2.out; simp [hh.2] at this), (hB.trans (hb1.mono (by omega))).trans (hb2.mono (by have := hb1.size; omega))⟩
      · rw [i2] at hin2
        have I1 := Lib.hid i1
        have I2 := Lib.hid i2
        clear i1 i2
        go_wp2_with fail
        refine (hin1 _).mono ?_
        rintro e w1 ⟨rfl, hb1⟩
        have c2 : w1.cell? ⟨w.heap.size, 2, none⟩ = some (.int .i64 ha) := (hb1.cell (p := ⟨w.heap.size, 2, none⟩) (show w.heap.size < wr.heap.size by omega)).trans ((hB.cell (p := ⟨w.heap.size, 2, none⟩) (by simp)).trans (World.cell?_alloc_new _ _ _ _))
        have c3 : w1.cell? ⟨w.heap.size, 3, none⟩ = some (.int .i64 hb) := (hb1.cell (p := ⟨w.heap.size, 3, none⟩) (show w.heap.size < wr.heap.size by omega)).trans ((hB.cell (p := ⟨w.heap.size, 3, none⟩) (by simp)).trans (World.cell?_alloc_new _ _ _ _))
        go_wp2_with fail
        refine (hin2 _).mono ?_
        rintro e w2 ⟨rfl, hb2⟩
        go_wp2
        go_ret
        exact ⟨L, rfl, ⟨h3, h44, fun _ => ⟨I1.out, I2.out⟩, HM.out⟩, (hbw.trans (hb1.mono (by have := hbw.size; omega))).trans (hb2.mono (by have := hb1.size; have := hbw.size; omega))⟩

end Go.Proofs.Ytehmbhdapgkbcaa
