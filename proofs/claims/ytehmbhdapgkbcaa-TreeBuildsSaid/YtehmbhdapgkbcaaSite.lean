/- Leaves as bits of points: State, Put, Low, With. -/
import Derived.Test.YtehmbhdapgkbcaaOk
namespace Go.Proofs.Ytehmbhdapgkbcaa
open Go.RowKit

theorem div_lt32 {f : Nat} (hf : f < 4294967296) (k : Nat) : f / 2 ^ k < 4294967296 := by
  have := Nat.div_le_self f (2 ^ k)
  generalize f / 2 ^ k = x at *
  omega

theorem state_any (f a b : Nat) (hf : f < 4294967296) (ha : a < 4) (hb : b < 4) (w : World) :
    Calls Try.prog 56 #[.int .u32 f, .int .i64 a, .int .i64 b] w fun e w' => e = .returned (.int .i64 ((f / 2 ^ (2 * (4 * b + a)) % 4 : Nat) : Int)) ∧ w = w' := by
  have h1 := div_pow_i64 f (2 * (4 * b + a)) hf
  have h2 := and3_i64 (f / 2 ^ (2 * (4 * b + a))) (by have := div_lt32 hf (2 * (4 * b + a)); omega)
  generalize f / 2 ^ (2 * (4 * b + a)) = x at *
  go_enter Try.func56, Try.ntmps56
  go_wp2
  go_ret
  exact ⟨rfl, rfl⟩
theorem low_any (a b : Int) (ha : -9223372036854775808 ≤ a ∧ a ≤ 9223372036854775807) (hb : -9223372036854775808 ≤ b ∧ b ≤ 9223372036854775807) (w : World) :
    Calls Try.prog 67 #[.agg #[.int .i64 a, .int .i64 b]] w fun e w' => e = .returned (.agg #[.int .i64 (a / 4 * 4), .int .i64 (b / 4 * 4)]) ∧ Below w.heap.size w w' := by
  have h1 := andNot3_i64 a ha
  have h2 := andNot3_i64 b hb
  generalize a / 4 * 4 = x at *
  generalize b / 4 * 4 = y at *
  go_enter Try.func67, Try.ntmps67
  go_wp2
  exact bodyPost_ret (v := .agg #[.int .i64 x, .int .i64 y]) (by simp [results, Try.results67, go_sem]) rfl ⟨rfl, ((Below.refl _ _).alloc (Nat.le_refl _) _).alloc (by simp) _⟩

def PutPost (f k s : Nat) (w : World) (e : Ending) (w' : World) : Prop :=
  ∃ g : Nat, e = .returned (.int .u32 g) ∧ g < 4294967296 ∧ (∀ i, g.testBit i = if i = k then s.testBit 0 else if i = k + 1 then s.testBit 1 else f.testBit i) ∧ ∃ n, w' = w.drewN n

theorem pow_lt31 {k : Nat} (hk : k ≤ 30) : 2 ^ k ≤ 1073741824 := by
  have : 2 ^ k ≤ 2 ^ 30 := Nat.pow_le_pow_right (by omega) hk
  omega

theorem two_bits (s : Nat) (hs : s < 4) (i : Nat) : s.testBit i = if i = 0 then s.testBit 0 else if i = 1 then s.testBit 1 else false := by
  match i with
  | 0 => simp
  | 1 => simp
  | i + 2 =>
    rw [if_neg (by omega), if_neg (by omega)]
    exact Nat.testBit_lt_two_pow (Nat.lt_of_lt_of_le (show s < 2 ^ 2 from hs) (Nat.pow_le_pow_right (by omega) (by omega)))

theorem put_any (f a b s : Nat) (hf : f < 4294967296) (ha : a < 4) (hb : b < 4) (hs : s < 4) (w : World) :
    Calls Try.prog 71 #[.int .u32 f, .int .i64 a, .int .i64 b, .int .i64 s] w (PutPost f (2 * (4 * b + a)) s w) := by
  have hk : 2 * (4 * b + a) ≤ 30 := by omega
  have hp := pow_lt31 hk
  have h3 := and3_i64 s (by omega)
  have e3 : s % 4 = s := by omega
  rw [e3] at h3
  clear e3
  obtain ⟨P, hP⟩ : ∃ P : Nat, P = 2 ^ (2 * (4 * b + a)) := ⟨_, rfl⟩
  have hPi : (2 : Int) ^ (2 * (4 * b + a)) = (P : Int) := by rw [hP]; norm_cast
  rw [← hP] at hp
  have hsP : s * P ≤ 3 * 1073741824 := Nat.mul_le_mul (by omega) hp
  have m1 : (3 : Int) * (P : Int) % 4294967296 = ((3 * P : Nat) : Int) := by omega
  have m2 : (s : Int) % 4294967296 = s := by omega
  have m3 : (s : Int) * (P : Int) % 4294967296 = ((s * P : Nat) : Int) := by
    rw [← Int.natCast_mul]
    generalize s * P = x at *
    omega
  obtain ⟨g, hg, hg2, hgb⟩ := andNot_u32 f (3 * P) hf (by omega)
  have hor := or_u32 g (s * P) hg2 (by omega)
  have hbits : ∀ i, (g ||| s * P).testBit i = if i = 2 * (4 * b + a) then s.testBit 0 else if i = 2 * (4 * b + a) + 1 then s.testBit 1 else f.testBit i := by
    intro i
    have t3 : (3 * P).testBit i = (decide (2 * (4 * b + a) ≤ i) && Nat.testBit 3 (i - 2 * (4 * b + a))) := by
      rw [hP, ← Nat.shiftLeft_eq, Nat.testBit_shiftLeft]
    have ts : (s * P).testBit i = (decide (2 * (4 * b + a) ≤ i) && s.testBit (i - 2 * (4 * b + a))) := by
      rw [hP, ← Nat.shiftLeft_eq, Nat.testBit_shiftLeft]
    rw [Nat.testBit_or, hgb, t3, ts, two_bits s hs (i - _), two_bits 3 (by omega) (i - _)]
    generalize 2 * (4 * b + a) = k
    by_cases h1 : i = k
    · subst h1; simp
    · by_cases h2 : i = k + 1
      · subst h2; simp [show Nat.testBit 3 1 = true from rfl]
      · by_cases h4 : k ≤ i
        · rw [if_neg (show ¬ i - k = 0 by omega), if_neg (show ¬ i - k = 1 by omega), if_neg (show ¬ i - k = 0 by omega), if_neg (show ¬ i - k = 1 by omega), if_neg h1, if_neg h2]
          simp
        · rw [if_neg h1, if_neg h2]
          simp [h4]
  have hlt : g ||| s * P < 4294967296 := lt_of_bits fun i hi => by
    rw [hbits, if_neg (by omega), if_neg (by omega), high_bit hf hi]
  have Hb := Lib.hid hbits
  clear hbits hgb hsP hP hp
  rw [show ((s * P : Nat) : Int) = (s : Int) * (P : Int) by norm_cast] at hor
  rw [show ((3 * P : Nat) : Int) = 3 * (P : Int) by norm_cast] at hg
  generalize g ||| s * P = r at *
  go_enter Try.func71, Try.ntmps71
  go_wp2_with fail
  go_quiet (fail)
  go_wp2
  go_ret
  exact ⟨r, rfl, hlt, Hb.out, _, rfl⟩

/-- The number of a point's cell in its leaf. -/
def bitAt (a b h : Int) : Nat := 2 * (4 * (b % 4).toNat + (a % 4).toNat) + h.toNat
theorem bitAt_lt {a b h : Int} (h0 : 0 ≤ h) (h1 : h ≤ 1) : bitAt a b h < 32 := by unfold bitAt; omega

def WithPost (f k : Nat) (live : Bool) (w : World) (e : Ending) (w' : World) : Prop := e = .returned (.int .u32 (setB f k live)) ∧ Below w.heap.size w w'

theorem shiftbits (f k : Nat) : f / 2 ^ k % 4 = (f.testBit k).toNat + 2 * (f.testBit (k + 1)).toNat := by
  have h1 : f.testBit k = decide (f / 2 ^ k % 2 = 1) := by rw [Nat.testBit_eq_decide_div_mod_eq]
  have h2 : f.testBit (k + 1) = decide (f / 2 ^ (k + 1) % 2 = 1) := by rw [Nat.testBit_eq_decide_div_mod_eq]
  rw [h1, h2, Nat.pow_succ, ← Nat.div_div_eq_div_mul]
  generalize f / 2 ^ k = x
  by_cases a : x % 2 = 1 <;> by_cases b : x / 2 % 2 = 1 <;> simp [a, b] <;> omega

/-- The state of two bits, one of them set or cleared: as the program reckons it. -/
def stB (s : Nat) (h : Int) (live : Bool) : Nat := if h = 0 then s / 2 * 2 + live.toNat else s % 2 + 2 * live.toNat
theorem stB_lt {s : Nat} (hs : s < 4) (h : Int) (live : Bool) : stB s h live < 4 := by
  unfold stB; cases live <;> split <;> simp <;> omega
theorem st_not {s : Nat} (hs : s < 4) : bits .andNot .i64 (s : Int) 1 = ((stB s 0 false : Nat) : Int) ∧ bits .andNot .i64 (s : Int) 2 = ((stB s 1 false : Nat) : Int) := by
  have : s = 0 ∨ s = 1 ∨ s = 2 ∨ s = 3 := by omega
  rcases this with rfl | rfl | rfl | rfl <;> exact ⟨rfl, rfl⟩
theorem st_or {s : Nat} (hs : s < 4) : bits .or .i64 ((stB s 0 false : Nat) : Int) 1 = ((stB s 0 true : Nat) : Int) ∧ bits .or .i64 ((stB s 1 false : Nat) : Int) 2 = ((stB s 1 true : Nat) : Int) := by
  have : s = 0 ∨ s = 1 ∨ s = 2 ∨ s = 3 := by omega
  rcases this with rfl | rfl | rfl | rfl <;> exact ⟨rfl, rfl⟩

theorem setB_of {f k g : Nat} {h : Int} {live : Bool} (h0 : 0 ≤ h) (h1 : h ≤ 1)
    (hg : ∀ i, g.testBit i = if i = k then (stB (f / 2 ^ k % 4) h live).testBit 0 else if i = k + 1 then (stB (f / 2 ^ k % 4) h live).testBit 1 else f.testBit i) : g = setB f (k + h.toNat) live := by
  refine Nat.eq_of_testBit_eq fun i => ?_
  rw [hg, setB_bit, shiftbits]
  have hh : h = 0 ∨ h = 1 := by omega
  have t0 : ∀ x : Nat, x.testBit 0 = decide (x % 2 = 1) := fun x => by simp [Nat.testBit_zero]
  have t1 : ∀ x : Nat, x.testBit 1 = decide (x / 2 % 2 = 1) := fun x => by rw [show (1 : Nat) = 0 + 1 from rfl, Nat.testBit_succ, t0]
  rw [t0, t1]
  by_cases e1 : i = k
  · subst e1
    rcases hh with rfl | rfl
    · cases live <;> cases f.testBit i <;> cases f.testBit (i + 1) <;> simp [stB]
    · have : i ≠ i + 1 := by omega
      cases live <;> cases h2 : f.testBit i <;> cases f.testBit (i + 1) <;> simp [stB, h2]
  · by_cases e2 : i = k + 1
    · subst e2
      rcases hh with rfl | rfl
      · cases live <;> cases f.testBit k <;> cases h2 : f.testBit (k + 1) <;> simp [stB, h2]
      · cases live <;> cases f.testBit k <;> cases f.testBit (k + 1) <;> simp [stB]
    · rw [if_neg e1, if_neg e2, if_neg (by rcases hh with rfl | rfl <;> simp <;> omega)]

end Go.Proofs.Ytehmbhdapgkbcaa
