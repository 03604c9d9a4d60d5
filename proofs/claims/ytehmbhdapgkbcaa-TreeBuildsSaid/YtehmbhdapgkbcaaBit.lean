/- Bits of numbers, as the program's operations have them. Plain: nothing of the program. -/
import Derived.Laws.Bits64
import Derived.Laws.Shifts
import Derived.IntWalk
namespace Go.Proofs.Ytehmbhdapgkbcaa

/-- The places of the bits of a leaf. -/
def bitsOf (n : Nat) : List Nat := (List.range 32).filter (fun k => n.testBit k)
/-- How many bits. -/
def pop (n : Nat) : Nat := (bitsOf n).length

theorem low_bit : ∀ n : Nat, 0 < n → ∃ k, n.testBit k = true ∧ ∀ j, (n &&& (n - 1)).testBit j = (n.testBit j && decide (j ≠ k)) := by
  intro n
  induction n using Nat.strongRecOn with
  | _ n ih =>
    intro hn
    rcases Nat.mod_two_eq_zero_or_one n with h | h
    · obtain ⟨k, hk, hj⟩ := ih (n / 2) (by omega) (by omega)
      refine ⟨k + 1, by rw [Nat.testBit_succ]; exact hk, fun j => ?_⟩
      cases j with
      | zero =>
        rw [Nat.testBit_and]
        have : n.testBit 0 = false := by simp [Nat.testBit_zero]; omega
        simp [this]
      | succ j =>
        have hj := hj j
        rw [Nat.testBit_and] at hj ⊢
        rw [Nat.testBit_succ, Nat.testBit_succ, show (n - 1) / 2 = n / 2 - 1 by omega, hj]
        simp
    · refine ⟨0, by simp [Nat.testBit_zero, h], fun j => ?_⟩
      cases j with
      | zero =>
        rw [Nat.testBit_and]
        have : (n - 1).testBit 0 = false := by simp [Nat.testBit_zero]; omega
        simp [this]
      | succ j =>
        rw [Nat.testBit_and, Nat.testBit_succ, Nat.testBit_succ, show (n - 1) / 2 = n / 2 by omega]
        simp

theorem filter_less {p : Nat → Bool} {k : Nat} (hp : p k = true) : ∀ l : List Nat, l.Nodup → k ∈ l → (l.filter (fun j => p j && decide (j ≠ k))).length + 1 = (l.filter p).length
  | [], _, h => by simp at h
  | a :: l, hn, h => by
    have hn' := List.nodup_cons.1 hn
    by_cases e : a = k
    · subst e
      have h0 : l.filter (fun j => p j && decide (j ≠ a)) = l.filter p := List.filter_congr fun x hx => by
        have : x ≠ a := fun e => hn'.1 (e ▸ hx)
        simp [this]
      rw [List.filter_cons_of_neg (by simp), List.filter_cons_of_pos hp, h0]
      rfl
    · have hk : k ∈ l := by
        rcases List.mem_cons.1 h with h | h
        · exact absurd h.symm e
        · exact h
      have := filter_less hp l hn'.2 hk
      cases hpa : p a
      · rw [List.filter_cons_of_neg (by simp [hpa]), List.filter_cons_of_neg (by simp [hpa])]; exact this
      · rw [List.filter_cons_of_pos (by simp [hpa, e]), List.filter_cons_of_pos hpa, List.length_cons, List.length_cons]; omega

theorem pop_and (n : Nat) (h0 : 0 < n) (h : n < 4294967296) : pop (n &&& (n - 1)) + 1 = pop n := by
  obtain ⟨k, hk, hj⟩ := low_bit n h0
  have hk32 : k < 32 := by
    rcases Nat.lt_or_ge k 32 with h1 | h1
    · exact h1
    · rw [Nat.testBit_lt_two_pow (Nat.lt_of_lt_of_le (show n < 2 ^ 32 from h) (Nat.pow_le_pow_right (by omega) h1))] at hk
      cases hk
  have := filter_less (p := fun k => n.testBit k) hk (List.range 32) List.nodup_range (List.mem_range.2 hk32)
  unfold pop bitsOf
  rw [← this]
  congr 2
  exact List.filter_congr fun x _ => hj x
theorem pop_zero : pop 0 = 0 := by simp [pop, bitsOf]
theorem pop_le (n : Nat) : pop n ≤ 32 := by
  unfold pop bitsOf
  exact Nat.le_trans (List.length_filter_le _ _) (by simp)
theorem pop_pos {n : Nat} (h : n < 4294967296) (h0 : pop n = 0) : n = 0 := by
  rcases Nat.eq_zero_or_pos n with e | e
  · exact e
  · have := pop_and n e h; omega

/-! ### The program's operations on 32 bits -/
theorem ofInt_nat {w n : Nat} (h : n < 2 ^ w) : (BitVec.ofInt w (n : Int)).toNat = n := by
  rw [BitVec.ofInt_natCast, BitVec.toNat_ofNat]; exact Nat.mod_eq_of_lt h

theorem and_u32 (a b : Nat) (ha : a < 4294967296) (hb : b < 4294967296) : bits .and .u32 (a : Int) (b : Int) = ((a &&& b : Nat) : Int) := by
  show IntKind.u32.wrap ((BitVec.ofInt 32 (a : Int) &&& BitVec.ofInt 32 (b : Int)).toNat : Int) = _
  rw [BitVec.toNat_and, ofInt_nat (by omega), ofInt_nat (by omega), IntWalk.u32_in]
  have := Nat.and_le_left (n := a) (m := b)
  omega
theorem or_u32 (a b : Nat) (ha : a < 4294967296) (hb : b < 4294967296) : bits .or .u32 (a : Int) (b : Int) = ((a ||| b : Nat) : Int) := by
  show IntKind.u32.wrap ((BitVec.ofInt 32 (a : Int) ||| BitVec.ofInt 32 (b : Int)).toNat : Int) = _
  rw [BitVec.toNat_or, ofInt_nat (by omega), ofInt_nat (by omega), IntWalk.u32_in]
  have := Nat.or_lt_two_pow (n := 32) (x := a) (y := b) (by omega) (by omega)
  omega
theorem xor_u32 (a b : Nat) (ha : a < 4294967296) (hb : b < 4294967296) : bits .xor .u32 (a : Int) (b : Int) = ((a ^^^ b : Nat) : Int) := by
  show IntKind.u32.wrap ((BitVec.ofInt 32 (a : Int) ^^^ BitVec.ofInt 32 (b : Int)).toNat : Int) = _
  rw [BitVec.toNat_xor, ofInt_nat (by omega), ofInt_nat (by omega), IntWalk.u32_in]
  have := Nat.xor_lt_two_pow (n := 32) (x := a) (y := b) (by omega) (by omega)
  omega

theorem and_i64 (a b : Nat) (ha : a < 9223372036854775808) (hb : b < 9223372036854775808) : bits .and .i64 (a : Int) (b : Int) = ((a &&& b : Nat) : Int) := by
  show IntKind.i64.wrap ((BitVec.ofInt 64 (a : Int) &&& BitVec.ofInt 64 (b : Int)).toNat : Int) = _
  rw [BitVec.toNat_and, ofInt_nat (by omega), ofInt_nat (by omega), IntWalk.i64_in]
  have := Nat.and_le_left (n := a) (m := b)
  omega
theorem and3_i64 (a : Nat) (ha : a < 9223372036854775808) : bits .and .i64 (a : Int) 3 = ((a % 4 : Nat) : Int) := by
  have h := and_i64 a 3 ha (by omega)
  rw [show ((3 : Nat) : Int) = 3 from rfl] at h
  rw [h, show (3 : Nat) = 2 ^ 2 - 1 from rfl, Nat.and_two_pow_sub_one_eq_mod]
theorem and1_i64 (a : Nat) (ha : a < 9223372036854775808) : bits .and .i64 (a : Int) 1 = ((a % 2 : Nat) : Int) := by
  have h := and_i64 a 1 ha (by omega)
  rw [show ((1 : Nat) : Int) = 1 from rfl] at h
  rw [h, show (1 : Nat) = 2 ^ 1 - 1 from rfl, Nat.and_two_pow_sub_one_eq_mod]
theorem div_pow_i64 (f k : Nat) (hf : f < 4294967296) : RowKit.wrap64 ((f : Int) / 2 ^ k) = ((f / 2 ^ k : Nat) : Int) := by
  have e : ((f : Int) / 2 ^ k) = ((f / 2 ^ k : Nat) : Int) := by rw [Int.natCast_ediv]; norm_cast
  have h2 := Nat.div_le_self f (2 ^ k)
  rw [e]
  generalize f / 2 ^ k = x at *
  exact IntWalk.wrap64_in _ (by omega)

theorem andNot_u32 (a b : Nat) (ha : a < 4294967296) (hb : b < 4294967296) : ∃ g : Nat, bits .andNot .u32 (a : Int) (b : Int) = (g : Int) ∧ g < 4294967296 ∧ ∀ i, g.testBit i = (a.testBit i && !b.testBit i) := by
  refine ⟨(BitVec.ofInt 32 (a : Int) &&& ~~~BitVec.ofInt 32 (b : Int)).toNat, ?_, (BitVec.ofInt 32 (a : Int) &&& ~~~BitVec.ofInt 32 (b : Int)).isLt, fun i => ?_⟩
  · show IntKind.u32.wrap ((BitVec.ofInt 32 (a : Int) &&& ~~~BitVec.ofInt 32 (b : Int)).toNat : Int) = _
    rw [IntWalk.u32_in]
    have := (BitVec.ofInt 32 (a : Int) &&& ~~~BitVec.ofInt 32 (b : Int)).isLt
    omega
  · rw [BitVec.testBit_toNat, BitVec.getLsbD_and, BitVec.getLsbD_not, ← BitVec.testBit_toNat, ← BitVec.testBit_toNat, ofInt_nat (by omega), ofInt_nat (by omega)]
    by_cases h : i < 32
    · simp [h]
    · have p : (2 : Nat) ^ 32 ≤ 2 ^ i := Nat.pow_le_pow_right (by omega) (by omega)
      simp [h, Nat.testBit_lt_two_pow (Nat.lt_of_lt_of_le (show a < 2 ^ 32 from ha) p)]

/-- With a bit set, or cleared. -/
def setB (f n : Nat) (v : Bool) : Nat := if v then f ||| 1 <<< n else f ^^^ (f &&& 1 <<< n)
theorem testBit_one_shl (n i : Nat) : (1 <<< n).testBit i = decide (i = n) := by
  rw [Nat.one_shiftLeft, Nat.testBit_two_pow]
  by_cases h : n = i <;> simp [h, eq_comm]
theorem setB_bit (f n : Nat) (v : Bool) (i : Nat) : (setB f n v).testBit i = if i = n then v else f.testBit i := by
  unfold setB
  cases v
  · simp only [Bool.false_eq_true, if_false, Nat.testBit_xor, Nat.testBit_and, testBit_one_shl]
    by_cases h : i = n <;> simp [h]
  · simp only [if_true, Nat.testBit_or, testBit_one_shl]
    by_cases h : i = n <;> simp [h]
theorem lt_of_bits {g : Nat} (h : ∀ i, 32 ≤ i → g.testBit i = false) : g < 4294967296 := by
  rcases Nat.lt_or_ge g (2 ^ 32) with h1 | h1
  · exact h1
  · obtain ⟨i, hi, hb⟩ := Nat.exists_ge_and_testBit_of_ge_two_pow h1
    rw [h i hi] at hb
    cases hb
theorem high_bit {f : Nat} (h : f < 4294967296) {i : Nat} (hi : 32 ≤ i) : f.testBit i = false :=
  Nat.testBit_lt_two_pow (Nat.lt_of_lt_of_le (show f < 2 ^ 32 from h) (Nat.pow_le_pow_right (by omega) hi))
theorem setB_lt {f n : Nat} (v : Bool) (hf : f < 4294967296) (hn : n < 32) : setB f n v < 4294967296 :=
  lt_of_bits fun i hi => by rw [setB_bit, if_neg (by omega), high_bit hf hi]

/-- By fours. -/
theorem andNot3_i64 (a : Int) (h : -9223372036854775808 ≤ a ∧ a ≤ 9223372036854775807) : bits .andNot .i64 a 3 = a / 4 * 4 := by
  show IntKind.i64.wrap ((BitVec.ofInt 64 a &&& ~~~BitVec.ofInt 64 3).toNat : Int) = _
  have hx : (BitVec.ofInt 64 a &&& ~~~BitVec.ofInt 64 3).toNat = (BitVec.ofInt 64 a).toNat / 4 * 4 := by
    generalize BitVec.ofInt 64 a = x
    have e : x.toNat / 4 * 4 = (x.toNat >>> 2) <<< 2 := by rw [Nat.shiftRight_eq_div_pow, Nat.shiftLeft_eq]
    rw [e]
    refine Nat.eq_of_testBit_eq fun i => ?_
    rw [BitVec.testBit_toNat, BitVec.getLsbD_and, BitVec.getLsbD_not, Nat.testBit_shiftLeft, Nat.testBit_shiftRight, BitVec.testBit_toNat]
    have h3 : (BitVec.ofInt 64 3).getLsbD i = decide (i < 2) := by
      rw [← BitVec.testBit_toNat, show (BitVec.ofInt 64 3).toNat = 2 ^ 2 - 1 from rfl, Nat.testBit_two_pow_sub_one]
    rw [h3]
    by_cases h2 : i < 2
    · simp [h2]; intro _; omega
    · have e2 : 2 + (i - 2) = i := by omega
      rw [e2]
      by_cases h64 : i < 64
      · simp [h2, h64]; omega
      · have : x.getLsbD i = false := BitVec.getLsbD_of_ge x i (by omega)
        simp [this]
  rw [hx]
  have hn : ((BitVec.ofInt 64 a).toNat : Int) = a % 18446744073709551616 := by
    rw [BitVec.toNat_ofInt]
    have := Int.emod_nonneg a (show (18446744073709551616 : Int) ≠ 0 by decide)
    rw [show ((2 ^ 64 : Nat) : Int) = 18446744073709551616 from rfl]
    omega
  rw [show (((BitVec.ofInt 64 a).toNat / 4 * 4 : Nat) : Int) = ((BitVec.ofInt 64 a).toNat : Int) / 4 * 4 by omega, hn, IntKind.wrap_i64]
  omega

end Go.Proofs.Ytehmbhdapgkbcaa
