/- The document's sets: Of: the walk; the document's Half and Inside. -/
import Derived.Test.YtehmbhdapgkbcaaRefPut
namespace Go.Proofs.Ytehmbhdapgkbcaa
open Go.RowKit

set_option maxHeartbeats 8000000 in
set_option maxRecDepth 100000 in
theorem of_ref {l : List Cl} {v : Value} {w : World} (h : RefRow w v l) (hl : l.length < 100000) :
    Calls Try.prog 35 #[v] w (RowPost (ofL l) w) := by
  obtain ⟨va, vcap, rfl, _⟩ := h.slice
  have hform : 0 < l.length → ∃ g, va = some ⟨g, 0, none⟩ ∧ g < w.heap.size := fun hp => by
    obtain ⟨g, cap, he, _, _, hg⟩ := h.form hp
    cases he
    exact ⟨g, rfl, hg⟩
  have H := Lib.hid h
  have Hform := Lib.hid hform
  clear h hform
  have hmade := made_row w
  go_enter Try.func35, Try.ntmps35
  go_wp2_with fail
  have hBs : Below w.heap.size w (w.alloc (.cells #[] 32)) := (Below.refl _ _).alloc (Nat.le_refl _) _
  go_loopg [3, 9] l.length (fun m s3 s9 wr => ∃ k : Nat, m = l.length - k ∧ k ≤ l.length ∧ s9 = .int .i64 k ∧ RefRow wr s3 (ofL (l.take k)) ∧ (∀ j, s3.ownBlock = some j → w.heap.size ≤ j) ∧ Below w.heap.size w wr)
  case atStart => exact ⟨0, by omega, by omega, rfl, hmade, (fun j hj => by cases hj; exact Nat.le_refl _), hBs⟩
  case round =>
    clear hmade hBs
    obtain ⟨k, hm, hk, rfl, hrow, hnw, hB⟩ := hrel
    have hz := hB.size
    by_cases hkn : k = l.length
    · have hge : ¬ ((k : Int) < (l.length : Int)) := by omega
      have Hkn := Lib.hid hkn
      clear hkn hm
      go_wp2
      go_ret
      rw [Hkn.out, List.take_length] at hrow
      exact ⟨_, rfl, hrow, hB, hnw⟩
    · have hlt : (k : Int) < (l.length : Int) := by omega
      obtain ⟨g, rfl, hg⟩ := Hform.out (by omega)
      have hr : RefRow wr (.slice (some ⟨g, 0, none⟩) l.length vcap) l := H.out.move (S := Only) (.of_new hB) fun _ _ h => h
      obtain ⟨a0, a1, a2⟩ := row3 hr (i := k) (by omega)
      have htk : l.take (k + 1) = l.take k ++ [l[k]] := List.take_succ_eq_append_getElem (by omega)
      generalize l[k] = x at a0 a1 a2 htk
      have hll := ofL_le (l.take k)
      have htl := List.length_take_le k l
      have e : ofL (l.take (k + 1)) = putIn x false (ofL (l.take k)) := by rw [htk, ofL_snoc]
      have hput := put_set (hrow.alloc (.cells #[.int .i64 x.a, .int .i64 x.b, .int .i64 x.h] 32)) (by omega) x
      have He := Lib.hid e
      clear e htk hr
      obtain ⟨xa, xb, xh⟩ := x
      dsimp only at a0 a1 a2 hput
      go_wp2_with fail
      refine hput.mono ?_
      rintro e w2 ⟨v2, rfl, hrow2, hB2, hnew2⟩
      have hB3 : Below w.heap.size w w2 := (hB.alloc (by omega) (.cells #[.int .i64 xa, .int .i64 xb, .int .i64 xh] 32)).trans (hB2.mono (by simp; omega))
      have hn3 : ∀ j, v2.ownBlock = some j → w.heap.size ≤ j := fun j hj => by have := hnew2 j hj; simp at this; omega
      clear hput
      go_wp2
      go_roundg (l.length - (k + 1))
      case measure => omega
      case rel => exact ⟨k + 1, rfl, by omega, by go_num, by rw [He.out]; exact hrow2, hn3, hB3⟩

/-- 2 to the n-1, n at least 1 and at most 44. -/
theorem half_ref (L : Nat) (h1 : 1 ≤ L) (h2 : L ≤ 44) (w : World) :
    Calls Try.prog 40 #[.int .i64 L] w fun e w' => e = .returned (.int .i64 (half L)) ∧ w = w' := by
  have hone : half 1 = 1 := rfl
  go_enter Try.func40, Try.ntmps40
  go_wp2_with fail
  go_loopg [3, 4] (L - 1) (fun m s3 s4 wr => wr = w ∧ ∃ k : Nat, m = L - k ∧ 1 ≤ k ∧ k ≤ L ∧ s4 = .int .i64 k ∧ s3 = .int .i64 (half k))
  case atStart => exact ⟨rfl, 1, by omega, by omega, by omega, rfl, by rw [hone]⟩
  case round =>
    obtain ⟨rfl, k, hm, h3, h4, rfl, rfl⟩ := hrel
    have hb := half_bounds (L := k) (by omega)
    have hmore := half_more (L := k) h3
    by_cases hk : k = L
    · subst hk
      have hge : ¬ ((k : Int) < (k : Int)) := by omega
      clear hm hmore
      go_wp2
      go_ret
      exact ⟨rfl, rfl⟩
    · have hlt : (k : Int) < (L : Int) := by omega
      have hlt2 : (k : Int) < 44 := by omega
      have hb2 := half_bounds (L := k + 1) (by omega)
      rw [hmore] at hb2
      generalize half k = H at *
      have hw : IntKind.i64.wrap (2 * H) = 2 * H := IntWalk.i64_in _ (by omega)
      have hw2 : RowKit.wrap64 (2 * H) = 2 * H := by rw [RowKit.wrap64]; omega
      have Hm := Lib.hid hmore
      clear hmore
      go_wp2
      go_roundg (L - (k + 1))
      case measure => omega
      case rel => exact ⟨rfl, k + 1, rfl, by omega, by omega, by go_num, by rw [Hm.out]⟩

/-- What Inside says: the truth, but for points far below. -/
def InsPost (L : Nat) (a b : Int) (w : World) (e : Ending) (w' : World) : Prop :=
  (∃ r : Bool, e = .returned (.bool r) ∧ (inside L a b = (r && !decide (a < -1125899906842624) && !decide (b < -1125899906842624))) ∧ (inside L a b = true → r = true)) ∧ w = w'
theorem InsPost.no {L : Nat} {a b : Int} {w : World} (h : inside L a b = false) : InsPost L a b w (.returned (.bool false)) w := ⟨⟨false, rfl, by simp [h], by simp [h]⟩, rfl⟩

set_option maxHeartbeats 2000000 in
/-- Is a point not inside, or far below: just the points that lie outside. -/
theorem inside_ref (L : Nat) (h1 : 1 ≤ L) (h2 : L ≤ 44) (a b : Int) (ha : I64 a) (hb : I64 b) (w : World) :
    Calls Try.prog 14 #[.int .i64 L, .int .i64 a, .int .i64 b] w (InsPost L a b w) := by
  have hbd := half_bounds h2
  have hhalf := half_ref L h1 h2
  have hin : inside L a b = (decide (-half L ≤ a) && decide (a < half L) && decide (-half L ≤ b) && decide (b < half L)) := rfl
  unfold I64 at ha hb
  generalize half L = H at *
  by_cases c1 : a < H
  · by_cases c2 : b < H
    · by_cases c3 : RowKit.wrap64 (-a) ≤ H
      · have hwb : RowKit.wrap64 (-b) = if b = -9223372036854775808 then b else -b := by rw [RowKit.wrap64]; split <;> omega
        have hwa : RowKit.wrap64 (-a) = if a = -9223372036854775808 then a else -a := by rw [RowKit.wrap64]; split <;> omega
        have hfin : inside L a b = (decide (RowKit.wrap64 (-b) ≤ H) && !decide (a < -1125899906842624) && !decide (b < -1125899906842624)) ∧ (inside L a b = true → decide (RowKit.wrap64 (-b) ≤ H) = true) := by
          rw [hwa] at c3
          rw [hin, hwb]
          constructor
          · rw [Bool.eq_iff_iff]; simp only [Bool.and_eq_true, decide_eq_true_eq, Bool.not_eq_true', decide_eq_false_iff_not]
            split at c3 <;> split <;> omega
          · simp only [Bool.and_eq_true, decide_eq_true_eq]
            split <;> omega
        have Hfin := Lib.hid hfin
        clear hfin hin hwa hwb
        go_enter Try.func14, Try.ntmps14
        go_wp2_with fail
        refine (hhalf _).mono ?_
        rintro e w2 ⟨rfl, rfl⟩
        go_wp2
        go_ret
        exact ⟨⟨_, rfl, Hfin.out⟩, rfl⟩
      · have hwa : RowKit.wrap64 (-a) = if a = -9223372036854775808 then a else -a := by rw [RowKit.wrap64]; split <;> omega
        have hfin : inside L a b = false := by
          rw [hwa] at c3
          rw [hin, Bool.eq_false_iff]; simp only [ne_eq, Bool.and_eq_true, decide_eq_true_eq]
          split at c3 <;> omega
        have Hf := Lib.hid hfin
        clear hin hwa hfin
        go_enter Try.func14, Try.ntmps14
        go_wp2_with fail
        refine (hhalf _).mono ?_
        rintro e w2 ⟨rfl, rfl⟩
        go_wp2
        go_ret
        exact .no Hf.out
    · have hfin : inside L a b = false := by rw [hin]; simp [c2]
      have Hf := Lib.hid hfin
      clear hin hfin
      go_enter Try.func14, Try.ntmps14
      go_wp2_with fail
      refine (hhalf _).mono ?_
      rintro e w2 ⟨rfl, rfl⟩
      go_wp2
      go_ret
      exact .no Hf.out
  · have hfin : inside L a b = false := by rw [hin]; simp [c1]
    have Hf := Lib.hid hfin
    clear hin hfin
    go_enter Try.func14, Try.ntmps14
    go_wp2_with fail
    refine (hhalf _).mono ?_
    rintro e w2 ⟨rfl, rfl⟩
    go_wp2
    go_ret
    exact .no Hf.out

end Go.Proofs.Ytehmbhdapgkbcaa
