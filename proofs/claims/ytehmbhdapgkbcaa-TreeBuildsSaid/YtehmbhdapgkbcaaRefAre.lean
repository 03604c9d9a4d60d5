/- The laws' own: Are (equal lists), Own of a set: walks. -/
import Derived.Test.YtehmbhdapgkbcaaRefOf
import Derived.Test.YtehmbhdapgkbcaaCells
namespace Go.Proofs.Ytehmbhdapgkbcaa
open Go.RowKit

set_option maxHeartbeats 4000000 in
set_option maxRecDepth 100000 in
theorem are_same {l : List Cl} {v1 v2 : Value} {w : World} (h1 : CellRow w v1 l) (h2 : RefRow w v2 l) (hl : l.length < 100000) :
    Calls Try.prog 18 #[v1, v2] w fun e w' => e = .returned (.int .i64 0) ∧ Below w.heap.size w w' := by
  obtain ⟨va1, vcap1, rfl, _⟩ := h1.slice
  obtain ⟨va2, vcap2, rfl, _⟩ := h2.slice
  have hf1 : 0 < l.length → ∃ g, va1 = some ⟨g, 0, none⟩ ∧ g < w.heap.size := fun hp => by
    obtain ⟨g, cap, he, _, _, hg⟩ := h1.form hp
    cases he
    exact ⟨g, rfl, hg⟩
  have hf2 : 0 < l.length → ∃ g, va2 = some ⟨g, 0, none⟩ ∧ g < w.heap.size := fun hp => by
    obtain ⟨g, cap, he, _, _, hg⟩ := h2.form hp
    cases he
    exact ⟨g, rfl, hg⟩
  have H1 := Lib.hid h1
  have H2 := Lib.hid h2
  have F1 := Lib.hid hf1
  have F2 := Lib.hid hf2
  have Hll := Lib.hid hl
  clear h1 h2 hf1 hf2
  have hq : ((l.length : Int) != (l.length : Int)) = false := by simp
  go_enter Try.func18, Try.ntmps18
  go_wp2_with fail
  go_loopg [5, 13] l.length (fun m s5 s13 wr => ∃ k : Nat, m = l.length - k ∧ k ≤ l.length ∧ s13 = .int .i64 k ∧ Below w.heap.size w wr)
  case atStart => exact ⟨0, by omega, by omega, rfl, Below.refl _ _⟩
  case round =>
    obtain ⟨k, hm, hk, rfl, hB⟩ := hrel
    by_cases hkn : k = l.length
    · have hge : ¬ ((k : Int) < (l.length : Int)) := by omega
      clear hkn hm hk
      go_wp2
      go_ret
      exact ⟨rfl, hB⟩
    · have hlt : (k : Int) < (l.length : Int) := by omega
      have hk0 : (0 : Int) ≤ (k : Int) := by omega
      obtain ⟨g1, rfl, hg1⟩ := F1.out (by omega)
      obtain ⟨g2, rfl, hg2⟩ := F2.out (by omega)
      have hr1 : CellRow wr (.slice (some ⟨g1, 0, none⟩) l.length vcap1) l := H1.out.move (S := Only) (.of_new hB) fun _ _ h => h
      have hr2 : RefRow wr (.slice (some ⟨g2, 0, none⟩) l.length vcap2) l := H2.out.move (S := Only) (.of_new hB) fun _ _ h => h
      obtain ⟨a0, a1, a2⟩ := hr1.at (i := k) (by omega)
      obtain ⟨b0, b1, b2⟩ := row3 hr2 (i := k) (by omega)
      have hz := hB.size
      clear hr1 hr2
      generalize l[k] = x at a0 a1 a2 b0 b1 b2
      have htold := told_any x
      have hne := neq_rf x x
      have hdx : decide (x = x) = true := by simp
      rw [hdx] at hne
      clear hdx
      obtain ⟨xa, xb, xh⟩ := x
      dsimp only at *
      go_wp2_with fail
      refine wp_region_planN 9 (fun w' => (w'.cell? ⟨g1, k * 3, none⟩ = some (.int .i64 xa) ∧ w'.cell? ⟨g1, k * 3 + 1, none⟩ = some (.int .i64 xb) ∧ w'.cell? ⟨g1, k * 3 + 2, none⟩ = some (.int .i64 xh)) ∧ w'.cell? ⟨g2, k * 3, none⟩ = some (.int .i64 xa) ∧ w'.cell? ⟨g2, k * 3 + 1, none⟩ = some (.int .i64 xb) ∧ w'.cell? ⟨g2, k * 3 + 2, none⟩ = some (.int .i64 xh))
        [4, 9] [] [0, 1, 2, 3, 5, 6, 7, 8, 4, 9] (by kernel_rfl) (by kernel_rfl) (fun _ _ d _ _ h => by cases d <;> exact h) ⟨⟨a0, a1, a2⟩, b0, b1, b2⟩ ?_
      repeat ((first | (refine' wpPlan_q rfl rfl rfl ?_ ?_; rotate_left; (focus (intro _ hSw; (try dsimp only at hSw); go_simp; (try with_reducible rfl); done))) | (refine' wpPlan_p rfl rfl rfl ?_ ?_; rotate_left; (focus (intro _; go_simp; (try with_reducible rfl); done)))); (try simp only [Act.put, List.setIfInBounds_toArray, List.set_cons_zero, List.set_cons_succ]))
      refine wpPlan_x rfl rfl (fun K hK => ?_)
      go_simp
      refine (htold _).mono ?_
      rintro e w2 ⟨rfl, hB2⟩
      have hz2 := hB2.size
      have keep : ∀ p : Addr, p.block < w.heap.size → ∀ v, wr.cell? p = some v → w2.cell? p = some v := fun p hp v hv => (hB2.cell (p := p) (show p.block < wr.heap.size by omega)).trans hv
      refine hK _ _ (fun _ => ⟨⟨keep _ hg1 _ a0, keep _ hg1 _ a1, keep _ hg1 _ a2⟩, keep _ hg2 _ b0, keep _ hg2 _ b1, keep _ hg2 _ b2⟩) ?_
      clear hK K
      (try simp only [Act.put, List.setIfInBounds_toArray, List.set_cons_zero, List.set_cons_succ])
      have hB3 : Below w.heap.size w w2 := hB.drew.trans (hB2.mono hz)
      clear a0 a1 a2 b0 b1 b2 keep
      refine wpPlan_x rfl rfl (fun K hK => ?_)
      go_simp
      refine hK _ _ (fun h => absurd h (by decide)) (wpPlan_nil ?_)
      clear hK K
      (try simp only [Act.put, List.setIfInBounds_toArray, List.set_cons_zero, List.set_cons_succ])
      go_wp2
      go_roundg (l.length - (k + 1))
      case measure => omega
      case rel => exact ⟨k + 1, rfl, by omega, by go_num, hB3⟩

set_option maxHeartbeats 4000000 in
set_option maxRecDepth 100000 in
theorem owns_any {l : List Cl} {v : Value} {w : World} (h : RefRow w v l) (hl : l.length ≤ 40) :
    Calls Try.prog 29 #[v] w fun e w' => ∃ v', e = .returned v' ∧ CellRow w' v' l ∧ Below w.heap.size w w' ∧ ∀ j, v'.ownBlock = some j → w.heap.size ≤ j := by
  obtain ⟨va, vcap, rfl, _⟩ := h.slice
  have hform : 0 < l.length → ∃ g, va = some ⟨g, 0, none⟩ ∧ g < w.heap.size := fun hp => by
    obtain ⟨g, cap, he, _, _, hg⟩ := h.form hp
    cases he
    exact ⟨g, rfl, hg⟩
  have H := Lib.hid h
  have Hform := Lib.hid hform
  clear h hform
  have hmade : CellRow (w.alloc (.cells #[] 40)) (.slice (some ⟨w.heap.size, 0, none⟩) 0 0) [] :=
    ⟨rfl, .inr ⟨w.heap.size, 0, #[], rfl, Nat.zero_le _, heap_alloc_new _ _, Nat.le_refl _, Nat.zero_le _, rfl, rfl⟩⟩
  have hBs : Below w.heap.size w (w.alloc (.cells #[] 40)) := (Below.refl _ _).alloc (Nat.le_refl _) _
  go_enter Try.func29, Try.ntmps29
  go_wp2_with fail
  go_loopg [3, 4] l.length (fun m s3 s4 wr => ∃ k : Nat, m = l.length - k ∧ k ≤ l.length ∧ s4 = .int .i64 k ∧ CellRow wr s3 (l.take k) ∧ (∀ j, s3.ownBlock = some j → w.heap.size ≤ j) ∧ Below w.heap.size w wr)
  case atStart => exact ⟨0, by omega, by omega, rfl, hmade, (fun j hj => by cases hj; exact Nat.le_refl _), hBs⟩
  case round =>
    clear hmade hBs
    obtain ⟨k, hm, hk, rfl, hrow, hnw, hB⟩ := hrel
    have hz := hB.size
    by_cases hkn : k = l.length
    · have hge : ¬ ((k : Int) < (l.length : Int)) := by omega
      have Hkn := Lib.hid hkn
      clear hkn hm
      go_wp2
      go_ret
      rw [Hkn.out, List.take_length] at hrow
      exact ⟨_, rfl, hrow, hB, hnw⟩
    · have hlt : (k : Int) < (l.length : Int) := by omega
      have hlt2 : (k : Int) < 40 := by omega
      obtain ⟨g, rfl, hg⟩ := Hform.out (by omega)
      have hr : RefRow wr (.slice (some ⟨g, 0, none⟩) l.length vcap) l := H.out.move (S := Only) (.of_new hB) fun _ _ h => h
      obtain ⟨a0, a1, a2⟩ := row3 hr (i := k) (by omega)
      have htk : l.take (k + 1) = l.take k ++ [l[k]] := List.take_succ_eq_append_getElem (by omega)
      generalize l[k] = x at a0 a1 a2 htk
      have htl := List.length_take_le k l
      have hown := own_any x
      have Htk := Lib.hid htk
      clear htk hr
      obtain ⟨xa, xb, xh⟩ := x
      dsimp only at a0 a1 a2 hown
      go_wp2_with fail
      refine (hown _).mono ?_
      rintro e w2 ⟨rfl, hB2⟩
      have hz2 := hB2.size
      have hrow2 : CellRow w2 u3 (l.take k) := hrow.move (S := Only) (.of_new hB2) fun _ _ h => h
      have hB3 : Below w.heap.size w w2 := hB.trans (hB2.mono hz)
      have hblk : (w2.alloc (.cells #[.int .i64 xa, .int .i64 xb, .int .i64 xh] 40)).heap[w2.heap.size]? = some (.cells #[.int .i64 xa, .int .i64 xb, .int .i64 xh] 40 (0, 0)) := heap_alloc_new _ _
      clear hown
      go_wp2_with (refine wpList_push rfl _ _ 45 rfl 40 Try.underlying45 infoCell rfl _ _ rfl (hrow2.alloc _) (by omega) w2.heap.size ⟨xa, xb, xh⟩ 40 rfl hblk ?_; intro v3 w3 hrow3 hT3 hnew3)
      go_roundg (l.length - (k + 1))
      case measure => omega
      case rel =>
        have hB4 := hB3.alloc hB3.size (.cells #[.int .i64 xa, .int .i64 xb, .int .i64 xh] 40)
        refine ⟨k + 1, rfl, by omega, by go_num, by rw [Htk.out]; exact hrow3, fun j hj => ?_, ?_⟩
        · rcases hnew3 j hj with h | h
          · exact hnw j h
          · simp at h; omega
        · exact ⟨hT3.os.trans hB4.os, hT3.tape.trans hB4.tape, hT3.output.trans hB4.output, Nat.le_trans hB4.size hT3.size, fun j hj => (hT3.block j (Nat.lt_of_lt_of_le hj hB4.size) (fun h => by have := hnw j h; omega)).trans (hB4.block j hj)⟩

end Go.Proofs.Ytehmbhdapgkbcaa
