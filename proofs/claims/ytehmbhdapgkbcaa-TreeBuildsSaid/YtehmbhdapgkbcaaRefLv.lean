/- The document's Level and Has: walks. -/
import Derived.Test.YtehmbhdapgkbcaaRefOf
import Derived.Test.YtehmbhdapgkbcaaBuildA
namespace Go.Proofs.Ytehmbhdapgkbcaa
open Go.RowKit

theorem half_le {L M : Nat} (h : L ≤ M) : half L ≤ half M := by
  have e : (2 : Nat) ^ (L - 1) ≤ 2 ^ (M - 1) := Nat.pow_le_pow_right (by omega) (by omega)
  have e1 : half L = ((2 ^ (L - 1) : Nat) : Int) := by unfold half; norm_cast
  have e2 : half M = ((2 ^ (M - 1) : Nat) : Int) := by unfold half; norm_cast
  rw [e1, e2]
  exact_mod_cast e
theorem inside_mono {L M : Nat} (h : L ≤ M) {a b : Int} (hi : inside L a b = true) : inside M a b = true := by
  have := half_le h
  rw [inside_iff] at hi ⊢
  omega

theorem LvOf.nil : LvOf [] 3 := ⟨by omega, by omega, fun c hc => by simp at hc, fun M h1 h2 => by omega⟩
theorem LvOf.snoc {l : List Cl} {n m : Nat} {c : Cl} (h : LvOf l n) (h1 : n ≤ m) (h2 : m ≤ 44) (hc : inside m c.a c.b = true) (hl : ∀ M, n ≤ M → M < m → inside M c.a c.b = false) : LvOf (l ++ [c]) m := by
  refine ⟨by have := h.lo; omega, h2, fun d hd => ?_, fun M h3 h4 h5 => ?_⟩
  · rcases List.mem_append.1 hd with hd | hd
    · exact inside_mono h1 (h.all d hd)
    · rw [List.mem_singleton] at hd; subst hd; exact hc
  · by_cases q : M < n
    · exact h.least M h3 q fun d hd => h5 d (by simp [hd])
    · have e1 := hl M (by omega) h4
      have e2 := h5 c (by simp)
      rw [e1] at e2
      cases e2

set_option maxHeartbeats 8000000 in
set_option maxRecDepth 100000 in
theorem level_ref {l : List Cl} {v : Value} {w : World} (h : RefRow w v l) (hs : SetOk l) :
    Calls Try.prog 23 #[v] w fun e w' => ∃ L : Nat, e = .returned (.int .i64 L) ∧ LvOf l L ∧ Below w.heap.size w w' := by
  have hlen := hs.len
  obtain ⟨va, vcap, rfl, _⟩ := h.slice
  have hform : 0 < l.length → ∃ g, va = some ⟨g, 0, none⟩ ∧ g < w.heap.size := fun hp => by
    obtain ⟨g, cap, he, _, _, hg⟩ := h.form hp
    cases he
    exact ⟨g, rfl, hg⟩
  have H := Lib.hid h
  have Hs := Lib.hid hs
  have Hform := Lib.hid hform
  clear h hform hs
  go_enter Try.func23, Try.ntmps23
  go_wp2_with fail
  go_loopg [3, 8] l.length (fun m s3 s8 wr => ∃ k n : Nat, m = l.length - k ∧ k ≤ l.length ∧ s8 = .int .i64 k ∧ s3 = .int .i64 n ∧ LvOf (l.take k) n ∧ Below w.heap.size w wr)
  case atStart => exact ⟨0, 3, by omega, by omega, rfl, rfl, LvOf.nil, Below.refl _ _⟩
  case round =>
    obtain ⟨k, n, hm, hk, rfl, rfl, hlv, hB⟩ := hrel
    have hz := hB.size
    by_cases hkn : k = l.length
    · have hge : ¬ ((k : Int) < (l.length : Int)) := by omega
      have Hkn := Lib.hid hkn
      clear hkn hm
      go_wp2
      go_ret
      rw [Hkn.out, List.take_length] at hlv
      exact ⟨n, rfl, hlv, hB⟩
    · have hlt : (k : Int) < (l.length : Int) := by omega
      obtain ⟨g, rfl, hg⟩ := Hform.out (by omega)
      have hr : RefRow wr (.slice (some ⟨g, 0, none⟩) l.length vcap) l := H.out.move (S := Only) (.of_new hB) fun _ _ h => h
      obtain ⟨a0, a1, a2⟩ := row3 hr (i := k) (by omega)
      have htk : l.take (k + 1) = l.take k ++ [l[k]] := List.take_succ_eq_append_getElem (by omega)
      have hin := Hs.out.all l[k] (List.getElem_mem _)
      generalize l[k] = x at a0 a1 a2 htk hin
      have hlo := hlv.lo
      have hhi := hlv.hi
      have hsnoc := fun m h1 h2 h3 h4 => hlv.snoc (c := x) (m := m) h1 h2 h3 h4
      rw [← htk] at hsnoc
      have Hsnoc := Lib.hid hsnoc
      clear htk hr hsnoc
      obtain ⟨xa, xb, xh⟩ := x
      dsimp only at *
      have hB2 : Below w.heap.size w (wr.alloc (.cells #[.int .i64 xa, .int .i64 xb, .int .i64 xh] 32)) := hB.alloc hz _
      have hfar : -8796093022208 ≤ xa ∧ xa < 8796093022208 ∧ -8796093022208 ≤ xb ∧ xb < 8796093022208 := by
        rw [inside_iff, show half 44 = 8796093022208 from rfl] at hin
        omega
      have hq1 : (!decide (xa < -1125899906842624)) = true := by simp; omega
      have hq2 : (!decide (xb < -1125899906842624)) = true := by simp; omega
      have d0 : (wr.alloc (.cells #[.int .i64 xa, .int .i64 xb, .int .i64 xh] 32)).cell? ⟨wr.heap.size, 0, none⟩ = some (.int .i64 xa) := World.cell?_alloc_new _ _ _ _
      have d1 : (wr.alloc (.cells #[.int .i64 xa, .int .i64 xb, .int .i64 xh] 32)).cell? ⟨wr.heap.size, 1, none⟩ = some (.int .i64 xb) := World.cell?_alloc_new _ _ _ _
      go_wp2_with fail
      generalize (wr.alloc (.cells #[.int .i64 xa, .int .i64 xb, .int .i64 xh] 32)) = wx at *
      go_loopg [3] (44 - n) (fun mm s3 wr2 => ∃ M : Nat, mm = 44 - M ∧ n ≤ M ∧ M ≤ 44 ∧ s3 = .int .i64 M ∧ wr2 = wx ∧ ∀ M', n ≤ M' → M' < M → inside M' xa xb = false)
      case atStart => exact ⟨n, by omega, Nat.le_refl _, hhi, rfl, rfl, fun M' h1 h2 => by omega⟩
      case round =>
        obtain ⟨M, hmm, h1, h2, rfl, rfl, h3⟩ := hrel
        by_cases hM : M = 44
        · have hge : ¬ ((M : Int) < 44) := by omega
          have hfin := Hsnoc.out M h1 h2 (by rw [hM]; exact hin) h3
          clear h3 hM hq1 hq2
          go_wp2_with fail
          go_roundg (l.length - (k + 1))
          case measure => omega
          case rel => exact ⟨k + 1, M, rfl, by omega, by go_num, rfl, hfin, hB2⟩
        · have hlt2 : (M : Int) < 44 := by omega
          have hins := inside_ref M (by omega) (by omega) xa xb (by unfold I64; omega) (by unfold I64; omega)
          cases hi : inside M xa xb
          · have hnext : ∀ M', n ≤ M' → M' < M + 1 → inside M' xa xb = false := fun M' h4 h5 => by
              by_cases e : M' = M
              · rw [e]; exact hi
              · exact h3 M' h4 (by omega)
            have Hnext := Lib.hid hnext
            clear hnext h3
            go_wp2_with fail
            refine (hins _).mono ?_
            rintro e w' ⟨⟨r, rfl, hr1, -⟩, rfl⟩
            rw [hi, hq1, hq2, Bool.and_true, Bool.and_true] at hr1
            subst hr1
            clear hins hi hq1 hq2
            go_wp2_with fail
            go_roundg (44 - (M + 1))
            case measure => omega
            case rel => exact ⟨M + 1, by omega, by omega, by omega, by go_num, rfl, Hnext.out⟩
          · have hfin := Hsnoc.out M h1 h2 hi h3
            clear h3
            go_wp2_with fail
            refine (hins _).mono ?_
            rintro e w' ⟨⟨r, rfl, hr1, -⟩, rfl⟩
            rw [hi, hq1, hq2, Bool.and_true, Bool.and_true] at hr1
            subst hr1
            clear hins hi hq1 hq2
            go_wp2_with fail
            go_roundg (l.length - (k + 1))
            case measure => omega
            case rel => exact ⟨k + 1, M, rfl, by omega, by go_num, rfl, hfin, hB2⟩

set_option maxHeartbeats 4000000 in
set_option maxRecDepth 100000 in
theorem has_ref {l : List Cl} {v : Value} {w : World} (h : RefRow w v l) (hl : l.length < 100000) (c : Cl) :
    Calls Try.prog 26 #[v, .agg #[.int .i64 c.a, .int .i64 c.b, .int .i64 c.h]] w fun e w' => e = .returned (.bool (decide (c ∈ l))) ∧ Below w.heap.size w w' := by
  obtain ⟨va, vcap, rfl, _⟩ := h.slice
  have hform : 0 < l.length → ∃ g, va = some ⟨g, 0, none⟩ ∧ g < w.heap.size := fun hp => by
    obtain ⟨g, cap, he, _, _, hg⟩ := h.form hp
    cases he
    exact ⟨g, rfl, hg⟩
  have H := Lib.hid h
  have Hform := Lib.hid hform
  have Hne := Lib.hid (fun x => eql_rf x c)
  clear h hform
  obtain ⟨ca, cb, ch⟩ := c
  have hBs : Below w.heap.size w (w.alloc (.cells #[.int .i64 ca, .int .i64 cb, .int .i64 ch] 32)) := (Below.refl _ _).alloc (Nat.le_refl _) _
  have hz0 : (w.alloc (.cells #[.int .i64 ca, .int .i64 cb, .int .i64 ch] 32)).heap.size = w.heap.size + 1 := World.size_alloc _ _
  have hBB : Below (w.heap.size + 1) (w.alloc (.cells #[.int .i64 ca, .int .i64 cb, .int .i64 ch] 32)) (w.alloc (.cells #[.int .i64 ca, .int .i64 cb, .int .i64 ch] 32)) := Below.refl _ _
  have q0 : (w.alloc (.cells #[.int .i64 ca, .int .i64 cb, .int .i64 ch] 32)).cell? ⟨w.heap.size, 0, none⟩ = some (.int .i64 ca) := World.cell?_alloc_new _ _ _ _
  have q1 : (w.alloc (.cells #[.int .i64 ca, .int .i64 cb, .int .i64 ch] 32)).cell? ⟨w.heap.size, 1, none⟩ = some (.int .i64 cb) := World.cell?_alloc_new _ _ _ _
  have q2 : (w.alloc (.cells #[.int .i64 ca, .int .i64 cb, .int .i64 ch] 32)).cell? ⟨w.heap.size, 2, none⟩ = some (.int .i64 ch) := World.cell?_alloc_new _ _ _ _
  go_enter Try.func26, Try.ntmps26
  go_wp2_with fail
  generalize (w.alloc (.cells #[.int .i64 ca, .int .i64 cb, .int .i64 ch] 32)) = W0 at *
  go_loopg [9] l.length (fun m s9 wr => ∃ k : Nat, m = l.length - k ∧ k ≤ l.length ∧ s9 = .int .i64 k ∧ (⟨ca, cb, ch⟩ : Cl) ∉ l.take k ∧ Below W0.heap.size W0 wr)
  case atStart => exact ⟨0, by omega, by omega, rfl, by simp, Below.refl _ _⟩
  case round =>
    obtain ⟨k, hm, hk, rfl, hnot, hB⟩ := hrel
    have hBw : Below w.heap.size w wr := hBs.trans (hB.mono (by omega))
    have hz := hB.size
    by_cases hkn : k = l.length
    · have hge : ¬ ((k : Int) < (l.length : Int)) := by omega
      rw [hkn, List.take_length] at hnot
      have hd : decide ((⟨ca, cb, ch⟩ : Cl) ∈ l) = false := decide_eq_false hnot
      have Hd := Lib.hid hd
      clear hkn hm hd hnot
      go_wp2
      go_ret
      exact ⟨by rw [Hd.out]; rfl, hBw⟩
    · have hlt : (k : Int) < (l.length : Int) := by omega
      obtain ⟨g, rfl, hg⟩ := Hform.out (by omega)
      have hr : RefRow wr (.slice (some ⟨g, 0, none⟩) l.length vcap) l := H.out.move (S := Only) (.of_new hBw) fun _ _ h => h
      obtain ⟨a0, a1, a2⟩ := row3 hr (i := k) (by omega)
      have htk : l.take (k + 1) = l.take k ++ [l[k]] := List.take_succ_eq_append_getElem (by omega)
      have hmem : l[k] ∈ l := List.getElem_mem _
      generalize l[k] = x at a0 a1 a2 htk hmem
      have e0 : ∀ o, (wr.alloc o).cell? ⟨w.heap.size, 0, none⟩ = some (.int .i64 ca) := fun o => (World.cell?_alloc_past _ _ _ (by omega)).trans ((hB.cell (p := ⟨w.heap.size, 0, none⟩) (by show w.heap.size < W0.heap.size; omega)).trans q0)
      have e1 : ∀ o, (wr.alloc o).cell? ⟨w.heap.size, 1, none⟩ = some (.int .i64 cb) := fun o => (World.cell?_alloc_past _ _ _ (by omega)).trans ((hB.cell (p := ⟨w.heap.size, 1, none⟩) (by show w.heap.size < W0.heap.size; omega)).trans q1)
      have e2 : ∀ o, (wr.alloc o).cell? ⟨w.heap.size, 2, none⟩ = some (.int .i64 ch) := fun o => (World.cell?_alloc_past _ _ _ (by omega)).trans ((hB.cell (p := ⟨w.heap.size, 2, none⟩) (by show w.heap.size < W0.heap.size; omega)).trans q2)
      have heq := Hne.out x
      by_cases hx : x = ⟨ca, cb, ch⟩
      · rw [decide_eq_true hx] at heq
        have hd : decide ((⟨ca, cb, ch⟩ : Cl) ∈ l) = true := decide_eq_true (hx ▸ hmem)
        have Hd := Lib.hid hd
        clear hd htk hmem hnot hr q0 q1 q2 hx
        obtain ⟨xa, xb, xh⟩ := x
        dsimp only at a0 a1 a2 heq
        go_wp2
        go_ret
        exact ⟨by rw [Hd.out]; rfl, hBw.alloc (by omega) _⟩
      · rw [decide_eq_false hx] at heq
        have hno : (⟨ca, cb, ch⟩ : Cl) ∉ l.take (k + 1) := by
          rw [htk, List.mem_append, List.mem_singleton]
          rintro (h | h)
          · exact hnot h
          · exact hx h.symm
        have Hno := Lib.hid hno
        clear hno htk hmem hnot hr q0 q1 q2 hx
        obtain ⟨xa, xb, xh⟩ := x
        dsimp only at a0 a1 a2 heq
        go_wp2
        go_roundg (l.length - (k + 1))
        case measure => omega
        case rel => exact ⟨k + 1, rfl, by omega, by go_num, Hno.out, hB.alloc (by omega) _⟩

end Go.Proofs.Ytehmbhdapgkbcaa
