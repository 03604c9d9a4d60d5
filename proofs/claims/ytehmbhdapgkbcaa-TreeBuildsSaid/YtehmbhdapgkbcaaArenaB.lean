/- The arena's functions that make nodes: Leaf, Join, Empty, New; SetMost. -/
import Derived.Test.YtehmbhdapgkbcaaOk
namespace Go.Proofs.Ytehmbhdapgkbcaa
open Go.RowKit

theorem count_any (f : Nat) (hf : f < 4294967296) (w : World) :
    Calls Try.prog 70 #[.int .u32 f] w fun e w' => e = .returned (.int .i64 (pop f)) ∧ w = w' := by
  have hp := pop_le f
  go_enter Try.func70, Try.ntmps70
  go_wp2
  go_loop [0, 3] (fun a n => ∃ g k : Nat, a = .int .u32 g ∧ n = .int .i64 k ∧ g < 4294967296 ∧ k + pop g = pop f) (fun a _ => (intOf a).toNat)
  case atStart => exact ⟨f, 0, rfl, rfl, hf, by omega⟩
  case round =>
    obtain ⟨g, k, rfl, rfl, hg, hk⟩ := hrel
    by_cases h0 : g = 0
    · subst h0
      have hk' : k = pop f := by rw [← hk, pop_zero]; rfl
      clear hk
      go_wp2
      go_ret
      exact ⟨rfl, rfl⟩
    · have hd : ((g : Int) != 0) = true := by simp; omega
      have hs : IntKind.u32.wrap ((g : Int) - 1) = ((g - 1 : Nat) : Int) := by rw [IntWalk.u32_in _ (by omega)]; omega
      have hb : bits .and .u32 (g : Int) ((g - 1 : Nat) : Int) = ((g &&& (g - 1) : Nat) : Int) := and_u32 g (g - 1) hg (by omega)
      have hpa := pop_and g (by omega) hg
      have hle : g &&& (g - 1) ≤ g - 1 := Nat.and_le_right
      have Hk := Lib.hid hk
      have hk9 : k ≤ 32 := by omega
      clear hk
      generalize hx : (g &&& (g - 1)) = x at *
      have Hpa := Lib.hid hpa
      clear hpa hx
      go_wp2
      go_round
      case rel => exact ⟨x, k + 1, by go_num, by go_num, by omega, by have := Hk.out; have := Hpa.out; omega⟩
      case measure => simp [intOf]; omega

theorem FindPost.back {p : Nat} {F : Foot} {A : Ar} {n : Nd} {w wb : World} {e : Ending} {w' : World} (h : FindPost p F A n wb e w') (hb : Below w.heap.size w wb) : FindPost p F A n w e w' := by
  obtain ⟨r, err, F', A', he, hf, hs, hst⟩ := h
  exact ⟨r, err, F', A', he, hf, hs, .from_new hb hst⟩

/-- The errors' last two lines: what find hands on. -/
theorem leaf_any {w : World} {p : Nat} {F : Foot} {A : Ar} (h : ArS w p F A) (hn : A.nodes.length < 2147483647) {f : Nat} (hf : f < 4294967296) :
    Calls Try.prog 57 #[.pointer (some ⟨p, 0, none⟩), .int .u32 f] w (FindPost p F A (leafNd f) w) := by
  have hp := pop_le f
  have hcount := count_any f hf
  have hwr : IntKind.u64.wrap (pop f : Int) = pop f := IntWalk.u64_in _ (by omega)
  have hfind := find_any h hn (k := (2, f, 0, 0, 0, 0)) ⟨by simp, by simpa using hf, by simp, by simp, by simp, by simp⟩ (c := pop f) (by omega)
  have hm : min (pop f) 4611686018427387904 = pop f := by omega
  rw [hm] at hfind
  clear hm
  simp only [keyV] at hfind
  go_enter Try.func57, Try.ntmps57
  go_wp2_with fail
  refine (hcount _).mono ?_
  rintro e w' ⟨rfl, rfl⟩
  go_wp2_with fail
  refine hfind.mono ?_
  rintro e w' ⟨r, err, F', A', rfl, hpost⟩
  go_wp2
  go_ret2
  exact ⟨r, err, F', A', rfl, hpost⟩

/-- The node that joins four. -/
def joinNd (ns : List Nd) (L k0 k1 k2 k3 : Nat) : Nd := ⟨L + 1, 0, k0, k1, k2, k3, min ((ndAt ns k0).cnt + (ndAt ns k1).cnt + (ndAt ns k2).cnt + (ndAt ns k3).cnt) 4611686018427387904⟩

set_option maxHeartbeats 4000000 in
set_option maxRecDepth 100000 in
theorem join_any {w : World} {p : Nat} {F : Foot} {A : Ar} (h : ArS w p F A) (hn : A.nodes.length < 2147483647) {L k0 k1 k2 k3 : Nat} (hL : L < 44)
    (h0 : k0 < A.nodes.length) (h1 : k1 < A.nodes.length) (h2 : k2 < A.nodes.length) (h3 : k3 < A.nodes.length)
    (l0 : (ndAt A.nodes k0).lv = L) (l1 : (ndAt A.nodes k1).lv = L) (l2 : (ndAt A.nodes k2).lv = L) (l3 : (ndAt A.nodes k3).lv = L) :
    Calls Try.prog 62 #[.pointer (some ⟨p, 0, none⟩), kids4 k0 k1 k2 k3] w (FindPost p F A (joinNd A.nodes L k0 k1 k2 k3) w) := by
  unfold joinNd
  obtain ⟨g, cap, hv, _, _, hgl⟩ := h.nodes.form (by omega)
  have hp := h.lt
  have r0 := h.c0
  rw [hv] at r0
  have hl : ∀ k, k < A.nodes.length → (ndAt A.nodes k).lv = L → w.cell? ⟨g, k * 7, none⟩ = some (.int .i64 L) := fun k hk he => by
    have := h.nd hv hk (j := 0) (by omega)
    simp only [Nat.add_zero, Nd.cells, List.getElem?_cons_zero] at this
    rw [this, he]
  have hc : ∀ k, k < A.nodes.length → w.cell? ⟨g, k * 7 + 6, none⟩ = some (.int .u64 (ndAt A.nodes k).cnt) := fun k hk => by
    have := h.nd hv hk (j := 6) (by omega)
    simpa only [Nd.cells, List.getElem?_cons_zero, List.getElem?_cons_succ] using this
  have a0 := hl k0 h0 l0
  have a1 := hl k1 h1 l1
  have a2 := hl k2 h2 l2
  have a3 := hl k3 h3 l3
  have c0 := hc k0 h0
  have c1 := hc k1 h1
  have c2 := hc k2 h2
  have c3 := hc k3 h3
  have m0 := (h.ok k0 h0).cnt
  have m1 := (h.ok k1 h1).cnt
  have m2 := (h.ok k2 h2).cnt
  have m3 := (h.ok k3 h3).cnt
  generalize (ndAt A.nodes k0).cnt = n0 at c0 m0 ⊢
  generalize (ndAt A.nodes k1).cnt = n1 at c1 m1 ⊢
  generalize (ndAt A.nodes k2).cnt = n2 at c2 m2 ⊢
  generalize (ndAt A.nodes k3).cnt = n3 at c3 m3 ⊢
  have hhas : ∀ k, k < A.nodes.length → ∀ w', ArM w' p F A → Calls Try.prog 36 #[.pointer (some ⟨p, 0, none⟩), .int .u32 k] w' fun e w'' => e = .returned (.bool true) ∧ w' = w'' := fun k hk w' hm => by
    have := hm.has (i := k) (by omega)
    rw [show decide (k < A.nodes.length) = true by simpa using hk] at this
    exact this
  have hM := h.toArM.alloc (.cells #[.int .u32 k0, .int .u32 k1, .int .u32 k2, .int .u32 k3] 81)
  obtain ⟨s1, hs1⟩ : ∃ s, s = min (n0 + n1) 4611686018427387904 := ⟨_, rfl⟩
  obtain ⟨s2, hs2⟩ : ∃ s, s = min (s1 + n2) 4611686018427387904 := ⟨_, rfl⟩
  obtain ⟨s3, hs3⟩ : ∃ s, s = min (s2 + n3) 4611686018427387904 := ⟨_, rfl⟩
  have e0 : (if (4611686018427387904 : Int) < (n0 : Int) then (4611686018427387904 : Int) else (n0 : Int)) = (n0 : Int) := by rw [if_neg (by omega)]
  have e1 : (if (4611686018427387904 : Int) < (n0 : Int) + (n1 : Int) then (4611686018427387904 : Int) else (n0 : Int) + (n1 : Int)) = (s1 : Int) := by rw [hs1]; split <;> omega
  have e2 : (if (4611686018427387904 : Int) < (s1 : Int) + (n2 : Int) then (4611686018427387904 : Int) else (s1 : Int) + (n2 : Int)) = (s2 : Int) := by rw [hs2]; split <;> omega
  have e3 : (if (4611686018427387904 : Int) < (s2 : Int) + (n3 : Int) then (4611686018427387904 : Int) else (s2 : Int) + (n3 : Int)) = (s3 : Int) := by rw [hs3]; split <;> omega
  have hall : min s3 4611686018427387904 = min (n0 + n1 + n2 + n3) 4611686018427387904 := by omega
  have q1 : s1 ≤ 4611686018427387904 := by omega
  have q2 : s2 ≤ 4611686018427387904 := by omega
  have q3 : s3 ≤ 4611686018427387904 := by omega
  clear hs1 hs2 hs3
  have hfind := fun n => find_any ((h.alloc (.cells #[.int .u32 k0, .int .u32 k1, .int .u32 k2, .int .u32 k3] 81)).drewN n) hn (k := (L + 1, 0, k0, k1, k2, k3)) ⟨by simp only []; omega, by simp, by simp only []; omega, by simp only []; omega, by simp only []; omega, by simp only []; omega⟩ (c := s3) (by omega)
  rw [hall] at hfind
  clear hall
  simp only [keyV] at hfind
  clear hl hc l0 l1 l2 l3 hv
  have i0 : ∀ w, (Instr.index 81 (kids4 k0 k1 k2 k3) (.int .i64 0)).run Try.prog w = .ok (.int .u32 k0) w := fun _ => by kernel_rfl
  have i1 : ∀ w, (Instr.index 81 (kids4 k0 k1 k2 k3) (.int .i64 1)).run Try.prog w = .ok (.int .u32 k1) w := fun _ => by kernel_rfl
  have i2 : ∀ w, (Instr.index 81 (kids4 k0 k1 k2 k3) (.int .i64 2)).run Try.prog w = .ok (.int .u32 k2) w := fun _ => by kernel_rfl
  have i3 : ∀ w, (Instr.index 81 (kids4 k0 k1 k2 k3) (.int .i64 3)).run Try.prog w = .ok (.int .u32 k3) w := fun _ => by kernel_rfl
  have b0 : (k0 : Int) < (A.nodes.length : Int) := by omega
  have b1 : (k1 : Int) < (A.nodes.length : Int) := by omega
  have b2 : (k2 : Int) < (A.nodes.length : Int) := by omega
  have b3 : (k3 : Int) < (A.nodes.length : Int) := by omega
  go_enter Try.func62, Try.ntmps62
  go_wp2_with fail
  refine wp_loop_rounds 5 ?_
  rw [rounds_succ]
  go_wp2_with fail
  go_quiet ((go_at_call 36; first | exact quiet_of_eq (hhas _ h0 _ (by repeat (first | exact hM | refine ArM.drewN ?_ _))) | exact quiet_of_eq2 (hhas _ h0 _ (by repeat (first | exact hM | refine ArM.drewN ?_ _)))))
  go_wp2_with fail
  rw [rounds_succ]
  go_wp2_with fail
  go_quiet ((go_at_call 36; first | exact quiet_of_eq (hhas _ h1 _ (by repeat (first | exact hM | refine ArM.drewN ?_ _))) | exact quiet_of_eq2 (hhas _ h1 _ (by repeat (first | exact hM | refine ArM.drewN ?_ _)))))
  go_wp2_with fail
  rw [rounds_succ]
  go_wp2_with fail
  go_quiet ((go_at_call 36; first | exact quiet_of_eq (hhas _ h2 _ (by repeat (first | exact hM | refine ArM.drewN ?_ _))) | exact quiet_of_eq2 (hhas _ h2 _ (by repeat (first | exact hM | refine ArM.drewN ?_ _)))))
  go_wp2_with fail
  rw [rounds_succ]
  go_wp2_with fail
  go_quiet ((go_at_call 36; first | exact quiet_of_eq (hhas _ h3 _ (by repeat (first | exact hM | refine ArM.drewN ?_ _))) | exact quiet_of_eq2 (hhas _ h3 _ (by repeat (first | exact hM | refine ArM.drewN ?_ _)))))
  go_wp2_with fail
  rw [rounds_succ]
  go_wp2_with fail
  go_quiet (fail)
  go_wp2_with fail
  refine (hfind _).mono ?_
  rintro e w' ⟨r, err, F', A', rfl, hfnd, hs, hst⟩
  clear hfind hhas hM
  go_wp2
  go_ret2
  exact ⟨r, err, F', A', rfl, hfnd, hs, hst.from_drewN.from_alloc⟩

end Go.Proofs.Ytehmbhdapgkbcaa
