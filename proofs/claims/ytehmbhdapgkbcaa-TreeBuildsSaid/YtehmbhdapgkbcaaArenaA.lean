/- The arena's functions that only read: mix, Len, has, Level, Bits, Kids, Count, Most, and where a key is found (slot). -/
import Derived.Test.YtehmbhdapgkbcaaProg
import Derived.WalkSpells
import Derived.WalkLawsBesides
import Derived.BigQuiet
import Derived.Deep.QuietTactic
import Derived.Deep.LoopGhost
import Derived.Deep.RegionHeld3
import Derived.Deep.AppendLies
import Derived.Lib.Hide
import Derived.Test.YtehmbhdapgkbcaaBase
namespace Go.Proofs.Ytehmbhdapgkbcaa
open Go.RowKit

/-! ### Two keys are one -/
theorem part97 (x y z u : Value) (w : World) : (part 27 #[x,y,z,u] 0).run Try.prog w = .ok x w ∧ (part 27 #[x,y,z,u] 1).run Try.prog w = .ok y w ∧ (part 27 #[x,y,z,u] 2).run Try.prog w = .ok z w ∧ (part 27 #[x,y,z,u] 3).run Try.prog w = .ok u w :=
  ⟨by kernel_rfl, by kernel_rfl, by kernel_rfl, by kernel_rfl⟩
theorem size27 (w : World) : (Go.sizeOf 27).run Try.prog w = .ok 1 w := by kernel_rfl

theorem eq_arr (d : Nat) (a b c e a' b' c' e' : Int) (w : World) :
   (Op.equalIn (d+2) 81 (.agg #[.int .u32 a, .int .u32 b, .int .u32 c, .int .u32 e]) (.agg #[.int .u32 a', .int .u32 b', .int .u32 c', .int .u32 e'])).run Try.prog w = .ok (a == a' && (b == b' && (c == c' && e == e'))) w := by
  have h0 := fun (x y z u : Value) w => (part97 x y z u w).1
  have h1 := fun (x y z u : Value) w => (part97 x y z u w).2.1
  have h2 := fun (x y z u : Value) w => (part97 x y z u w).2.2.1
  have h3 := fun (x y z u : Value) w => (part97 x y z u w).2.2.2
  have hi := fun (x y : Int) (w : World) => run_equalIn_int (P := Try.prog) w d 27 .u32 .u32 x y Try.underlying27
  rw [Op.equalIn]
  simp only [Sem.run_bind, run_underlying Try.underlying81, Result.andThen_ok, size27, Std.Legacy.Range.forIn_eq_forIn_range', Std.Legacy.Range.size]
  simp only [List.range'_succ, List.range'_zero, Nat.reduceSub, Nat.reduceAdd, Nat.reduceDiv, List.forIn_cons, List.forIn_nil, Sem.run_bind, h0, Result.andThen_ok, hi, Nat.mul_one, Nat.zero_add]
  generalize (a == a') = x0
  cases x0
  · simp
  simp only [Bool.not_true, Bool.false_eq_true, if_false, Sem.run_pure, Result.andThen_ok, Sem.run_bind, h1, hi, Bool.true_and]
  generalize (b == b') = x0
  cases x0
  · simp
  simp only [Bool.not_true, Bool.false_eq_true, if_false, Sem.run_pure, Result.andThen_ok, Sem.run_bind, h2, hi, Bool.true_and]
  generalize (c == c') = x0
  cases x0
  · simp
  simp only [Bool.not_true, Bool.false_eq_true, if_false, Sem.run_pure, Result.andThen_ok, Sem.run_bind, h3, hi, Bool.true_and]
  generalize (e == e') = x0
  cases x0 <;> simp

theorem eq_key (l b k0 k1 k2 k3 l' b' k0' k1' k2' k3' : Int) (w : World) : (binOp .eql 130 (.agg #[.int .i64 l, .int .u32 b, .int .u32 k0, .int .u32 k1, .int .u32 k2, .int .u32 k3]) (.agg #[.int .i64 l', .int .u32 b', .int .u32 k0', .int .u32 k1', .int .u32 k2', .int .u32 k3'])).run Try.prog w = .ok (.bool (l == l' && (b == b' && (k0 == k0' && (k1 == k1' && (k2 == k2' && k3 == k3')))))) w := by
  have ht : Try.prog.underlying 130 = some (.struct (Try.prog.fieldsOf 130)) := by kernel_rfl
  have hs : Try.prog.stoodInHeld 130 = false := by kernel_rfl
  rw [run_eql_struct, run_equalIn_agg w 9999 130 _ _ ht hs]
  have q0 : ∀ w, (part 3 #[.int .i64 l, .int .u32 b, .int .u32 k0, .int .u32 k1, .int .u32 k2, .int .u32 k3] 0).run Try.prog w = .ok (.int .i64 l) w := fun _ => by kernel_rfl
  have q1 : ∀ w, (part 80 #[.int .i64 l, .int .u32 b, .int .u32 k0, .int .u32 k1, .int .u32 k2, .int .u32 k3] 1).run Try.prog w = .ok (.int .u32 b) w := fun _ => by kernel_rfl
  have q2 : ∀ w, (part 81 #[.int .i64 l, .int .u32 b, .int .u32 k0, .int .u32 k1, .int .u32 k2, .int .u32 k3] 2).run Try.prog w = .ok (.agg #[.int .u32 k0, .int .u32 k1, .int .u32 k2, .int .u32 k3]) w := fun _ => by kernel_rfl
  have r0 : ∀ w, (part 3 #[.int .i64 l', .int .u32 b', .int .u32 k0', .int .u32 k1', .int .u32 k2', .int .u32 k3'] 0).run Try.prog w = .ok (.int .i64 l') w := fun _ => by kernel_rfl
  have r1 : ∀ w, (part 80 #[.int .i64 l', .int .u32 b', .int .u32 k0', .int .u32 k1', .int .u32 k2', .int .u32 k3'] 1).run Try.prog w = .ok (.int .u32 b') w := fun _ => by kernel_rfl
  have r2 : ∀ w, (part 81 #[.int .i64 l', .int .u32 b', .int .u32 k0', .int .u32 k1', .int .u32 k2', .int .u32 k3'] 2).run Try.prog w = .ok (.agg #[.int .u32 k0', .int .u32 k1', .int .u32 k2', .int .u32 k3']) w := fun _ => by kernel_rfl
  have hf : (Try.prog.fieldsOf 130).toList.map (fun f => (f.name, f.type, f.offset)) = [("level", 3, 0), ("bits", 80, 1), ("kids", 81, 2)] := by kernel_rfl
  have hi := fun (x y : Int) (w : World) => run_equalIn_int (P := Try.prog) w 9998 3 .i64 .i64 x y Try.underlying3
  have hj := fun (x y : Int) (w : World) => run_equalIn_int (P := Try.prog) w 9998 80 .u32 .u32 x y Try.underlying80
  have hk := eq_arr 9997
  generalize (Try.prog.fieldsOf 130).toList = fs at hf
  rcases fs with _ | ⟨f0, _ | ⟨f1, _ | ⟨f2, _ | ⟨f3, fs⟩⟩⟩⟩ <;> simp only [List.map_cons, List.map_nil, List.cons.injEq, Prod.mk.injEq, and_true, List.cons_ne_nil, reduceCtorEq, and_false] at hf
  · obtain ⟨⟨n0, t0, o0⟩, ⟨n1, t1, o1⟩, ⟨n2, t2, o2⟩⟩ := hf
    simp only [Op.eqFields, n0, t0, o0, n1, t1, o1, n2, t2, o2, ne_eq, String.reduceEq, not_false_iff, if_true, q0, r0, Sem.run_bind, Result.andThen_ok, hi]
    generalize (l == l') = x0
    cases x0
    · simp
    simp only [Bool.not_true, Bool.false_eq_true, if_false, q1, r1, Sem.run_bind, Result.andThen_ok, hj, Bool.true_and]
    generalize (b == b') = x0
    cases x0
    · simp
    simp only [Bool.not_true, Bool.false_eq_true, if_false, q2, r2, Sem.run_bind, Result.andThen_ok, hk, Bool.true_and]
    generalize (k0 == k0' && (k1 == k1' && (k2 == k2' && k3 == k3'))) = x0
    cases x0 <;> simp

/-! ### The hash -/
def mixI (h x : Int) : Int := bits BinOp.xor IntKind.u64 (IntKind.u64.wrap (bits BinOp.xor IntKind.u64 h x * 11400714819323198485)) (IntKind.u64.wrap (bits BinOp.xor IntKind.u64 h x * 11400714819323198485) / 536870912)
theorem mix_any (h x : Int) (w : World) :
    Calls Try.prog 87 #[.int .u64 h, .int .u64 x] w fun e w' => e = .returned (.int .u64 (mixI h x)) ∧ w = w' := by
  go_enter Try.func87, Try.ntmps87
  go_wp2
  go_ret
  exact ⟨rfl, rfl⟩
/-- The hash of a key. -/
def hashI (k : Key) : Int := mixI (mixI (mixI (mixI (mixI k.1 k.2.1) k.2.2.1) k.2.2.2.1) k.2.2.2.2.1) k.2.2.2.2.2
def hf (k : Key) : Nat := (hashI k).toNat

/-! ### Functions that read -/
theorem has_any (p : Nat) (av : Option Addr) (n cap : Nat) (i : Nat) (w : World) (h0 : w.cell? ⟨p, 0, none⟩ = some (.slice av n cap)) (hi : i < 4294967296) :
    Calls Try.prog 36 #[.pointer (some ⟨p, 0, none⟩), .int .u32 i] w fun e w' => e = .returned (.bool (decide (i < n))) ∧ w = w' := by
  go_enter Try.func36, Try.ntmps36
  go_wp2
  go_ret
  exact ⟨rfl, rfl⟩
theorem len_any (p : Nat) (av : Option Addr) (n cap : Nat) (w : World) (h0 : w.cell? ⟨p, 0, none⟩ = some (.slice av n cap)) :
    Calls Try.prog 33 #[.pointer (some ⟨p, 0, none⟩)] w fun e w' => e = .returned (.int .i64 n) ∧ w = w' := by
  go_enter Try.func33, Try.ntmps33
  go_wp2
  go_ret
  exact ⟨rfl, rfl⟩

/-- The level of a node; -1: there is none. -/
def Ar.lvl (A : Ar) (i : Nat) : Int := if i < A.nodes.length then ((ndAt A.nodes i).lv : Int) else -1
theorem Ar.lvl_in {A : Ar} {i : Nat} (h : i < A.nodes.length) : A.lvl i = (ndAt A.nodes i).lv := if_pos h
theorem Ar.lvl_out {A : Ar} {i : Nat} (h : A.nodes.length ≤ i) : A.lvl i = -1 := if_neg (by omega)
theorem ndAt_out {l : List Nd} {i : Nat} (h : l.length ≤ i) : ndAt l i = default := by unfold ndAt; rw [List.getElem?_eq_none h]; rfl

section
variable {w : World} {p : Nat} {F : Foot} {A : Ar} {i : Nat}

theorem ArM.has (h : ArM w p F A) (hi : i < 4294967296) :
    Calls Try.prog 36 #[.pointer (some ⟨p, 0, none⟩), .int .u32 i] w fun e w' => e = .returned (.bool (decide (i < A.nodes.length))) ∧ w = w' := by
  obtain ⟨a, cap, hv, _⟩ := h.nodes.slice
  exact has_any p a _ cap i w (by rw [h.c0, hv]) hi
theorem ArM.len (h : ArM w p F A) :
    Calls Try.prog 33 #[.pointer (some ⟨p, 0, none⟩)] w fun e w' => e = .returned (.int .i64 A.nodes.length) ∧ w = w' := by
  obtain ⟨a, cap, hv, _⟩ := h.nodes.slice
  exact len_any p a _ cap w (by rw [h.c0, hv])
theorem ArM.mostOf (h : ArM w p F A) :
    Calls Try.prog 60 #[.pointer (some ⟨p, 0, none⟩)] w fun e w' => e = .returned (.int .i64 A.most) ∧ w = w' := by
  have h3 := h.c3
  clear h
  go_enter Try.func60, Try.ntmps60
  go_wp2
  go_ret
  exact ⟨rfl, rfl⟩

theorem ArM.level (h : ArM w p F A) (hi : i < 4294967296) :
    Calls Try.prog 11 #[.pointer (some ⟨p, 0, none⟩), .int .u32 i] w fun e w' => e = .returned (.int .i64 (A.lvl i)) ∧ w = w' := by
  have hh := h.has hi
  by_cases hin : i < A.nodes.length
  · have hd : decide (i < A.nodes.length) = true := by simpa using hin
    rw [hd] at hh
    rw [Ar.lvl_in hin]
    obtain ⟨g, cap, hv, _⟩ := h.nodes.form (by omega)
    have h0 := h.c0
    rw [hv] at h0
    have hc := h.nd hv hin (j := 0) (by omega)
    simp only [Nat.add_zero, Nd.cells, List.getElem?_cons_zero] at hc
    generalize hx : (ndAt A.nodes i).lv = x at hc ⊢
    clear hx hv h
    go_enter Try.func11, Try.ntmps11
    go_wp2_with (go_at_call 36; refine hh.mono ?_; rintro e w' ⟨rfl, rfl⟩)
    go_ret
    exact ⟨rfl, rfl⟩
  · have hd : decide (i < A.nodes.length) = false := by simpa using hin
    rw [hd] at hh
    rw [Ar.lvl_out (by omega)]
    clear h
    go_enter Try.func11, Try.ntmps11
    go_wp2_with (go_at_call 36; refine hh.mono ?_; rintro e w' ⟨rfl, rfl⟩)
    go_ret
    exact ⟨rfl, rfl⟩

theorem ArM.bits (h : ArM w p F A) (hi : i < 4294967296) :
    Calls Try.prog 55 #[.pointer (some ⟨p, 0, none⟩), .int .u32 i] w fun e w' => e = .returned (.int .u32 (ndAt A.nodes i).bits) ∧ w = w' := by
  have hh := h.has hi
  by_cases hin : i < A.nodes.length
  · have hd : decide (i < A.nodes.length) = true := by simpa using hin
    rw [hd] at hh
    obtain ⟨g, cap, hv, _⟩ := h.nodes.form (by omega)
    have h0 := h.c0
    rw [hv] at h0
    have hc := h.nd hv hin (j := 1) (by omega)
    simp only [Nd.cells, List.getElem?_cons_zero, List.getElem?_cons_succ] at hc
    generalize hx : (ndAt A.nodes i).bits = x at hc ⊢
    clear hx hv h
    go_enter Try.func55, Try.ntmps55
    go_wp2_with (go_at_call 36; refine hh.mono ?_; rintro e w' ⟨rfl, rfl⟩)
    go_ret
    exact ⟨rfl, rfl⟩
  · have hd : decide (i < A.nodes.length) = false := by simpa using hin
    rw [hd] at hh
    rw [ndAt_out (by omega)]
    clear h
    go_enter Try.func55, Try.ntmps55
    go_wp2_with (go_at_call 36; refine hh.mono ?_; rintro e w' ⟨rfl, rfl⟩)
    go_ret
    exact ⟨rfl, rfl⟩

theorem ArM.count (h : ArM w p F A) (hi : i < 4294967296) :
    Calls Try.prog 24 #[.pointer (some ⟨p, 0, none⟩), .int .u32 i] w fun e w' => e = .returned (.int .u64 (ndAt A.nodes i).cnt) ∧ w = w' := by
  have hh := h.has hi
  by_cases hin : i < A.nodes.length
  · have hd : decide (i < A.nodes.length) = true := by simpa using hin
    rw [hd] at hh
    obtain ⟨g, cap, hv, _⟩ := h.nodes.form (by omega)
    have h0 := h.c0
    rw [hv] at h0
    have hc := h.nd hv hin (j := 6) (by omega)
    simp only [Nd.cells, List.getElem?_cons_zero, List.getElem?_cons_succ] at hc
    generalize hx : (ndAt A.nodes i).cnt = x at hc ⊢
    clear hx hv h
    go_enter Try.func24, Try.ntmps24
    go_wp2_with (go_at_call 36; refine hh.mono ?_; rintro e w' ⟨rfl, rfl⟩)
    go_ret
    exact ⟨rfl, rfl⟩
  · have hd : decide (i < A.nodes.length) = false := by simpa using hin
    rw [hd] at hh
    rw [ndAt_out (by omega)]
    clear h
    go_enter Try.func24, Try.ntmps24
    go_wp2_with (go_at_call 36; refine hh.mono ?_; rintro e w' ⟨rfl, rfl⟩)
    go_ret
    exact ⟨rfl, rfl⟩

/-- Four kids as an array. -/
abbrev kids4 (a b c d : Nat) : Value := .agg #[.int .u32 a, .int .u32 b, .int .u32 c, .int .u32 d]

theorem ArM.kids (h : ArM w p F A) (hi : i < 4294967296) :
    Calls Try.prog 54 #[.pointer (some ⟨p, 0, none⟩), .int .u32 i] w fun e w' => e = .returned (kids4 (ndAt A.nodes i).k0 (ndAt A.nodes i).k1 (ndAt A.nodes i).k2 (ndAt A.nodes i).k3) ∧ Below w.heap.size w w' := by
  have hh := fun o => (h.alloc o).has hi
  have hp := h.lt
  by_cases hin : i < A.nodes.length
  · have hd : decide (i < A.nodes.length) = true := by simpa using hin
    rw [hd] at hh
    obtain ⟨g, cap, hv, _, _, hg⟩ := h.nodes.form (by omega)
    have h0 := h.c0
    rw [hv] at h0
    have c0 := h.nd hv hin (j := 2) (by omega)
    have c1 := h.nd hv hin (j := 3) (by omega)
    have c2 := h.nd hv hin (j := 4) (by omega)
    have c3 := h.nd hv hin (j := 5) (by omega)
    simp only [Nd.cells, List.getElem?_cons_zero, List.getElem?_cons_succ] at c0 c1 c2 c3
    generalize (ndAt A.nodes i).k0 = x0 at c0 ⊢
    generalize (ndAt A.nodes i).k1 = x1 at c1 ⊢
    generalize (ndAt A.nodes i).k2 = x2 at c2 ⊢
    generalize (ndAt A.nodes i).k3 = x3 at c3 ⊢
    clear hv h
    go_enter Try.func54, Try.ntmps54
    go_wp2_with (go_at_call 36; refine (hh _).mono ?_; rintro e w' ⟨rfl, rfl⟩)
    refine bodyPost_ret (v := kids4 x0 x1 x2 x3) (by simp [results, Try.results54, go_sem]) rfl ⟨rfl, (Below.refl _ _).alloc (Nat.le_refl _) _⟩
  · have hd : decide (i < A.nodes.length) = false := by simpa using hin
    rw [hd] at hh
    rw [ndAt_out (by omega)]
    clear h
    go_enter Try.func54, Try.ntmps54
    go_wp2_with (go_at_call 36; refine (hh _).mono ?_; rintro e w' ⟨rfl, rfl⟩)
    refine bodyPost_ret (v := kids4 0 0 0 0) (by simp [results, Try.results54, go_sem]) rfl ⟨rfl, (Below.refl _ _).alloc (Nat.le_refl _) _⟩
end

end Go.Proofs.Ytehmbhdapgkbcaa
