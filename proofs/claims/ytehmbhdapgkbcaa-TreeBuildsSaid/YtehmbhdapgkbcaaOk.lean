/- What holds of an arena between two calls; what a call that makes nodes comes to. -/
import Derived.Test.YtehmbhdapgkbcaaTree
import Derived.Test.YtehmbhdapgkbcaaFindB
namespace Go.Proofs.Ytehmbhdapgkbcaa
open Go.RowKit

/-- The empty nodes by level. -/
structure EmOk (A : Ar) : Prop where
  three : 3 ≤ A.empty.length
  all : A.empty.length ≤ 45
  lt : ∀ l, 2 ≤ l → l < A.empty.length → at0 A.empty l < A.nodes.length
  lv : ∀ l, 2 ≤ l → l < A.empty.length → (ndAt A.nodes (at0 A.empty l)).lv = l
  cnt : ∀ l, 2 ≤ l → l < A.empty.length → (ndAt A.nodes (at0 A.empty l)).cnt = 0

/-- An arena as it is between two calls. -/
structure Ar.Ok (A : Ar) : Prop where
  wf : WF A.nodes
  em : EmOk A
  le : (A.nodes.length : Int) ≤ A.most

/-- More nodes, the old ones as they were. -/
structure Ext (A A' : Ar) : Prop where
  more : ∃ l, A'.nodes = A.nodes ++ l
  most : A'.most = A.most

theorem Ext.refl (A : Ar) : Ext A A := ⟨⟨[], by simp⟩, rfl⟩
theorem Ext.trans {A B C : Ar} (h : Ext A B) (k : Ext B C) : Ext A C := by
  obtain ⟨l, hl⟩ := h.more
  obtain ⟨m, hm⟩ := k.more
  exact ⟨⟨l ++ m, by rw [hm, hl, List.append_assoc]⟩, k.most.trans h.most⟩
theorem Ext.len {A A' : Ar} (h : Ext A A') : A.nodes.length ≤ A'.nodes.length := by
  obtain ⟨l, hl⟩ := h.more
  rw [hl]; simp
theorem Ext.nd {A A' : Ar} (h : Ext A A') {i : Nat} (hi : i < A.nodes.length) : ndAt A'.nodes i = ndAt A.nodes i := by
  obtain ⟨l, hl⟩ := h.more
  rw [hl, ndAt_left hi]
theorem Ext.lvl {A A' : Ar} (h : Ext A A') {i : Nat} (hi : i < A.nodes.length) : A'.lvl i = A.lvl i := by
  rw [Ar.lvl_in hi, Ar.lvl_in (by have := h.len; omega), h.nd hi]
theorem Ext.cl {A A' : Ar} (h : Ext A A') (w : WF A.nodes) {f i : Nat} (a b : Int) (hi : i < A.nodes.length) (hl : (ndAt A.nodes i).lv = f + 2) : cl A'.nodes f i a b = cl A.nodes f i a b := by
  obtain ⟨l, hl'⟩ := h.more
  rw [hl', cl_more w l f i a b hi hl]

theorem GoodNd.mono {ns : List Nd} {m m' : Nat} {n : Nd} (h : GoodNd ns m n) (hm : m ≤ m') : GoodNd ns m' n := by
  cases h with
  | leaf f hf h => exact .leaf f hf h
  | join L k0 k1 k2 k3 hL hL2 h0 h1 h2 h3 l0 l1 l2 l3 h => exact .join L k0 k1 k2 k3 hL hL2 (by omega) (by omega) (by omega) (by omega) l0 l1 l2 l3 h
theorem GoodNd.more {ns : List Nd} {m : Nat} {n : Nd} (h : GoodNd ns m n) (hm : m ≤ ns.length) (l : List Nd) : GoodNd (ns ++ l) m n := by
  cases h with
  | leaf f hf h => exact .leaf f hf h
  | join L k0 k1 k2 k3 hL hL2 h0 h1 h2 h3 l0 l1 l2 l3 h =>
    exact .join L k0 k1 k2 k3 hL hL2 h0 h1 h2 h3 (by rw [ndAt_left (by omega)]; exact l0) (by rw [ndAt_left (by omega)]; exact l1) (by rw [ndAt_left (by omega)]; exact l2) (by rw [ndAt_left (by omega)]; exact l3)
      (by rw [ndAt_left (by omega), ndAt_left (by omega), ndAt_left (by omega), ndAt_left (by omega)]; exact h)

/-- A good node is told by its key. -/
theorem GoodNd.ext {ns : List Nd} {m m' : Nat} {n n' : Nd} (h : GoodNd ns m n) (h' : GoodNd ns m' n') (e : n.key = n'.key) : n = n' := by
  cases h with
  | leaf f hf h =>
    cases h' with
    | leaf f' hf' h' => rw [h, h'] at e ⊢; simp only [leafNd, Nd.key, Prod.mk.injEq] at e; rw [e.2.1]
    | join L k0 k1 k2 k3 hL hL2 h0 h1 h2 h3 l0 l1 l2 l3 h' => rw [h, h'] at e; simp only [leafNd, Nd.key, Prod.mk.injEq] at e; omega
  | join L k0 k1 k2 k3 hL hL2 h0 h1 h2 h3 l0 l1 l2 l3 h =>
    cases h' with
    | leaf f hf h' => rw [h, h'] at e; simp only [leafNd, Nd.key, Prod.mk.injEq] at e; omega
    | join L' k0' k1' k2' k3' hL' hL2' h0' h1' h2' h3' l0' l1' l2' l3' h' =>
      rw [h, h'] at e ⊢
      simp only [Nd.key, Prod.mk.injEq] at e
      obtain ⟨e0, _, e1, e2, e3, e4⟩ := e
      have : L = L' := by omega
      subst this; subst e1; subst e2; subst e3; subst e4
      rfl

theorem WF.push {ns : List Nd} (w : WF ns) {n : Nd} (hg : GoodNd ns ns.length n) (hn : ∀ v, v < ns.length → (ndAt ns v).key ≠ n.key) : WF (ns ++ [n]) := by
  refine ⟨fun i hi => ?_, fun u v hu hv e => ?_⟩
  · by_cases h : i < ns.length
    · rw [ndAt_left h]; exact (w.good i h).more (by omega) _
    · have : i = ns.length := by simp at hi; omega
      subst this
      rw [ndAt_end]; exact hg.more (Nat.le_refl _) _
  · simp only [List.length_append, List.length_cons, List.length_nil] at hu hv
    by_cases h1 : u < ns.length <;> by_cases h2 : v < ns.length
    · rw [ndAt_left h1, ndAt_left h2] at e; exact w.keys u v h1 h2 e
    · have : v = ns.length := by omega
      subst this
      rw [ndAt_left h1, ndAt_end] at e; exact absurd e (hn u h1)
    · have : u = ns.length := by omega
      subst this
      rw [ndAt_left h2, ndAt_end] at e; exact absurd e.symm (hn v h2)
    · omega

theorem EmOk.ext {A A' : Ar} (h : EmOk A) (e : Ext A A') (he : A'.empty = A.empty) : EmOk A' :=
  ⟨by rw [he]; exact h.three, by rw [he]; exact h.all, fun l h2 hl => by rw [he] at hl ⊢; exact Nat.lt_of_lt_of_le (h.lt l h2 hl) e.len,
   fun l h2 hl => by rw [he] at hl ⊢; rw [e.nd (h.lt l h2 hl)]; exact h.lv l h2 hl, fun l h2 hl => by rw [he] at hl ⊢; rw [e.nd (h.lt l h2 hl)]; exact h.cnt l h2 hl⟩

/-- What find leaves. -/
theorem Found.spec {A A' : Ar} {n : Nd} {r : Nat} {err : Option Nat} (hf : Found A n r err A') (w : WF A.nodes) (hg : GoodNd A.nodes A.nodes.length n) :
    WF A'.nodes ∧ Ext A A' ∧ A'.empty = A.empty ∧ A'.nodes.length ≤ A.nodes.length + 1 ∧ ((A.nodes.length : Int) ≤ A.most → (A'.nodes.length : Int) ≤ A'.most) ∧
      ((err = none ∧ r < A'.nodes.length ∧ ndAt A'.nodes r = n) ∨ (err = some 8 ∧ r = 0 ∧ A'.most ≤ A'.nodes.length ∧ A' = A)) := by
  cases hf with
  | old v hv hk => exact ⟨w, .refl _, rfl, by omega, id, .inl ⟨rfl, hv, (w.good _ hv).ext hg hk⟩⟩
  | full hn hm => exact ⟨w, .refl _, rfl, by omega, id, .inr ⟨rfl, rfl, hm, rfl⟩⟩
  | new hn hm =>
    refine ⟨w.push hg hn, ⟨⟨[n], rfl⟩, rfl⟩, rfl, by simp, fun _ => ?_, .inl ⟨rfl, ?_, ndAt_end _ _⟩⟩
    · simp; omega
    · simp

/-- How many nodes there are, with the empty ones that may still be made. -/
def Ar.room (A : Ar) : Nat := A.nodes.length + (45 - A.empty.length)
theorem Ar.room_le (A : Ar) : A.nodes.length ≤ A.room := by unfold Ar.room; omega

/-- What a call that makes at most k nodes comes to: a number with R, or ErrBudget. -/
def Ret (p : Nat) (F : Foot) (A : Ar) (k : Nat) (R : Nat → Ar → Prop) (w : World) (e : Ending) (w' : World) : Prop :=
  ∃ r err F' A', e = .returned (.tuple #[U32 r, errV err]) ∧ ArS w' p F' A' ∧ A'.Ok ∧ Ext A A' ∧ Step p F w F' w' ∧ A'.room ≤ A.room + k ∧
    ((err = none ∧ r < A'.nodes.length ∧ R r A') ∨ (err = some 8 ∧ r = 0 ∧ A'.most ≤ A'.nodes.length))

theorem FindPost.ret {p : Nat} {F : Foot} {A : Ar} {n : Nd} {w : World} {e : Ending} {w' : World} (h : FindPost p F A n w e w') (ok : A.Ok) (hg : GoodNd A.nodes A.nodes.length n) :
    Ret p F A 1 (fun r A' => ndAt A'.nodes r = n ∧ A'.empty = A.empty) w e w' := by
  obtain ⟨r, err, F', A', he, hf, hs, hst⟩ := h
  obtain ⟨h1, h2, h3, h4, h5, h6⟩ := hf.spec ok.wf hg
  refine ⟨r, err, F', A', he, hs, ⟨h1, ok.em.ext h2 h3, h5 ok.le⟩, h2, hst, by unfold Ar.room; rw [h3]; omega, ?_⟩
  rcases h6 with ⟨a, b, c⟩ | ⟨a, b, c, _⟩
  · exact .inl ⟨a, b, c, h3⟩
  · exact .inr ⟨a, b, c⟩


theorem NdB.of_good {ns : List Nd} {m : Nat} {n : Nd} (h : GoodNd ns m n) (hm : m < 4294967296) : NdB n := by
  cases h with
  | leaf f hf h =>
    rw [h]
    have := pop_le f
    exact ⟨⟨by simp [leafNd, Nd.key], by simpa [leafNd, Nd.key] using hf, by simp [leafNd, Nd.key], by simp [leafNd, Nd.key], by simp [leafNd, Nd.key], by simp [leafNd, Nd.key]⟩, by simp only [leafNd]; omega⟩
  | join L k0 k1 k2 k3 hL hL2 h0 h1 h2 h3 l0 l1 l2 l3 h =>
    rw [h]
    exact ⟨⟨by simp only [Nd.key]; omega, by simp [Nd.key], by simp only [Nd.key]; omega, by simp only [Nd.key]; omega, by simp only [Nd.key]; omega, by simp only [Nd.key]; omega⟩, Nat.min_le_right _ _⟩

end Go.Proofs.Ytehmbhdapgkbcaa
