/- Nodes as trees of squares: which cells live below one; that two of one level with the same cells are one. Plain: nothing of the program. -/
import Derived.Test.YtehmbhdapgkbcaaBit
import Derived.Test.YtehmbhdapgkbcaaBase
namespace Go.Proofs.Ytehmbhdapgkbcaa

/-- A cell: its point, its half. -/
structure Cl where
  a : Int
  b : Int
  h : Int
  deriving DecidableEq, Inhabited

theorem Cl.eq {c d : Cl} (h1 : c.a = d.a) (h2 : c.b = d.b) (h3 : c.h = d.h) : c = d := by cases c; cases d; simp_all

abbrev MC : Nat := 4611686018427387904
def leafNd (f : Nat) : Nd := ⟨2, f, 0, 0, 0, 0, pop f⟩

/-- The cell of bit k of a leaf whose least point is (a, b). -/
def bitCl (a b : Int) (k : Nat) : Cl := ⟨a + ((k / 2 % 4 : Nat) : Int), b + ((k / 8 : Nat) : Int), ((k % 2 : Nat) : Int)⟩
def leafCl (f : Nat) (a b : Int) : List Cl := (bitsOf f).map (bitCl a b)

/-- The cells below a node of level f + 2 whose least point is (a, b), in the program's order. -/
def cl (ns : List Nd) : Nat → Nat → Int → Int → List Cl
  | 0, i, a, b => leafCl (ndAt ns i).bits a b
  | f + 1, i, a, b =>
    cl ns f (ndAt ns i).k0 a b ++ (cl ns f (ndAt ns i).k1 (a + 2 ^ (f + 2)) b ++ (cl ns f (ndAt ns i).k2 a (b + 2 ^ (f + 2)) ++ cl ns f (ndAt ns i).k3 (a + 2 ^ (f + 2)) (b + 2 ^ (f + 2))))

/-- A node that is what it should be, its kids among the first m nodes. -/
inductive GoodNd (ns : List Nd) (m : Nat) (n : Nd) : Prop
  | leaf (f : Nat) (hf : f < 4294967296) (h : n = leafNd f)
  | join (L k0 k1 k2 k3 : Nat) (hL : 2 ≤ L) (hL2 : L < 44) (h0 : k0 < m) (h1 : k1 < m) (h2 : k2 < m) (h3 : k3 < m)
      (l0 : (ndAt ns k0).lv = L) (l1 : (ndAt ns k1).lv = L) (l2 : (ndAt ns k2).lv = L) (l3 : (ndAt ns k3).lv = L)
      (h : n = ⟨L + 1, 0, k0, k1, k2, k3, min ((ndAt ns k0).cnt + (ndAt ns k1).cnt + (ndAt ns k2).cnt + (ndAt ns k3).cnt) MC⟩)

structure WF (ns : List Nd) : Prop where
  good : ∀ i, i < ns.length → GoodNd ns i (ndAt ns i)
  keys : ∀ u v, u < ns.length → v < ns.length → (ndAt ns u).key = (ndAt ns v).key → u = v

theorem ndAt_left {ns l : List Nd} {i : Nat} (h : i < ns.length) : ndAt (ns ++ l) i = ndAt ns i := by unfold ndAt; rw [List.getElem?_append_left h]
theorem ndAt_end (ns : List Nd) (n : Nd) : ndAt (ns ++ [n]) ns.length = n := by unfold ndAt; rw [List.getElem?_append_right (Nat.le_refl _), Nat.sub_self]; rfl

theorem WF.lv {ns : List Nd} (w : WF ns) {i : Nat} (h : i < ns.length) : 2 ≤ (ndAt ns i).lv ∧ (ndAt ns i).lv ≤ 44 := by
  cases w.good i h with
  | leaf f hf h => rw [h]; simp [leafNd]
  | join L k0 k1 k2 k3 hL hL2 h0 h1 h2 h3 l0 l1 l2 l3 h => rw [h]; dsimp only; omega

/-- The kids of a node above the leaves. -/
theorem WF.join {ns : List Nd} (w : WF ns) {i f : Nat} (h : i < ns.length) (hl : (ndAt ns i).lv = f + 3) :
    (ndAt ns i).k0 < i ∧ (ndAt ns i).k1 < i ∧ (ndAt ns i).k2 < i ∧ (ndAt ns i).k3 < i ∧
    (ndAt ns (ndAt ns i).k0).lv = f + 2 ∧ (ndAt ns (ndAt ns i).k1).lv = f + 2 ∧ (ndAt ns (ndAt ns i).k2).lv = f + 2 ∧ (ndAt ns (ndAt ns i).k3).lv = f + 2 ∧
    (ndAt ns i).bits = 0 ∧ (ndAt ns i).cnt = min ((ndAt ns (ndAt ns i).k0).cnt + (ndAt ns (ndAt ns i).k1).cnt + (ndAt ns (ndAt ns i).k2).cnt + (ndAt ns (ndAt ns i).k3).cnt) MC := by
  cases w.good i h with
  | leaf f' hf h => rw [h] at hl; simp [leafNd] at hl
  | join L k0 k1 k2 k3 hL hL2 h0 h1 h2 h3 l0 l1 l2 l3 h =>
    rw [h] at hl ⊢
    dsimp only at hl ⊢
    have : L = f + 2 := by omega
    subst this
    exact ⟨h0, h1, h2, h3, l0, l1, l2, l3, rfl, rfl⟩
theorem WF.leafOf {ns : List Nd} (w : WF ns) {i : Nat} (h : i < ns.length) (hl : (ndAt ns i).lv = 2) : (ndAt ns i).bits < 4294967296 ∧ ndAt ns i = leafNd (ndAt ns i).bits := by
  cases w.good i h with
  | leaf f hf h => rw [h]; exact ⟨hf, rfl⟩
  | join L k0 k1 k2 k3 hL hL2 h0 h1 h2 h3 l0 l1 l2 l3 h => rw [h] at hl; dsimp only at hl; omega

theorem bitsOf_lt {f k : Nat} (h : k ∈ bitsOf f) : k < 32 ∧ f.testBit k = true := by
  unfold bitsOf at h
  simpa using h
theorem bitCl_inj {a b : Int} {k k' : Nat} (h : k < 32) (h' : k' < 32) (e : bitCl a b k = bitCl a b k') : k = k' := by
  simp only [bitCl, Cl.mk.injEq] at e
  omega
theorem bitCl_range {a b : Int} {k : Nat} (h : k < 32) : a ≤ (bitCl a b k).a ∧ (bitCl a b k).a < a + 4 ∧ b ≤ (bitCl a b k).b ∧ (bitCl a b k).b < b + 4 ∧ 0 ≤ (bitCl a b k).h ∧ (bitCl a b k).h ≤ 1 := by
  simp only [bitCl]
  omega

section
variable {ns : List Nd}

theorem cl_range (w : WF ns) : ∀ (f i : Nat) (a b : Int), i < ns.length → (ndAt ns i).lv = f + 2 → ∀ c ∈ cl ns f i a b,
    a ≤ c.a ∧ c.a < a + 2 ^ (f + 2) ∧ b ≤ c.b ∧ c.b < b + 2 ^ (f + 2) ∧ 0 ≤ c.h ∧ c.h ≤ 1
  | 0, i, a, b, _, _, c, hc => by
    simp only [cl, leafCl, List.mem_map] at hc
    obtain ⟨k, hk, rfl⟩ := hc
    have := bitCl_range (a := a) (b := b) (bitsOf_lt hk).1
    simpa using this
  | f + 1, i, a, b, hi, hl, c, hc => by
    obtain ⟨h0, h1, h2, h3, l0, l1, l2, l3, _, _⟩ := w.join hi hl
    have e : (2 : Int) ^ (f + 1 + 2) = 2 * 2 ^ (f + 2) := by rw [Int.pow_succ]; omega
    have p : (0 : Int) < 2 ^ (f + 2) := Int.pow_pos (by omega)
    rw [e]
    simp only [cl, List.mem_append] at hc
    rcases hc with hc | hc | hc | hc
    · have := cl_range w f _ _ _ (by omega) l0 c hc; omega
    · have := cl_range w f _ _ _ (by omega) l1 c hc; omega
    · have := cl_range w f _ _ _ (by omega) l2 c hc; omega
    · have := cl_range w f _ _ _ (by omega) l3 c hc; omega

theorem cl_nodup (w : WF ns) : ∀ (f i : Nat) (a b : Int), i < ns.length → (ndAt ns i).lv = f + 2 → (cl ns f i a b).Nodup
  | 0, i, a, b, _, _ => by
    simp only [cl, leafCl]
    have hn : (bitsOf (ndAt ns i).bits).Nodup := List.Pairwise.filter _ List.nodup_range
    generalize hl : bitsOf (ndAt ns i).bits = l at hn
    have hlt : ∀ k ∈ l, k < 32 := fun k hk => (bitsOf_lt (hl ▸ hk)).1
    clear hl
    induction l with
    | nil => exact List.nodup_nil
    | cons x l ih =>
      have hx := List.nodup_cons.1 hn
      rw [List.map_cons, List.nodup_cons]
      refine ⟨fun hm => ?_, ih hx.2 fun k hk => hlt k (List.mem_cons_of_mem _ hk)⟩
      obtain ⟨y, hy, he⟩ := List.mem_map.1 hm
      have := bitCl_inj (hlt y (List.mem_cons_of_mem _ hy)) (hlt x (List.mem_cons_self)) he
      exact hx.1 (this ▸ hy)
  | f + 1, i, a, b, hi, hl => by
    obtain ⟨h0, h1, h2, h3, l0, l1, l2, l3, _, _⟩ := w.join hi hl
    have p : (0 : Int) < 2 ^ (f + 2) := Int.pow_pos (by omega)
    have r0 := cl_range w f _ a b (by omega) l0
    have r1 := cl_range w f _ (a + 2 ^ (f + 2)) b (by omega) l1
    have r2 := cl_range w f _ a (b + 2 ^ (f + 2)) (by omega) l2
    have r3 := cl_range w f _ (a + 2 ^ (f + 2)) (b + 2 ^ (f + 2)) (by omega) l3
    simp only [cl, List.nodup_append, List.mem_append]
    refine ⟨cl_nodup w f _ _ _ (by omega) l0, ⟨cl_nodup w f _ _ _ (by omega) l1, ⟨cl_nodup w f _ _ _ (by omega) l2, cl_nodup w f _ _ _ (by omega) l3, ?_⟩, ?_⟩, ?_⟩
    · rintro x hx y hy rfl
      have := r2 x hx; have := r3 x hy; omega
    · rintro x hx y hy rfl
      have := r1 x hx
      rcases hy with hy | hy
      · have := r2 x hy; omega
      · have := r3 x hy; omega
    · rintro x hx y hy rfl
      have := r0 x hx
      rcases hy with hy | hy | hy
      · have := r1 x hy; omega
      · have := r2 x hy; omega
      · have := r3 x hy; omega

theorem cl_cnt (w : WF ns) : ∀ (f i : Nat) (a b : Int), i < ns.length → (ndAt ns i).lv = f + 2 → (ndAt ns i).cnt = min (cl ns f i a b).length MC
  | 0, i, a, b, hi, hl => by
    rw [(w.leafOf hi hl).2]
    have := pop_le (ndAt ns i).bits
    simp only [cl, leafCl, List.length_map, leafNd]
    show pop _ = min (pop _) 4611686018427387904
    omega
  | f + 1, i, a, b, hi, hl => by
    obtain ⟨h0, h1, h2, h3, l0, l1, l2, l3, _, hc⟩ := w.join hi hl
    rw [hc, cl_cnt w f _ a b (by omega) l0, cl_cnt w f _ (a + 2 ^ (f + 2)) b (by omega) l1, cl_cnt w f _ a (b + 2 ^ (f + 2)) (by omega) l2, cl_cnt w f _ (a + 2 ^ (f + 2)) (b + 2 ^ (f + 2)) (by omega) l3]
    simp only [cl, List.length_append]
    omega

theorem cl_more (w : WF ns) (l : List Nd) : ∀ (f i : Nat) (a b : Int), i < ns.length → (ndAt ns i).lv = f + 2 → cl (ns ++ l) f i a b = cl ns f i a b
  | 0, i, a, b, hi, _ => by simp only [cl]; rw [ndAt_left hi]
  | f + 1, i, a, b, hi, hl => by
    obtain ⟨h0, h1, h2, h3, l0, l1, l2, l3, _, _⟩ := w.join hi hl
    simp only [cl]
    rw [ndAt_left hi, cl_more w l f _ _ _ (by omega) l0, cl_more w l f _ _ _ (by omega) l1, cl_more w l f _ _ _ (by omega) l2, cl_more w l f _ _ _ (by omega) l3]

/-- Shifted. -/
theorem cl_shift (ns : List Nd) (x y : Int) : ∀ (f i : Nat) (a b : Int), cl ns f i (a + x) (b + y) = (cl ns f i a b).map fun c => ⟨c.a + x, c.b + y, c.h⟩
  | 0, i, a, b => by
    simp only [cl, leafCl, List.map_map]
    refine List.map_congr_left fun k _ => ?_
    apply Cl.eq <;> simp only [bitCl, Function.comp_apply] <;> omega
  | f + 1, i, a, b => by
    simp only [cl, List.map_append]
    rw [← cl_shift ns x y f _ a b, ← cl_shift ns x y f _ (a + 2 ^ (f + 2)) b, ← cl_shift ns x y f _ a (b + 2 ^ (f + 2)), ← cl_shift ns x y f _ (a + 2 ^ (f + 2)) (b + 2 ^ (f + 2))]
    rw [show a + x + (2 : Int) ^ (f + 2) = a + 2 ^ (f + 2) + x by omega, show b + y + (2 : Int) ^ (f + 2) = b + 2 ^ (f + 2) + y by omega]

theorem mem_leafCl {f k : Nat} {a b : Int} (hk : k < 32) : bitCl a b k ∈ leafCl f a b ↔ f.testBit k = true := by
  unfold leafCl
  rw [List.mem_map]
  constructor
  · rintro ⟨k', hk', he⟩
    have := bitCl_inj (bitsOf_lt hk').1 hk he
    subst this
    exact (bitsOf_lt hk').2
  · intro h
    exact ⟨k, by unfold bitsOf; simp [hk, h], rfl⟩

/-- Two leaves with the same cells are one. -/
theorem leaf_ext {f g : Nat} {a b : Int} (hf : f < 4294967296) (hg : g < 4294967296) (h : ∀ c, c ∈ leafCl f a b ↔ c ∈ leafCl g a b) : f = g := by
  refine Nat.eq_of_testBit_eq fun k => ?_
  by_cases hk : k < 32
  · have := h (bitCl a b k)
    rw [mem_leafCl hk, mem_leafCl hk] at this
    exact Bool.eq_iff_iff.2 this
  · have p : (2 : Nat) ^ 32 ≤ 2 ^ k := Nat.pow_le_pow_right (by omega) (by omega)
    rw [Nat.testBit_lt_two_pow (Nat.lt_of_lt_of_le (show f < 2 ^ 32 from hf) p), Nat.testBit_lt_two_pow (Nat.lt_of_lt_of_le (show g < 2 ^ 32 from hg) p)]

/-- **Two nodes of one level with the same cells are one.** -/
theorem cl_ext (w : WF ns) : ∀ (f i j : Nat) (a b : Int), i < ns.length → j < ns.length → (ndAt ns i).lv = f + 2 → (ndAt ns j).lv = f + 2 → (∀ c, c ∈ cl ns f i a b ↔ c ∈ cl ns f j a b) → i = j
  | 0, i, j, a, b, hi, hj, li, lj, h => by
    have e := leaf_ext (w.leafOf hi li).1 (w.leafOf hj lj).1 h
    refine w.keys i j hi hj ?_
    rw [(w.leafOf hi li).2, (w.leafOf hj lj).2, e]
  | f + 1, i, j, a, b, hi, hj, li, lj, h => by
    obtain ⟨h0, h1, h2, h3, l0, l1, l2, l3, b1, _⟩ := w.join hi li
    obtain ⟨g0, g1, g2, g3, m0, m1, m2, m3, b2, _⟩ := w.join hj lj
    have p : (0 : Int) < 2 ^ (f + 2) := Int.pow_pos (by omega)
    have r0 := cl_range w f _ a b (by omega) l0
    have r1 := cl_range w f _ (a + 2 ^ (f + 2)) b (by omega) l1
    have r2 := cl_range w f _ a (b + 2 ^ (f + 2)) (by omega) l2
    have r3 := cl_range w f _ (a + 2 ^ (f + 2)) (b + 2 ^ (f + 2)) (by omega) l3
    have s0 := cl_range w f _ a b (by omega) m0
    have s1 := cl_range w f _ (a + 2 ^ (f + 2)) b (by omega) m1
    have s2 := cl_range w f _ a (b + 2 ^ (f + 2)) (by omega) m2
    have s3 := cl_range w f _ (a + 2 ^ (f + 2)) (b + 2 ^ (f + 2)) (by omega) m3
    simp only [cl, List.mem_append] at h
    have e0 := cl_ext w f _ _ a b (by omega) (by omega) l0 m0 (fun c => by
      constructor
      · intro hc
        have := r0 c hc
        rcases (h c).1 (.inl hc) with k | k | k | k
        · exact k
        · have := s1 c k; omega
        · have := s2 c k; omega
        · have := s3 c k; omega
      · intro hc
        have := s0 c hc
        rcases (h c).2 (.inl hc) with k | k | k | k
        · exact k
        · have := r1 c k; omega
        · have := r2 c k; omega
        · have := r3 c k; omega)
    have e1 := cl_ext w f _ _ (a + 2 ^ (f + 2)) b (by omega) (by omega) l1 m1 (fun c => by
      constructor
      · intro hc
        have := r1 c hc
        rcases (h c).1 (.inr (.inl hc)) with k | k | k | k
        · have := s0 c k; omega
        · exact k
        · have := s2 c k; omega
        · have := s3 c k; omega
      · intro hc
        have := s1 c hc
        rcases (h c).2 (.inr (.inl hc)) with k | k | k | k
        · have := r0 c k; omega
        · exact k
        · have := r2 c k; omega
        · have := r3 c k; omega)
    have e2 := cl_ext w f _ _ a (b + 2 ^ (f + 2)) (by omega) (by omega) l2 m2 (fun c => by
      constructor
      · intro hc
        have := r2 c hc
        rcases (h c).1 (.inr (.inr (.inl hc))) with k | k | k | k
        · have := s0 c k; omega
        · have := s1 c k; omega
        · exact k
        · have := s3 c k; omega
      · intro hc
        have := s2 c hc
        rcases (h c).2 (.inr (.inr (.inl hc))) with k | k | k | k
        · have := r0 c k; omega
        · have := r1 c k; omega
        · exact k
        · have := r3 c k; omega)
    have e3 := cl_ext w f _ _ (a + 2 ^ (f + 2)) (b + 2 ^ (f + 2)) (by omega) (by omega) l3 m3 (fun c => by
      constructor
      · intro hc
        have := r3 c hc
        rcases (h c).1 (.inr (.inr (.inr hc))) with k | k | k | k
        · have := s0 c k; omega
        · have := s1 c k; omega
        · have := s2 c k; omega
        · exact k
      · intro hc
        have := s3 c hc
        rcases (h c).2 (.inr (.inr (.inr hc))) with k | k | k | k
        · have := r0 c k; omega
        · have := r1 c k; omega
        · have := r2 c k; omega
        · exact k)
    refine w.keys i j hi hj ?_
    simp only [Nd.key, Prod.mk.injEq]
    exact ⟨li.trans lj.symm, b1.trans b2.symm, e0, e1, e2, e3⟩
end

end Go.Proofs.Ytehmbhdapgkbcaa
