/- One cell of a tree: where it lies, what a new value of it makes. Plain. -/
import Derived.Test.YtehmbhdapgkbcaaGeo
namespace Go.Proofs.Ytehmbhdapgkbcaa

def Nd.kid (n : Nd) (q : Nat) : Nat := if q = 0 then n.k0 else if q = 1 then n.k1 else if q = 2 then n.k2 else n.k3

/-- A cell within the square of 2 ^ L points on a side. -/
def InSq (L : Nat) (x y : Int) (c : Cl) : Prop := x ≤ c.a ∧ c.a < x + 2 ^ L ∧ y ≤ c.b ∧ c.b < y + 2 ^ L

theorem pow_more (f : Nat) : (2 : Int) ^ (f + 1) = 2 * 2 ^ f := by rw [Int.pow_succ]; omega

theorem InSq.quad {L : Nat} {x y : Int} {c : Cl} (h : InSq (L + 1) x y c) : InSq L (quadA L x c.a) (quadA L y c.b) c := by
  unfold InSq quadA at *
  rw [pow_more] at h
  have p : (0 : Int) < 2 ^ L := Int.pow_pos (by omega)
  generalize (2 : Int) ^ L = z at *
  split <;> split <;> omega

theorem quad_lt (L : Nat) (x y a b : Int) : quad L x y a b < 4 := by unfold quad; split <;> split <;> omega

section
variable {ns : List Nd}

theorem mem_quad (w : WF ns) {f i : Nat} {x y : Int} {c : Cl} (hi : i < ns.length) (hl : (ndAt ns i).lv = f + 3) (h : InSq (f + 3) x y c) :
    c ∈ cl ns (f + 1) i x y ↔ c ∈ cl ns f ((ndAt ns i).kid (quad (f + 2) x y c.a c.b)) (quadA (f + 2) x c.a) (quadA (f + 2) y c.b) := by
  obtain ⟨h0, h1, h2, h3, l0, l1, l2, l3, _, _⟩ := w.join hi hl
  have r0 := cl_range w f _ x y (by omega) l0 c
  have r1 := cl_range w f _ (x + 2 ^ (f + 2)) y (by omega) l1 c
  have r2 := cl_range w f _ x (y + 2 ^ (f + 2)) (by omega) l2 c
  have r3 := cl_range w f _ (x + 2 ^ (f + 2)) (y + 2 ^ (f + 2)) (by omega) l3 c
  have p : (0 : Int) < 2 ^ (f + 2) := Int.pow_pos (by omega)
  unfold InSq at h
  rw [pow_more (f + 2)] at h
  simp only [cl, List.mem_append, quad, quadA]
  generalize (2 : Int) ^ (f + 2) = z at *
  by_cases c1 : x + z ≤ c.a <;> by_cases c2 : y + z ≤ c.b <;> simp only [c1, c2, if_true, if_false, Nd.kid, Nat.add_zero, Nat.zero_add, Nat.reduceAdd, Nat.reduceEqDiff, Nat.succ_ne_self]
  all_goals
    constructor
    · intro hc
      rcases hc with hc | hc | hc | hc
      all_goals first | exact hc | (exfalso; first | (have := r0 hc; omega) | (have := r1 hc; omega) | (have := r2 hc; omega) | (have := r3 hc; omega))
    · intro hc
      first | exact .inl hc | exact .inr (.inl hc) | exact .inr (.inr (.inl hc)) | exact .inr (.inr (.inr hc))

/-- The kids of a node, one of them exchanged. -/
def setKid (n : Nd) (q r : Nat) (k : Nat) : Nat := if k = q then r else n.kid k

theorem mem_bit {f k : Nat} {x y : Int} {d : Cl} : d ∈ leafCl f x y ↔ ∃ k, k < 32 ∧ f.testBit k = true ∧ bitCl x y k = d := by
  unfold leafCl
  rw [List.mem_map]
  constructor
  · rintro ⟨k, hk, rfl⟩
    exact ⟨k, (bitsOf_lt hk).1, (bitsOf_lt hk).2, rfl⟩
  · rintro ⟨k, h1, h2, rfl⟩
    exact ⟨k, by unfold bitsOf; simp [h1, h2], rfl⟩

theorem bitCl_bitAt {x y : Int} {c : Cl} (hx : x % 4 = 0) (hy : y % 4 = 0) (h : InSq 2 x y c) (h0 : 0 ≤ c.h) (h1 : c.h ≤ 1) : bitCl x y (bitAt c.a c.b c.h) = c := by
  unfold InSq at h
  have e : (2 : Int) ^ 2 = 4 := rfl
  rw [e] at h
  apply Cl.eq <;> simp only [bitCl, bitAt] <;> omega

theorem mem_setB {f : Nat} {x y : Int} {c d : Cl} (live : Bool) (hx : x % 4 = 0) (hy : y % 4 = 0) (h : InSq 2 x y c) (h0 : 0 ≤ c.h) (h1 : c.h ≤ 1) :
    d ∈ leafCl (setB f (bitAt c.a c.b c.h) live) x y ↔ if d = c then live = true else d ∈ leafCl f x y := by
  have hk := bitAt_lt (a := c.a) (b := c.b) h0 h1
  have hc := bitCl_bitAt hx hy h h0 h1
  generalize bitAt c.a c.b c.h = k at *
  by_cases e : d = c
  · rw [if_pos e, e, ← hc, mem_leafCl hk, setB_bit, if_pos rfl]
  · rw [if_neg e, mem_bit (k := k), mem_bit (k := k)]
    constructor
    · rintro ⟨j, hj, ht, rfl⟩
      rw [setB_bit, if_neg (fun ej => e (by rw [ej, hc]))] at ht
      exact ⟨j, hj, ht, rfl⟩
    · rintro ⟨j, hj, ht, rfl⟩
      exact ⟨j, hj, by rw [setB_bit, if_neg (fun ej => e (by rw [ej, hc]))]; exact ht, rfl⟩

/-- A node whose kid at a cell is exchanged for one in which that cell alone has turned: so has the node. -/
theorem mem_set (w : WF ns) {A' : List Nd} (w' : WF A') {f i j r : Nat} {x y : Int} {c : Cl} {live : Bool} (hi : i < ns.length) (hl : (ndAt ns i).lv = f + 3) (h : InSq (f + 3) x y c)
    (hj : j < A'.length) (hlj : (ndAt A' j).lv = f + 3)
    (hk : ∀ q, q < 4 → (ndAt A' j).kid q = setKid (ndAt ns i) (quad (f + 2) x y c.a c.b) r q)
    (hold : ∀ k a b, k < i → (ndAt ns k).lv = f + 2 → cl A' f k a b = cl ns f k a b)
    (hr : ∀ d, d ∈ cl A' f r (quadA (f + 2) x c.a) (quadA (f + 2) y c.b) ↔ if d = c then live = true else d ∈ cl ns f ((ndAt ns i).kid (quad (f + 2) x y c.a c.b)) (quadA (f + 2) x c.a) (quadA (f + 2) y c.b)) (d : Cl) :
    d ∈ cl A' (f + 1) j x y ↔ if d = c then live = true else d ∈ cl ns (f + 1) i x y := by
  by_cases e : d = c
  · rw [if_pos e, e, mem_quad w' hj hlj h, hk _ (quad_lt _ _ _ _ _), setKid, if_pos rfl, hr, if_pos rfl]
  · rw [if_neg e]
    obtain ⟨h0, h1, h2, h3, l0, l1, l2, l3, _, _⟩ := w.join hi hl
    have o0 := fun a b => hold _ a b h0 l0
    have o1 := fun a b => hold _ a b h1 l1
    have o2 := fun a b => hold _ a b h2 l2
    have o3 := fun a b => hold _ a b h3 l3
    have k0 := hk 0 (by omega)
    have k1 := hk 1 (by omega)
    have k2 := hk 2 (by omega)
    have k3 := hk 3 (by omega)
    have hrd := hr d
    rw [if_neg e] at hrd
    simp only [cl, List.mem_append]
    simp only [Nd.kid, setKid, quad, quadA] at k0 k1 k2 k3 hrd
    by_cases c1 : x + 2 ^ (f + 2) ≤ c.a <;> by_cases c2 : y + 2 ^ (f + 2) ≤ c.b <;> simp [c1, c2] at k0 k1 k2 k3 hrd <;> rw [k0, k1, k2, k3] <;> simp only [o0, o1, o2, o3, hrd]
end

end Go.Proofs.Ytehmbhdapgkbcaa
