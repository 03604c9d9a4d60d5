/- Cells in order, each once: as lists. Plain: nothing of the program. -/
import Derived.Test.YtehmbhdapgkbcaaTree
namespace Go.Proofs.Ytehmbhdapgkbcaa

/-- Is a cell ahead of another one, row by row? -/
def Cl.lt (c d : Cl) : Bool := decide (c.b < d.b) || (decide (c.b = d.b) && (decide (c.a < d.a) || (decide (c.a = d.a) && decide (c.h < d.h))))
theorem Cl.lt_iff {c d : Cl} : c.lt d = true ↔ c.b < d.b ∨ (c.b = d.b ∧ (c.a < d.a ∨ (c.a = d.a ∧ c.h < d.h))) := by simp [Cl.lt]
theorem Cl.lt_irrefl (c : Cl) : c.lt c = false := by
  cases h : c.lt c
  · rfl
  · rw [Cl.lt_iff] at h; omega
theorem Cl.lt_trans {c d e : Cl} (h : c.lt d = true) (k : d.lt e = true) : c.lt e = true := by
  rw [Cl.lt_iff] at *; omega
theorem Cl.lt_not {c d : Cl} (h : c.lt d = false) : d.lt c = true ∨ d = c := by
  have h' : ¬ (c.b < d.b ∨ (c.b = d.b ∧ (c.a < d.a ∨ (c.a = d.a ∧ c.h < d.h)))) := fun e => by rw [Cl.lt_iff.2 e] at h; cases h
  by_cases e : d = c
  · exact .inr e
  · left
    rw [Cl.lt_iff]
    have : ¬ (d.a = c.a ∧ d.b = c.b ∧ d.h = c.h) := fun ⟨x, y, z⟩ => e (Cl.eq x y z)
    omega
theorem Cl.lt_ne {c d : Cl} (h : c.lt d = true) : c ≠ d := fun e => by rw [e, Cl.lt_irrefl] at h; cases h
theorem Cl.lt_asymm {c d : Cl} (h : c.lt d = true) : d.lt c = false := by
  cases k : d.lt c
  · rfl
  · have := Cl.lt_trans h k; rw [Cl.lt_irrefl] at this; cases this

def Rise (l : List Cl) : Prop := l.Pairwise (fun c d => c.lt d = true)

/-- Two rising lists with the same cells are one. -/
theorem rise_ext : ∀ {l m : List Cl}, Rise l → Rise m → (∀ c, c ∈ l ↔ c ∈ m) → l = m
  | [], [], _, _, _ => rfl
  | [], y :: m, _, _, h => by have := (h y).2 (by simp); simp at this
  | x :: l, [], _, _, h => by have := (h x).1 (by simp); simp at this
  | x :: l, y :: m, hl, hm, h => by
    obtain ⟨a1, a2⟩ := List.pairwise_cons.1 hl
    obtain ⟨b1, b2⟩ := List.pairwise_cons.1 hm
    have e : x = y := by
      rcases List.mem_cons.1 ((h x).1 (by simp)) with hx | hx
      · exact hx
      · rcases List.mem_cons.1 ((h y).2 (by simp)) with hy | hy
        · exact hy.symm
        · have := Cl.lt_asymm (a1 y hy); rw [b1 x hx] at this; cases this
    subst e
    congr 1
    refine rise_ext a2 b2 fun c => ?_
    have hc := h c
    rw [List.mem_cons, List.mem_cons] at hc
    constructor
    · intro hcl
      rcases hc.1 (.inr hcl) with e | k
      · subst e; have := a1 c hcl; rw [Cl.lt_irrefl] at this; cases this
      · exact k
    · intro hcm
      rcases hc.2 (.inr hcm) with e | k
      · subst e; have := b1 c hcm; rw [Cl.lt_irrefl] at this; cases this
      · exact k
theorem Rise.nodup {l : List Cl} (h : Rise l) : l.Nodup := h.imp fun h => Cl.lt_ne h

/-- Put in, as the document has it: cell by cell. -/
def putIn (c : Cl) : Bool → List Cl → List Cl
  | done, [] => if done then [] else [c]
  | done, x :: r => (if !done && !x.lt c then [c] else []) ++ ((if x = c then [] else [x]) ++ putIn c (done || !x.lt c) r)

theorem putIn_done (c : Cl) : ∀ l : List Cl, putIn c true l = l.filter (fun x => decide (x ≠ c))
  | [] => rfl
  | x :: r => by
    simp only [putIn, Bool.not_true, Bool.false_and, Bool.true_or, putIn_done c r]
    by_cases e : x = c <;> simp [e]

theorem mem_putIn (c : Cl) : ∀ (l : List Cl) (d : Cl), d ∈ putIn c false l ↔ d = c ∨ d ∈ l
  | [], d => by simp [putIn]
  | x :: r, d => by
    simp only [putIn, Bool.not_false, Bool.true_and, Bool.false_or]
    cases hx : x.lt c
    · simp only [Bool.not_false, if_true, putIn_done, List.mem_append, List.mem_cons, List.not_mem_nil, or_false, List.mem_filter, decide_eq_true_eq]
      by_cases e : d = c
      · simp [e]
      · by_cases e2 : x = c
        · simp [e2, e]
        · simp [e2, e]
    · have hne := Cl.lt_ne hx
      simp only [Bool.not_true, if_neg hne, List.mem_append, mem_putIn c r d, List.mem_cons, List.not_mem_nil, or_false, Bool.false_eq_true, if_false]
      constructor
      · rintro (h | h | h | h) <;> simp_all
      · rintro (h | h | h) <;> simp_all

theorem rise_filter {l : List Cl} (p : Cl → Bool) (h : Rise l) : Rise (l.filter p) := List.Pairwise.filter p h

theorem rise_putIn (c : Cl) : ∀ {l : List Cl}, Rise l → Rise (putIn c false l)
  | [], _ => by simp [putIn, Rise]
  | x :: r, h => by
    obtain ⟨a1, a2⟩ := List.pairwise_cons.1 h
    simp only [putIn, Bool.not_false, Bool.true_and, Bool.false_or]
    cases hx : x.lt c
    · have hr : Rise (r.filter fun y => decide (y ≠ c)) := rise_filter _ a2
      have hcr : ∀ y ∈ r.filter (fun y => decide (y ≠ c)), c.lt y = true := fun y hy => by
        have hy' := (List.mem_filter.1 hy).1
        rcases Cl.lt_not hx with k | k
        · exact Cl.lt_trans k (a1 y hy')
        · rw [k]; exact a1 y hy'
      by_cases e : x = c
      · simp only [Bool.not_false, if_true, putIn_done, if_pos e, List.nil_append, List.cons_append]
        exact List.pairwise_cons.2 ⟨hcr, hr⟩
      · simp only [Bool.not_false, if_true, putIn_done, if_neg e, List.nil_append, List.cons_append]
        have hcx : c.lt x = true := (Cl.lt_not hx).resolve_right fun k => e k.symm
        refine List.pairwise_cons.2 ⟨fun y hy => ?_, List.pairwise_cons.2 ⟨fun y hy => a1 y (List.mem_filter.1 hy).1, hr⟩⟩
        rcases List.mem_cons.1 hy with rfl | hy
        · exact hcx
        · exact hcr y hy
    · have hne := Cl.lt_ne hx
      simp only [Bool.not_true, Bool.false_eq_true, if_false, if_neg hne, List.nil_append, List.cons_append]
      refine List.pairwise_cons.2 ⟨fun y hy => ?_, rise_putIn c a2⟩
      rcases (mem_putIn c r y).1 hy with rfl | hy
      · exact hx
      · exact a1 y hy

theorem putIn_le (c : Cl) : ∀ (b : Bool) (l : List Cl), (putIn c b l).length ≤ l.length + 1
  | b, [] => by cases b <;> simp [putIn]
  | true, x :: r => by
    rw [putIn_done]
    have := List.length_filter_le (fun x => decide (x ≠ c)) (x :: r)
    omega
  | false, x :: r => by
    simp only [putIn, Bool.not_false, Bool.true_and, Bool.false_or, List.length_append]
    have h2 := List.length_filter_le (fun x => decide (x ≠ c)) r
    cases hx : x.lt c
    · simp only [Bool.not_false, if_true, putIn_done, List.length_cons, List.length_nil]
      split <;> simp only [List.length_nil, List.length_cons] <;> omega
    · have := putIn_le c false r
      simp only [Bool.not_true, Bool.false_eq_true, if_false, List.length_nil, List.length_cons]
      split <;> simp <;> omega

/-- All, put in one behind the other. -/
def ofL (l : List Cl) : List Cl := l.foldl (fun acc c => putIn c false acc) []
theorem ofL_snoc (l : List Cl) (c : Cl) : ofL (l ++ [c]) = putIn c false (ofL l) := by simp [ofL]
theorem foldl_put (l acc : List Cl) (h : Rise acc) : Rise (l.foldl (fun acc c => putIn c false acc) acc) ∧ ∀ d, d ∈ l.foldl (fun acc c => putIn c false acc) acc ↔ d ∈ acc ∨ d ∈ l := by
  induction l generalizing acc with
  | nil => exact ⟨h, fun d => by simp⟩
  | cons x r ih =>
    have := ih _ (rise_putIn x h)
    refine ⟨this.1, fun d => ?_⟩
    rw [List.foldl_cons, this.2, mem_putIn, List.mem_cons]
    constructor
    · rintro ((h | h) | h) <;> simp_all
    · rintro (h | h | h) <;> simp_all
theorem rise_ofL (l : List Cl) : Rise (ofL l) := (foldl_put l [] List.Pairwise.nil).1
theorem mem_ofL {l : List Cl} {d : Cl} : d ∈ ofL l ↔ d ∈ l := by rw [ofL, (foldl_put l [] List.Pairwise.nil).2]; simp
theorem ofL_le (l : List Cl) : (ofL l).length ≤ l.length := by
  have : ∀ (l acc : List Cl), (l.foldl (fun acc c => putIn c false acc) acc).length ≤ acc.length + l.length := by
    intro l
    induction l with
    | nil => intro acc; simp
    | cons x r ih =>
      intro acc
      have h1 := ih (putIn x false acc)
      have h2 := putIn_le x false acc
      simp only [List.foldl_cons, List.length_cons] at *
      omega
  have := this l []
  simp only [List.length_nil, Nat.zero_add] at this
  exact this

/-- Without a cell. -/
def lessOf (c : Cl) (l : List Cl) : List Cl := l.filter fun x => decide (x ≠ c)
theorem mem_lessOf {c : Cl} {l : List Cl} {d : Cl} : d ∈ lessOf c l ↔ d ∈ l ∧ d ≠ c := by simp [lessOf]
theorem lessOf_le (c : Cl) (l : List Cl) : (lessOf c l).length ≤ l.length := List.length_filter_le _ _

end Go.Proofs.Ytehmbhdapgkbcaa
