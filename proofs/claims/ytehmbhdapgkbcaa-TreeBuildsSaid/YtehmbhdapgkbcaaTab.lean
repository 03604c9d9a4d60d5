/- A hash table with open addressing, as lists of numbers: where a key is found, or would be put. Plain lists; no program. -/
import Init
namespace Go.Proofs.Ytehmbhdapgkbcaa

/-- One node: its level, its bits, its four kids, its count. -/
structure Nd where
  lv : Nat
  bits : Nat
  k0 : Nat
  k1 : Nat
  k2 : Nat
  k3 : Nat
  cnt : Nat
  deriving DecidableEq, Inhabited

abbrev Key := Nat × Nat × Nat × Nat × Nat × Nat
def Nd.key (n : Nd) : Key := (n.lv, n.bits, n.k0, n.k1, n.k2, n.k3)

/-- Of a list of numbers the one at a place; 0 beyond. -/
abbrev at0 (l : List Nat) (i : Nat) : Nat := l[i]?.getD 0
/-- The node at a place; an empty one beyond. -/
abbrev ndAt (l : List Nd) (i : Nat) : Nd := l[i]?.getD default

/-- The first j nodes, and no others, stand in the slots; each behind slots that are taken, from its hash on. -/
structure Tab (hf : Key → Nat) (ns : List Nd) (j : Nat) (sl : List Nat) : Prop where
  jle : j ≤ ns.length
  val : ∀ i, at0 sl i ≤ j
  inj : ∀ i i', i < sl.length → i' < sl.length → at0 sl i = at0 sl i' → at0 sl i ≠ 0 → i = i'
  path : ∀ v, v < j → ∃ d, d < sl.length ∧ at0 sl ((hf (ndAt ns v).key + d) % sl.length) = v + 1 ∧ ∀ d', d' < d → at0 sl ((hf (ndAt ns v).key + d') % sl.length) ≠ 0
  keys : ∀ u v, u < j → v < j → (ndAt ns u).key = (ndAt ns v).key → u = v

theorem pigeon (f : Nat → Nat) : ∀ (j n : Nat), (∀ i, i < n → 1 ≤ f i ∧ f i ≤ j) → (∀ i i', i < n → i' < n → f i = f i' → i = i') → n ≤ j := by
  intro j
  induction j generalizing f with
  | zero =>
    intro n h _
    rcases Nat.eq_zero_or_pos n with h0 | h0
    · omega
    · have := h 0 h0; omega
  | succ j ih =>
    intro n h hi
    by_cases hx : ∃ i, i < n ∧ f i = j + 1
    · obtain ⟨a, ha, hfa⟩ := hx
      have h2 : n - 1 ≤ j := by
        refine ih (fun i => if i < a then f i else f (i + 1)) (n - 1) ?_ ?_
        · intro i hin
          by_cases hia : i < a
          · simp only [hia, if_true]
            have h1 := h i (by omega)
            have : f i ≠ j + 1 := fun e => by have := hi i a (by omega) ha (by rw [e, hfa]); omega
            omega
          · simp only [hia, if_false]
            have h1 := h (i + 1) (by omega)
            have : f (i + 1) ≠ j + 1 := fun e => by have := hi (i + 1) a (by omega) ha (by rw [e, hfa]); omega
            omega
        · intro i i' hin hin' heq
          by_cases hia : i < a <;> by_cases hia' : i' < a <;> simp only [hia, hia', if_true, if_false] at heq
          · exact hi _ _ (by omega) (by omega) heq
          · have := hi _ _ (by omega) (by omega) heq; omega
          · have := hi _ _ (by omega) (by omega) heq; omega
          · have := hi _ _ (by omega) (by omega) heq; omega
      omega
    · have := ih f n (fun i hin => by
        have h1 := h i hin
        have : f i ≠ j + 1 := fun e => hx ⟨i, hin, e⟩
        omega) hi
      omega

theorem Tab.free {hf : Key → Nat} {ns : List Nd} {j : Nat} {sl : List Nat} (t : Tab hf ns j sl) (h : j < sl.length) : ∃ i, i < sl.length ∧ at0 sl i = 0 := by
  apply Classical.byContradiction
  intro hc
  have hall : ∀ i, i < sl.length → at0 sl i ≠ 0 := fun i hi e => hc ⟨i, hi, e⟩
  have := pigeon (at0 sl) j sl.length (fun i hi => ⟨Nat.pos_of_ne_zero (hall i hi), t.val i⟩) (fun i i' hi hi' he => t.inj i i' hi hi' he (hall i hi))
  omega

/-- From any place on, some steps further, a slot is free. -/
theorem Tab.free_from {hf : Key → Nat} {ns : List Nd} {j : Nat} {sl : List Nat} (t : Tab hf ns j sl) (h : j < sl.length) (s : Nat) : ∃ d, d < sl.length ∧ at0 sl ((s + d) % sl.length) = 0 := by
  obtain ⟨i, hi, h0⟩ := t.free h
  have hs : s % sl.length < sl.length := Nat.mod_lt _ (by omega)
  by_cases hle : s % sl.length ≤ i
  · refine ⟨i - s % sl.length, by omega, ?_⟩
    rw [Nat.add_mod, Nat.mod_eq_of_lt (show i - s % sl.length < sl.length by omega), show s % sl.length + (i - s % sl.length) = i by omega, Nat.mod_eq_of_lt hi]
    exact h0
  · refine ⟨i + sl.length - s % sl.length, by omega, ?_⟩
    rw [Nat.add_mod, Nat.mod_eq_of_lt (show i + sl.length - s % sl.length < sl.length by omega), show s % sl.length + (i + sl.length - s % sl.length) = i + sl.length by omega, Nat.add_mod_right, Nat.mod_eq_of_lt hi]
    exact h0

/-- What a look-up of a key comes to: the place of its node, or a free slot, and no node has it. -/
inductive Look (hf : Key → Nat) (ns : List Nd) (j : Nat) (sl : List Nat) (k : Key) (i : Nat) : Prop where
  | hit (v : Nat) (hv : v < j) (hi : i < sl.length) (hs : at0 sl i = v + 1) (hk : (ndAt ns v).key = k)
  | free (d : Nat) (hd : d < sl.length) (hi : i = (hf k + d) % sl.length) (hs : at0 sl i = 0) (hb : ∀ d', d' < d → at0 sl ((hf k + d') % sl.length) ≠ 0) (hn : ∀ v, v < j → (ndAt ns v).key ≠ k)

/-- The walk has come d steps, all slots taken, none of them with the key: one step more. -/
theorem Tab.look_free {hf : Key → Nat} {ns : List Nd} {j : Nat} {sl : List Nat} (t : Tab hf ns j sl) {k : Key} {d : Nat} (hd : d < sl.length)
    (hb : ∀ d', d' < d → at0 sl ((hf k + d') % sl.length) ≠ 0 ∧ (ndAt ns (at0 sl ((hf k + d') % sl.length) - 1)).key ≠ k)
    (h0 : at0 sl ((hf k + d) % sl.length) = 0) : Look hf ns j sl k ((hf k + d) % sl.length) := by
  refine .free d hd rfl h0 (fun d' h => (hb d' h).1) (fun v hv hk => ?_)
  obtain ⟨e, he, h1, h2⟩ := t.path v hv
  rw [hk] at h1 h2
  rcases Nat.lt_trichotomy e d with h | h | h
  · have := (hb e h).2
    rw [h1] at this
    exact this (by simpa using hk)
  · subst h; omega
  · exact h2 d h h0

theorem Tab.look_hit {hf : Key → Nat} {ns : List Nd} {j : Nat} {sl : List Nat} (t : Tab hf ns j sl) {k : Key} {i : Nat} (hi : i < sl.length) (h0 : at0 sl i ≠ 0)
    (hk : (ndAt ns (at0 sl i - 1)).key = k) : Look hf ns j sl k i :=
  .hit (at0 sl i - 1) (by have := t.val i; omega) hi (by omega) hk

theorem at0_set (l : List Nat) (i v x : Nat) (h : i < l.length) : at0 (l.set i v) x = if x = i then v else at0 l x := by
  unfold at0
  rw [List.getElem?_set]
  by_cases e : i = x
  · subst e; simp [h]
  · simp [e, Ne.symm e]

/-- The next node is put into the free slot. -/
theorem Tab.put {hf : Key → Nat} {ns : List Nd} {j : Nat} {sl : List Nat} (t : Tab hf ns j sl) {i : Nat} (hj : j < ns.length)
    (hl : Look hf ns j sl (ndAt ns j).key i) (h0 : at0 sl i = 0) : Tab hf ns (j + 1) (sl.set i (j + 1)) := by
  cases hl with
  | hit v hv hi hs hk => omega
  | free d hd hi hs hb hn =>
    have hil : i < sl.length := by rw [hi]; exact Nat.mod_lt _ (by omega)
    refine ⟨by omega, fun x => ?_, fun a b ha hb' he hne => ?_, fun v hv => ?_, fun u v hu hv he => ?_⟩
    · rw [at0_set _ _ _ _ hil]
      split
      · omega
      · have := t.val x; omega
    · rw [List.length_set] at ha hb'
      rw [at0_set _ _ _ _ hil] at he hne
      rw [at0_set _ _ _ _ hil] at he
      by_cases ea : a = i <;> by_cases eb : b = i <;> simp only [ea, eb, if_true, if_false] at he hne
      · omega
      · have := t.val b; omega
      · have := t.val a; omega
      · exact t.inj a b ha hb' he hne
    · rw [List.length_set]
      by_cases hvj : v = j
      · subst hvj
        refine ⟨d, hd, ?_, fun d' hd' => ?_⟩
        · rw [at0_set _ _ _ _ hil, if_pos (by rw [hi])]
        · rw [at0_set _ _ _ _ hil]
          split
          · omega
          · exact hb d' hd'
      · obtain ⟨e, he, h1, h2⟩ := t.path v (by omega)
        refine ⟨e, he, ?_, fun d' hd' => ?_⟩
        · rw [at0_set _ _ _ _ hil, if_neg (fun c => by rw [c] at h1; omega)]
          exact h1
        · rw [at0_set _ _ _ _ hil]
          split
          · omega
          · exact h2 d' hd'
    · by_cases hu' : u = j <;> by_cases hv' : v = j
      · omega
      · subst hu'; exact absurd he.symm (hn v (by omega))
      · subst hv'; exact absurd he (hn u (by omega))
      · exact t.keys u v (by omega) (by omega) he

/-- More nodes behind: the same slots. -/
theorem Tab.more {hf : Key → Nat} {ns : List Nd} {j : Nat} {sl : List Nat} (t : Tab hf ns j sl) (l : List Nd) : Tab hf (ns ++ l) j sl := by
  have e : ∀ v, v < j → ndAt (ns ++ l) v = ndAt ns v := fun v hv => by
    unfold ndAt; rw [List.getElem?_append_left (by have := t.jle; omega)]
  refine ⟨by have := t.jle; simp; omega, t.val, t.inj, fun v hv => ?_, fun u v hu hv he => ?_⟩
  · rw [e v hv]; exact t.path v hv
  · rw [e u hu, e v hv] at he; exact t.keys u v hu hv he

/-- No node stands in slots that are all free. -/
theorem Tab.none (hf : Key → Nat) (ns : List Nd) (n : Nat) : Tab hf ns 0 (List.replicate n 0) := by
  have z : ∀ i, at0 (List.replicate n 0) i = 0 := fun i => by
    unfold at0
    rw [List.getElem?_replicate]
    split <;> rfl
  exact ⟨Nat.zero_le _, fun i => by rw [z]; omega, fun i i' _ _ _ h => absurd (z i) h, fun v hv => by omega, fun u v hu => by omega⟩

theorem Look.lt {hf : Key → Nat} {ns : List Nd} {j : Nat} {sl : List Nat} {k : Key} {i : Nat} (h : Look hf ns j sl k i) : i < sl.length := by
  cases h with
  | hit v hv hi hs hk => exact hi
  | free d hd hi hs hb hn => rw [hi]; exact Nat.mod_lt _ (by omega)

end Go.Proofs.Ytehmbhdapgkbcaa
