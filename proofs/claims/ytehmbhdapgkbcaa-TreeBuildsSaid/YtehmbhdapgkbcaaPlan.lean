/- A region that draws its order, walked in ONE order: operations that only read (under a condition S on the world) are taken as soon as may be; one that writes or calls comes up only where it alone may; S need not hold behind the last one. -/
import Derived.Deep.RegionHeld3
import Derived.StillTail
namespace Go.Proofs.Ytehmbhdapgkbcaa

section
variable {P : Program} {ops : Array Oper} {Q : Exit → Act → World → Prop} {md : Region.Mode} {S : World → Prop}

def wpAnyT (P : Program) (md : Region.Mode) (ops : Array Oper) (Q : Exit → Act → World → Prop) (S : World → Prop) (n : Nat) : Nat → Array Bool → Act → World → Prop
  | 0, listed, a, w => Region.ready md ops listed = [] ∧ Q .normal a w
  | fuel + 1, listed, a, w =>
    (Region.ready md ops listed = [] → Q .normal a w) ∧
    ∀ i ∈ Region.ready md ops listed, wpOp P ops Q i (fun a' w' => (i < n → S w → S w') ∧ wpAnyT P md ops Q S n fuel (listed.setIfInBounds i true) a' w') a w

theorem wpAny_of_T {n : Nat} : ∀ (fuel : Nat) (listed : Array Bool) (a : Act) (w : World), wpAnyT P md ops Q S n fuel listed a w → wpAny P md ops Q fuel listed a w
  | 0, _, _, _, h => h
  | fuel + 1, _, _, _, h => ⟨h.1, fun i hi => wpOp_mono (fun a' w' h' => wpAny_of_T fuel _ a' w' h'.2) (h.2 i hi)⟩

/-- Each of the first n, but for those of E, has one behind it that waits for it. -/
def sinkE (md : Region.Mode) (ops : Array Oper) (n : Nat) (E : List Nat) : Bool :=
  (List.range n).all fun i => E.contains i || (List.range (n + 1)).any fun j => decide (i < j) && !E.contains j && Region.waitsFor md ops j i

theorem tail_waitsE {n : Nat} {E : List Nat} {listed : Array Bool} (hs : sinkE md ops n E = true) (hc : Region.chainB md ops n = true) (hn : n < ops.size) (inv : HeadInv md ops n listed) :
    ∀ (d i : Nat), n - i = d → i < n → E.contains i = false → listed.getD i true = false → ∀ t, n ≤ t → t ∉ Region.ready md ops listed := by
  intro d
  induction d using Nat.strongRecOn with
  | _ d ih =>
    intro i hd hi hiE hun t ht hr
    obtain ⟨_, ot, hot, hall⟩ := mem_ready.1 hr
    have htlt : t < ops.size := (Array.getElem?_eq_some_iff.1 hot).1
    by_cases htn : t = n
    · subst htn
      have h1 := List.all_eq_true.1 hs i (List.mem_range.2 hi)
      rw [hiE, Bool.false_or] at h1
      obtain ⟨j, hj, hj2⟩ := List.any_eq_true.1 h1
      simp only [Bool.and_eq_true, decide_eq_true_eq, Bool.not_eq_true'] at hj2
      obtain ⟨oj, hoj, e, he, hb, hon⟩ := Region.waitsFor_spec hj2.2
      have hjle : j ≤ t := by have := List.mem_range.1 hj; omega
      by_cases hjt : j = t
      · subst hjt
        have : oj = ot := Option.some.inj (hoj.symm.trans hot)
        subst this
        have h2 := hall e he hb
        rw [hon, getD_both hun] at h2
        cases h2
      · cases hl : listed.getD j false with
        | true =>
          have h2 := inv.closed j oj hoj hl e he hb
          rw [hon, getD_both hun] at h2
          cases h2
        | false =>
          have hjs : j < listed.size := by rw [inv.size]; omega
          exact ih (t - j) (by omega) j rfl (by omega) hj2.1.2 (getD_in hjs hl) t (Nat.le_refl _) hr
    · have h1 := List.all_eq_true.1 hc t (List.mem_range.2 htlt)
      simp only [Bool.or_eq_true, decide_eq_true_eq] at h1
      rcases h1 with h1 | h1
      · omega
      · obtain ⟨o', ho', e, he, hb, hon⟩ := Region.waitsFor_spec h1
        have : o' = ot := Option.some.inj (ho'.symm.trans hot)
        subst this
        have h2 := hall e he hb
        rw [hon, getD_both (inv.tail (t - 1) (by omega) (by omega))] at h2
        cases h2

theorem wpAnyT_first {n i : Nat} {E : List Nat} {oi : Oper} {v : Value} (hi : ops[i]? = some oi) (hsel : ∀ (j : Nat) (o : Oper) cs b, ops[j]? = some o → o.op ≠ .select cs b)
    (hQ : ∀ c a w, Q (.panic c) (a.put oi.dst v) w → Q (.panic c) a w)
    (hs : sinkE md ops n E = true) (hc : Region.chainB md ops n = true) (hn : n < ops.size) (hin : i < n) (hiE : E.contains i = false) :
    ∀ (fuel : Nat) (listed : Array Bool) (a : Act) (w : World), HeadInv md ops n listed →
      (∀ j oj, ops[j]? = some oj → j ≠ i → listed.getD j true = false → (∀ e ∈ oj.after, Region.binds md e = true → e.on ≠ i) → oi.apart ops oj = true) →
      i ∈ Region.ready md ops listed → YieldsIf P ops S oi v a → S w →
      wpAnyT P md ops Q S n fuel (listed.setIfInBounds i true) (a.put oi.dst v) w → wpAnyT P md ops Q S n (fuel + 1) listed a w := by
  intro fuel
  induction fuel with
  | zero =>
    intro listed a w _ _ hr hy hS H
    refine ⟨fun h => (by rw [h] at hr; cases hr), fun j hj => ?_⟩
    by_cases hji : j = i
    · subst hji; exact hy.wpOp hi hS ⟨fun _ h => h, H⟩
    · have := ready_mono hj hji
      rw [H.1] at this
      cases this
  | succ fuel ih =>
    intro listed a w inv hfree hr hy hS H
    refine ⟨fun h => (by rw [h] at hr; cases hr), fun j hj => ?_⟩
    by_cases hji : j = i
    · subst hji; exact hy.wpOp hi hS ⟨fun _ h => h, H⟩
    · have h1 := H.2 j (ready_mono hj hji)
      have hun := (mem_ready.1 hr).1
      have hjn : j < n := by
        rcases Nat.lt_or_ge j n with h | h
        · exact h
        · exact absurd hj (tail_waitsE hs hc hn inv _ i rfl hin hiE hun j h)
      obtain ⟨hjun, oj, hoj, hall⟩ := mem_ready.1 hj
      have hnot : ∀ e ∈ oj.after, Region.binds md e = true → e.on ≠ i := fun e he hb heq => by
        have h1 := hall e he hb
        rw [heq, getD_both hun] at h1
        cases h1
      have h2 := wpOp_putIf hoj (hfree j oj hoj hji hjun hnot) (fun cs b => hsel i oi cs b hi) (fun cs b => hsel j oj cs b hoj) hQ hy h1
      have hfree' : ∀ k ok, ops[k]? = some ok → k ≠ i → (listed.setIfInBounds j true).getD k true = false →
          (∀ e ∈ ok.after, Region.binds md e = true → e.on ≠ i) → oi.apart ops ok = true := fun k ok hk hki hun hno => by
        refine hfree k ok hk hki ?_ hno
        by_cases hjk : j = k
        · subst hjk; exact hjun
        · rw [getD_set_ne true hjk] at hun; exact hun
      refine wpOp_mono (fun a' w' h3 => ⟨h3.2.1, ih (listed.setIfInBounds j true) a' w' (inv.set hj hjn) hfree' (ready_mono hr (Ne.symm hji)) h3.1 (h3.2.1 hjn hS) ?_⟩) h2
      rw [Array.setIfInBounds_comm _ _ hji]
      exact h3.2.2

/-- One that looks at no world. -/
theorem wpAnyT_pure {n i : Nat} {oi : Oper} {v : Value} (hi : ops[i]? = some oi) (hsel : ∀ (j : Nat) (o : Oper) cs b, ops[j]? = some o → o.op ≠ .select cs b)
    (hQ : ∀ c a w, Q (.panic c) (a.put oi.dst v) w → Q (.panic c) a w) :
    ∀ (fuel : Nat) (listed : Array Bool) (a : Act) (w : World),
      (∀ j oj, ops[j]? = some oj → j ≠ i → listed.getD j true = false → (∀ e ∈ oj.after, Region.binds md e = true → e.on ≠ i) → oi.apart ops oj = true) →
      i ∈ Region.ready md ops listed → YieldsIf P ops (fun _ => True) oi v a →
      wpAnyT P md ops Q S n fuel (listed.setIfInBounds i true) (a.put oi.dst v) w → wpAnyT P md ops Q S n (fuel + 1) listed a w := by
  intro fuel
  induction fuel with
  | zero =>
    intro listed a w _ hr hy H
    refine ⟨fun h => (by rw [h] at hr; cases hr), fun j hj => ?_⟩
    by_cases hji : j = i
    · subst hji; exact hy.wpOp hi trivial ⟨fun _ h => h, H⟩
    · have := ready_mono hj hji
      rw [H.1] at this
      cases this
  | succ fuel ih =>
    intro listed a w hfree hr hy H
    refine ⟨fun h => (by rw [h] at hr; cases hr), fun j hj => ?_⟩
    by_cases hji : j = i
    · subst hji; exact hy.wpOp hi trivial ⟨fun _ h => h, H⟩
    · have h1 := H.2 j (ready_mono hj hji)
      have hun := (mem_ready.1 hr).1
      obtain ⟨hjun, oj, hoj, hall⟩ := mem_ready.1 hj
      have hnot : ∀ e ∈ oj.after, Region.binds md e = true → e.on ≠ i := fun e he hb heq => by
        have h1 := hall e he hb
        rw [heq, getD_both hun] at h1
        cases h1
      have h2 := wpOp_putIf hoj (hfree j oj hoj hji hjun hnot) (fun cs b => hsel i oi cs b hi) (fun cs b => hsel j oj cs b hoj) hQ hy h1
      have hfree' : ∀ k ok, ops[k]? = some ok → k ≠ i → (listed.setIfInBounds j true).getD k true = false →
          (∀ e ∈ ok.after, Region.binds md e = true → e.on ≠ i) → oi.apart ops ok = true := fun k ok hk hki hun hno => by
        refine hfree k ok hk hki ?_ hno
        by_cases hjk : j = k
        · subst hjk; exact hjun
        · rw [getD_set_ne true hjk] at hun; exact hun
      refine wpOp_mono (fun a' w' h3 => ⟨h3.2.1, ih (listed.setIfInBounds j true) a' w' hfree' (ready_mono hr (Ne.symm hji)) h3.1 ?_⟩) h2
      rw [Array.setIfInBounds_comm _ _ hji]
      exact h3.2.2

/-- The plan: quiet operations in an order in which each may come up (those of E look at no world); at one of X it alone may. -/
def planB (md : Region.Mode) (ops : Array Oper) (n : Nat) (X E : List Nat) : List Nat → Array Bool → Bool
  | [], listed => (Region.ready md ops listed).isEmpty
  | i :: rest, listed =>
    (if X.contains i then decide (Region.ready md ops listed = [i]) && (match ops[i]? with | some o => o.guard.isNone | none => false)
     else (Region.ready md ops listed).contains i && Region.free md ops listed i && decide (i < n)) &&
    planB md ops n X E rest (listed.setIfInBounds i true)

def wpPlan (P : Program) (ops : Array Oper) (Q : Exit → Act → World → Prop) (S : World → Prop) (n : Nat) (X E : List Nat) : List Nat → Act → World → Prop
  | [], a, w => Q .normal a w
  | i :: rest, a, w => match ops[i]? with
    | none => False
    | some o =>
      if X.contains i then o.wp P a w (fun a' w' => (i < n → S w') ∧ wpPlan P ops Q S n X E rest a' w') Q
      else ∃ v, YieldsIf P ops (fun w => E.contains i = false → S w) o v a ∧ wpPlan P ops Q S n X E rest (a.put o.dst v) w

/-- Behind an operation of the tail none comes that reads. -/
def tailOk (n : Nat) (X E : List Nat) : List Nat → Bool
  | [] => true
  | i :: rest => (rest.all (fun x => X.contains x || E.contains x) || decide (i < n)) && tailOk n X E rest

theorem wpAnyT_plan {n : Nat} {X E : List Nat} (hsel : Region.noSelect ops = true) (hQ : ∀ c a d v w, Q (.panic c) (a.put d v) w → Q (.panic c) a w)
    (hs : sinkE md ops n E = true) (hc : Region.chainB md ops n = true) (hn : n < ops.size) :
    ∀ (l : List Nat) (listed : Array Bool) (a : Act) (w : World), (l.all (fun x => X.contains x || E.contains x) = false → HeadInv md ops n listed) → (l.all (fun x => X.contains x || E.contains x) = false → S w) → planB md ops n X E l listed = true → wpPlan P ops Q S n X E l a w →
    tailOk n X E l = true → wpAnyT P md ops Q S n l.length listed a w
  | [], listed, a, w, _, _, hB, h, _ => ⟨by simpa [planB] using hB, h⟩
  | i :: rest, listed, a, w, inv', hS', hB, h, hlast => by
    simp only [planB, Bool.and_eq_true] at hB
    obtain ⟨hB1, hB3⟩ := hB
    simp only [wpPlan] at h
    simp only [tailOk, Bool.and_eq_true, Bool.or_eq_true, decide_eq_true_eq] at hlast
    obtain ⟨hl1, hlast'⟩ := hlast
    have hrestlt : rest.all (fun x => X.contains x || E.contains x) = false → i < n := fun hne => hl1.resolve_left (by rw [hne]; simp)
    have hrest : rest.all (fun x => X.contains x || E.contains x) = false → (i :: rest).all (fun x => X.contains x || E.contains x) = false := fun hne => by rw [List.all_cons, hne, Bool.and_false]
    cases ho : ops[i]? with
    | none => rw [ho] at h; exact h.elim
    | some o =>
      rw [ho] at h
      dsimp only at h
      by_cases hX : X.contains i = true
      · rw [if_pos hX] at h hB1
        simp only [Bool.and_eq_true, decide_eq_true_eq] at hB1
        obtain ⟨hr, hg⟩ := hB1
        rw [ho] at hg
        refine ⟨fun h0 => (by rw [hr] at h0; cases h0), fun j hj => ?_⟩
        rw [hr] at hj
        have hji : j = i := by simpa using hj
        subst hji
        have hw : Region.wanted o (yielded ops a.tmps) = true := by
          have : o.guard = none := by simpa using hg
          simp [Region.wanted, this]
        unfold wpOp
        simp only [ho, hw, if_true]
        refine .inl (Oper.wp_mono (fun a' w' hk => ⟨fun h _ => hk.1 h, ?_⟩) h)
        have hji : j ∈ Region.ready md ops listed := by rw [hr]; simp
        exact wpAnyT_plan hsel hQ hs hc hn rest _ a' w' (fun hne => (inv' (hrest hne)).set hji (hrestlt hne)) (fun hne => hk.1 (hrestlt hne)) hB3 hk.2 hlast'
      · rw [if_neg hX] at h hB1
        simp only [Bool.and_eq_true, decide_eq_true_eq] at hB1
        obtain ⟨⟨hr, hf⟩, hin⟩ := hB1
        obtain ⟨v, hy, hK⟩ := h
        have hr' : i ∈ Region.ready md ops listed := by simpa using hr
        have hrec := wpAnyT_plan hsel hQ hs hc hn rest _ _ w (fun hne => (inv' (hrest hne)).set hr' hin) (fun hne => hS' (hrest hne)) hB3 hK hlast'
        cases hE : E.contains i with
        | true =>
          rw [hE] at hy
          exact wpAnyT_pure ho (Region.noSelect_spec hsel) (fun c a w => hQ c a _ _ w) rest.length listed a w (Region.free_spec ho hf) hr' (hy.imp (fun h => ⟨h.1, fun w _ => h.2 w (fun h => by cases h)⟩) id) hrec
        | false =>
          have hall : (i :: rest).all (fun x => X.contains x || E.contains x) = false := by rw [List.all_cons, Bool.eq_false_iff.2 hX, hE]; rfl
          exact wpAnyT_first ho (Region.noSelect_spec hsel) (fun c a w => hQ c a _ _ w) hs hc hn hin hE rest.length listed a w (inv' hall) (Region.free_spec ho hf) hr' (hy.imp (fun h => ⟨h.1, fun w hw => h.2 w (fun _ => hw)⟩) id) (hS' hall) hrec

/-- What the plan asks of the region itself: a closed fact. -/
def planOkN (ops : Array Oper) (n : Nat) (X E l : List Nat) : Bool :=
  Region.noSelect ops && decide (l.length = ops.size) && decide (n < ops.size) && sinkE .any ops n E && Region.chainB .any ops n &&
  tailOk n X E l && planB .any ops n X E l (Array.replicate ops.size false)

theorem wp_region_planN {id : Nat} {a : Act} {w : World} (n : Nat) (S : World → Prop) (X E l : List Nat) (hm : P.follows .mixedOrders = true) (hB : planOkN ops n X E l = true)
    (hQ : ∀ c a d v w, Q (.panic c) (a.put d v) w → Q (.panic c) a w) (hS : S w.drew)
    (h : wpPlan P ops Q S n X E l a w.drew) : (Code.region id ops true).wp P Q a w := by
  simp only [planOkN, Bool.and_eq_true, decide_eq_true_eq] at hB
  obtain ⟨⟨⟨⟨⟨⟨hsel, hlen⟩, hn⟩, hs⟩, hc⟩, hlast⟩, hplan⟩ := hB
  refine wp_region_any hm (wpAny_of_T (S := S) (n := n) _ _ _ _ ?_)
  have inv0 : HeadInv .any ops n (Array.replicate ops.size false) :=
    ⟨by simp, fun j oj _ hl => (by rw [getD_replicate_false] at hl; cases hl), fun t _ ht => getD_in (by simpa using ht) (getD_replicate_false _ _)⟩
  have := wpAnyT_plan (P := P) (Q := Q) (S := S) (md := .any) hsel hQ hs hc hn l _ a w.drew (fun _ => inv0) (fun _ => hS) hplan h hlast
  rw [hlen] at this
  exact this

def planOk (ops : Array Oper) (X l : List Nat) : Bool := planOkN ops (ops.size - 1) X [] l
theorem wp_region_plan {id : Nat} {a : Act} {w : World} (S : World → Prop) (X l : List Nat) (hm : P.follows .mixedOrders = true) (hB : planOk ops X l = true)
    (hQ : ∀ c a d v w, Q (.panic c) (a.put d v) w → Q (.panic c) a w) (hS : S w.drew)
    (h : wpPlan P ops Q S (ops.size - 1) X [] l a w.drew) : (Code.region id ops true).wp P Q a w := wp_region_planN _ S X [] l hm hB hQ hS h

/-! The steps, with what follows behind a variable. -/
theorem wpPlan_q {ol : List Oper} {n i : Nat} {X E rest : List Nat} {a : Act} {w : World} {o : Oper} {v : Value} (ho : ol[i]? = some o) (hX : X.contains i = false) (hg : Region.wanted o (yielded ol.toArray a.tmps) = true)
    (hy : ∀ w, S w → (execOp a.eval o).run P w = .ok (.value v) w) (h : wpPlan P ol.toArray Q S n X E rest (a.put o.dst v) w) (hE : E.contains i = false := by rfl) : wpPlan P ol.toArray Q S n X E (i :: rest) a w := by
  unfold wpPlan
  have ho' : ol.toArray[i]? = some o := by simpa using ho
  simp only [ho', hX, Bool.false_eq_true, if_false]
  exact ⟨v, .inl ⟨hg, fun w hw => hy w (hw hE)⟩, h⟩
theorem wpPlan_p {ol : List Oper} {n i : Nat} {X E rest : List Nat} {a : Act} {w : World} {o : Oper} {v : Value} (ho : ol[i]? = some o) (hX : X.contains i = false) (hg : Region.wanted o (yielded ol.toArray a.tmps) = true)
    (hy : ∀ w, (execOp a.eval o).run P w = .ok (.value v) w) (h : wpPlan P ol.toArray Q S n X E rest (a.put o.dst v) w) : wpPlan P ol.toArray Q S n X E (i :: rest) a w := by
  unfold wpPlan
  have ho' : ol.toArray[i]? = some o := by simpa using ho
  simp only [ho', hX, Bool.false_eq_true, if_false]
  exact ⟨v, .inl ⟨hg, fun w _ => hy w⟩, h⟩
theorem wpPlan_x {ol : List Oper} {n i : Nat} {X E rest : List Nat} {a : Act} {w : World} {o : Oper} (ho : ol[i]? = some o) (hX : X.contains i = true)
    (h : ∀ K : Act → World → Prop, (∀ a' w', (i < n → S w') → wpPlan P ol.toArray Q S n X E rest a' w' → K a' w') → o.wp P a w K Q) : wpPlan P ol.toArray Q S n X E (i :: rest) a w := by
  unfold wpPlan
  have ho' : ol.toArray[i]? = some o := by simpa using ho
  simp only [ho', hX, if_true]
  exact h _ fun a' w' h1 h2 => ⟨h1, h2⟩
theorem wpPlan_nil {n : Nat} {X E : List Nat} {a : Act} {w : World} (h : Q .normal a w) : wpPlan P ops Q S n X E [] a w := h
end
end Go.Proofs.Ytehmbhdapgkbcaa
