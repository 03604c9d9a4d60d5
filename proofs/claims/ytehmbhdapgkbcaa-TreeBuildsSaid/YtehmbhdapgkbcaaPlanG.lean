/- Plans, whose operations walked by hand may be guarded. As Plan. -/
import Derived.Test.YtehmbhdapgkbcaaPlan
namespace Go.Proofs.Ytehmbhdapgkbcaa

section
variable {P : Program} {ops : Array Oper} {Q : Exit → Act → World → Prop} {md : Region.Mode} {S : World → Prop}

/-- The plan: quiet operations in an order in which each may come up (those of E look at no world); at one of X it alone may. -/
def planBG (md : Region.Mode) (ops : Array Oper) (n : Nat) (X E : List Nat) : List Nat → Array Bool → Bool
  | [], listed => (Region.ready md ops listed).isEmpty
  | i :: rest, listed =>
    (if X.contains i then decide (Region.ready md ops listed = [i])
     else (Region.ready md ops listed).contains i && Region.free md ops listed i && decide (i < n)) &&
    planBG md ops n X E rest (listed.setIfInBounds i true)

def wpPlanG (P : Program) (ops : Array Oper) (Q : Exit → Act → World → Prop) (S : World → Prop) (n : Nat) (X E : List Nat) : List Nat → Act → World → Prop
  | [], a, w => Q .normal a w
  | i :: rest, a, w => match ops[i]? with
    | none => False
    | some o =>
      if X.contains i then Region.wanted o (yielded ops a.tmps) = true ∧ o.wp P a w (fun a' w' => (i < n → S w') ∧ wpPlanG P ops Q S n X E rest a' w') Q
      else ∃ v, YieldsIf P ops (fun w => E.contains i = false → S w) o v a ∧ wpPlanG P ops Q S n X E rest (a.put o.dst v) w

theorem wpAnyT_planG {n : Nat} {X E : List Nat} (hsel : Region.noSelect ops = true) (hQ : ∀ c a d v w, Q (.panic c) (a.put d v) w → Q (.panic c) a w)
    (hs : sinkE md ops n E = true) (hc : Region.chainB md ops n = true) (hn : n < ops.size) :
    ∀ (l : List Nat) (listed : Array Bool) (a : Act) (w : World), (l.all (fun x => X.contains x || E.contains x) = false → HeadInv md ops n listed) → (l.all (fun x => X.contains x || E.contains x) = false → S w) → planBG md ops n X E l listed = true → wpPlanG P ops Q S n X E l a w →
    tailOk n X E l = true → wpAnyT P md ops Q S n l.length listed a w
  | [], listed, a, w, _, _, hB, h, _ => ⟨by simpa [planBG] using hB, h⟩
  | i :: rest, listed, a, w, inv', hS', hB, h, hlast => by
    simp only [planBG, Bool.and_eq_true] at hB
    obtain ⟨hB1, hB3⟩ := hB
    simp only [wpPlanG] at h
    simp only [tailOk, Bool.and_eq_true, Bool.or_eq_true, decide_eq_true_eq] at hlast
    obtain ⟨hl1, hlast'⟩ := hlast
    have hrestlt : rest.all (fun x => X.contains x || E.contains x) = false → i < n := fun hne => hl1.resolve_left (by rw [hne]; simp)
    have hrest : rest.all (fun x => X.contains x || E.contains x) = false → (i :: rest).all (fun x => X.contains x || E.contains x) = false := fun hne => by rw [List.all_cons, hne, Bool.and_false]
    cases ho : ops[i]? with
    | none => rw [ho] at h; exact h.elim
    | some o =>
      rw [ho] at h
      dsimp only at h
      by_cases hX : X.contains i = true
      · rw [if_pos hX] at h hB1
        simp only [decide_eq_true_eq] at hB1
        have hr := hB1
        obtain ⟨hw, h⟩ := h
        refine ⟨fun h0 => (by rw [hr] at h0; cases h0), fun j hj => ?_⟩
        rw [hr] at hj
        have hji : j = i := by simpa using hj
        subst hji
        unfold wpOp
        simp only [ho, hw, if_true]
        refine .inl (Oper.wp_mono (fun a' w' hk => ⟨fun h _ => hk.1 h, ?_⟩) h)
        have hji : j ∈ Region.ready md ops listed := by rw [hr]; simp
        exact wpAnyT_planG hsel hQ hs hc hn rest _ a' w' (fun hne => (inv' (hrest hne)).set hji (hrestlt hne)) (fun hne => hk.1 (hrestlt hne)) hB3 hk.2 hlast'
      · rw [if_neg hX] at h hB1
        simp only [Bool.and_eq_true, decide_eq_true_eq] at hB1
        obtain ⟨⟨hr, hf⟩, hin⟩ := hB1
        obtain ⟨v, hy, hK⟩ := h
        have hr' : i ∈ Region.ready md ops listed := by simpa using hr
        have hrec := wpAnyT_planG hsel hQ hs hc hn rest _ _ w (fun hne => (inv' (hrest hne)).set hr' hin) (fun hne => hS' (hrest hne)) hB3 hK hlast'
        cases hE : E.contains i with
        | true =>
          rw [hE] at hy
          exact wpAnyT_pure ho (Region.noSelect_spec hsel) (fun c a w => hQ c a _ _ w) rest.length listed a w (Region.free_spec ho hf) hr' (hy.imp (fun h => ⟨h.1, fun w _ => h.2 w (fun h => by cases h)⟩) id) hrec
        | false =>
          have hall : (i :: rest).all (fun x => X.contains x || E.contains x) = false := by rw [List.all_cons, Bool.eq_false_iff.2 hX, hE]; rfl
          exact wpAnyT_first ho (Region.noSelect_spec hsel) (fun c a w => hQ c a _ _ w) hs hc hn hin hE rest.length listed a w (inv' hall) (Region.free_spec ho hf) hr' (hy.imp (fun h => ⟨h.1, fun w hw => h.2 w (fun _ => hw)⟩) id) (hS' hall) hrec

/-- What the plan asks of the region itself: a closed fact. -/
def planOkG (ops : Array Oper) (n : Nat) (X E l : List Nat) : Bool :=
  Region.noSelect ops && decide (l.length = ops.size) && decide (n < ops.size) && sinkE .any ops n E && Region.chainB .any ops n &&
  tailOk n X E l && planBG .any ops n X E l (Array.replicate ops.size false)

theorem wp_region_planG {id : Nat} {a : Act} {w : World} (n : Nat) (S : World → Prop) (X E l : List Nat) (hm : P.follows .mixedOrders = true) (hB : planOkG ops n X E l = true)
    (hQ : ∀ c a d v w, Q (.panic c) (a.put d v) w → Q (.panic c) a w) (hS : S w.drew)
    (h : wpPlanG P ops Q S n X E l a w.drew) : (Code.region id ops true).wp P Q a w := by
  simp only [planOkG, Bool.and_eq_true, decide_eq_true_eq] at hB
  obtain ⟨⟨⟨⟨⟨⟨hsel, hlen⟩, hn⟩, hs⟩, hc⟩, hlast⟩, hplan⟩ := hB
  refine wp_region_any hm (wpAny_of_T (S := S) (n := n) _ _ _ _ ?_)
  have inv0 : HeadInv .any ops n (Array.replicate ops.size false) :=
    ⟨by simp, fun j oj _ hl => (by rw [getD_replicate_false] at hl; cases hl), fun t _ ht => getD_in (by simpa using ht) (getD_replicate_false _ _)⟩
  have := wpAnyT_planG (P := P) (Q := Q) (S := S) (md := .any) hsel hQ hs hc hn l _ a w.drew (fun _ => inv0) (fun _ => hS) hplan h hlast
  rw [hlen] at this
  exact this

/-! The steps, with what follows behind a variable. -/
theorem wpPlanG_q {ol : List Oper} {n i : Nat} {X E rest : List Nat} {a : Act} {w : World} {o : Oper} {v : Value} (ho : ol[i]? = some o) (hX : X.contains i = false) (hg : Region.wanted o (yielded ol.toArray a.tmps) = true)
    (hy : ∀ w, S w → (execOp a.eval o).run P w = .ok (.value v) w) (h : wpPlanG P ol.toArray Q S n X E rest (a.put o.dst v) w) (hE : E.contains i = false := by rfl) : wpPlanG P ol.toArray Q S n X E (i :: rest) a w := by
  unfold wpPlanG
  have ho' : ol.toArray[i]? = some o := by simpa using ho
  simp only [ho', hX, Bool.false_eq_true, if_false]
  exact ⟨v, .inl ⟨hg, fun w hw => hy w (hw hE)⟩, h⟩
theorem wpPlanG_p {ol : List Oper} {n i : Nat} {X E rest : List Nat} {a : Act} {w : World} {o : Oper} {v : Value} (ho : ol[i]? = some o) (hX : X.contains i = false) (hg : Region.wanted o (yielded ol.toArray a.tmps) = true)
    (hy : ∀ w, (execOp a.eval o).run P w = .ok (.value v) w) (h : wpPlanG P ol.toArray Q S n X E rest (a.put o.dst v) w) : wpPlanG P ol.toArray Q S n X E (i :: rest) a w := by
  unfold wpPlanG
  have ho' : ol.toArray[i]? = some o := by simpa using ho
  simp only [ho', hX, Bool.false_eq_true, if_false]
  exact ⟨v, .inl ⟨hg, fun w _ => hy w⟩, h⟩
theorem wpPlanG_x {ol : List Oper} {n i : Nat} {X E rest : List Nat} {a : Act} {w : World} {o : Oper} (ho : ol[i]? = some o) (hX : X.contains i = true) (hg : Region.wanted o (yielded ol.toArray a.tmps) = true)
    (h : ∀ K : Act → World → Prop, (∀ a' w', (i < n → S w') → wpPlanG P ol.toArray Q S n X E rest a' w' → K a' w') → o.wp P a w K Q) : wpPlanG P ol.toArray Q S n X E (i :: rest) a w := by
  unfold wpPlanG
  have ho' : ol.toArray[i]? = some o := by simpa using ho
  simp only [ho', hX, if_true]
  exact ⟨hg, h _ fun a' w' h1 h2 => ⟨h1, h2⟩⟩
theorem wpPlanG_nil {n : Nat} {X E : List Nat} {a : Act} {w : World} (h : Q .normal a w) : wpPlanG P ops Q S n X E [] a w := h
end
end Go.Proofs.Ytehmbhdapgkbcaa
