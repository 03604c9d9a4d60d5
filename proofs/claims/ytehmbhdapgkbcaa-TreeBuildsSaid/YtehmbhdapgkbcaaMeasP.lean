/- Edges of a node: the plain part. -/
import Derived.Test.YtehmbhdapgkbcaaUMap
import Derived.Test.YtehmbhdapgkbcaaVisit
import Derived.Test.YtehmbhdapgkbcaaBox
namespace Go.Proofs.Ytehmbhdapgkbcaa
open Go.RowKit

/-- How many numbers below N are in a map. -/
def dom (N : Nat) (g : Nat → Option Value) : Nat := ((List.range N).filter fun k => (g k).isSome).length
theorem dom_le (N : Nat) (g : Nat → Option Value) : dom N g ≤ N := by
  have := List.length_filter_le (fun k => (g k).isSome) (List.range N)
  rw [List.length_range] at this
  exact this
theorem dom_none (N : Nat) : dom N (fun _ => none) = 0 := by simp [dom]
theorem dom_put {N i : Nat} {g : Nat → Option Value} (hi : i < N) (hg : g i = none) (v : Value) : dom N (fun j => if j = i then some v else g j) = dom N g + 1 := by
  unfold dom
  have h := filter_less (p := fun k => ((fun j => if j = i then some v else g j) k).isSome) (k := i) (by simp) (List.range N) List.nodup_range (List.mem_range.2 hi)
  rw [← h]
  congr 2
  refine List.filter_congr fun k _ => ?_
  by_cases e : k = i
  · subst e; simp [hg]
  · simp [e]

theorem BoxOf.shift {l : List Cl} {la lb ha hb : Int} (h : BoxOf l la lb ha hb) (x y : Int) : BoxOf (l.map fun c => ⟨c.a + x, c.b + y, c.h⟩) (la + x) (lb + y) (ha + x) (hb + y) := by
  obtain ⟨h1, ⟨a, a1, a2⟩, ⟨b, b1, b2⟩, ⟨c, c1, c2⟩, ⟨d, d1, d2⟩⟩ := h
  refine ⟨fun c hc => ?_, ⟨_, List.mem_map_of_mem a1, by simp [a2]⟩, ⟨_, List.mem_map_of_mem b1, by simp [b2]⟩, ⟨_, List.mem_map_of_mem c1, by simp [c2]⟩, ⟨_, List.mem_map_of_mem d1, by simp [d2]⟩⟩
  obtain ⟨e, he, rfl⟩ := List.mem_map.1 hc
  have := h1 e he
  dsimp only
  omega

theorem BoxOf.append {l m : List Cl} {la lb ha hb la' lb' ha' hb' : Int} (h : BoxOf l la lb ha hb) (k : BoxOf m la' lb' ha' hb') : BoxOf (l ++ m) (min la la') (min lb lb') (max ha ha') (max hb hb') := by
  obtain ⟨h1, ⟨a, a1, a2⟩, ⟨b, b1, b2⟩, ⟨c, c1, c2⟩, ⟨d, d1, d2⟩⟩ := h
  obtain ⟨k1, ⟨a', a1', a2'⟩, ⟨b', b1', b2'⟩, ⟨c', c1', c2'⟩, ⟨d', d1', d2'⟩⟩ := k
  refine ⟨fun e he => ?_, ?_, ?_, ?_, ?_⟩
  · rcases List.mem_append.1 he with he | he
    · have := h1 e he; omega
    · have := k1 e he; omega
  · by_cases q : la ≤ la'
    · exact ⟨a, List.mem_append_left _ a1, by omega⟩
    · exact ⟨a', List.mem_append_right _ a1', by omega⟩
  · by_cases q : lb ≤ lb'
    · exact ⟨b, List.mem_append_left _ b1, by omega⟩
    · exact ⟨b', List.mem_append_right _ b1', by omega⟩
  · by_cases q : ha' ≤ ha
    · exact ⟨c, List.mem_append_left _ c1, by omega⟩
    · exact ⟨c', List.mem_append_right _ c1', by omega⟩
  · by_cases q : hb' ≤ hb
    · exact ⟨d, List.mem_append_left _ d1, by omega⟩
    · exact ⟨d', List.mem_append_right _ d1', by omega⟩

theorem BoxOf.same {l m : List Cl} {la lb ha hb la' lb' ha' hb' : Int} (h : BoxOf l la lb ha hb) (k : BoxOf m la' lb' ha' hb') (e : ∀ c, c ∈ l ↔ c ∈ m) : la = la' ∧ lb = lb' ∧ ha = ha' ∧ hb = hb' := by
  obtain ⟨h1, ⟨a, a1, a2⟩, ⟨b, b1, b2⟩, ⟨c, c1, c2⟩, ⟨d, d1, d2⟩⟩ := h
  obtain ⟨k1, ⟨a', a1', a2'⟩, ⟨b', b1', b2'⟩, ⟨c', c1', c2'⟩, ⟨d', d1', d2'⟩⟩ := k
  have := k1 a ((e _).1 a1); have := k1 b ((e _).1 b1); have := k1 c ((e _).1 c1); have := k1 d ((e _).1 d1)
  have := h1 a' ((e _).2 a1'); have := h1 b' ((e _).2 b1'); have := h1 c' ((e _).2 c1'); have := h1 d' ((e _).2 d1')
  omega

abbrev edgV (la lb ha hb : Int) : Value := .agg #[.int .i64 la, .int .i64 lb, .int .i64 ha, .int .i64 hb]

/-- What is known of nodes: their edges. -/
def EdgeMap (ns : List Nd) (g : Nat → Option Value) : Prop :=
  ∀ k v, g k = some v → ∃ f la lb ha hb, (ndAt ns k).lv = f + 2 ∧ v = edgV la lb ha hb ∧ BoxOf (cl ns f k 0 0) la lb ha hb

theorem EdgeMap.put {ns : List Nd} {g : Nat → Option Value} (h : EdgeMap ns g) {i f : Nat} {la lb ha hb : Int} (hl : (ndAt ns i).lv = f + 2) (hb' : BoxOf (cl ns f i 0 0) la lb ha hb) : EdgeMap ns (fun j => if j = i then some (edgV la lb ha hb) else g j) := by
  intro k v hk
  dsimp only at hk
  by_cases e : k = i
  · subst e
    rw [if_pos rfl] at hk
    exact ⟨f, la, lb, ha, hb, hl, (Option.some.inj hk).symm, hb'⟩
  · rw [if_neg e] at hk
    exact h k v hk

/-- The cells of a kid, in their place. -/
def kidAt (ns : List Nd) (n : Nd) (f q : Nat) : List Cl := (cl ns f (n.kid q) 0 0).map fun c => ⟨c.a + 2 ^ (f + 2) * ((q % 2 : Nat) : Int), c.b + 2 ^ (f + 2) * ((q / 2 : Nat) : Int), c.h⟩
/-- The cells of the first k kids. -/
def upTo (ns : List Nd) (n : Nd) (f : Nat) : Nat → List Cl
  | 0 => []
  | k + 1 => upTo ns n f k ++ kidAt ns n f k

theorem upTo_four (ns : List Nd) (i f : Nat) : upTo ns (ndAt ns i) f 4 = cl ns (f + 1) i 0 0 := by
  have e := fun (x y : Int) (k : Nat) => cl_shift ns x y f k 0 0
  simp only [upTo, kidAt, Nd.kid, cl]
  simp only [Int.zero_add] at e ⊢
  have h0 := e 0 0 (ndAt ns i).k0
  have h1 := e (2 ^ (f + 2)) 0 (ndAt ns i).k1
  have h2 := e 0 (2 ^ (f + 2)) (ndAt ns i).k2
  have h3 := e (2 ^ (f + 2)) (2 ^ (f + 2)) (ndAt ns i).k3
  rw [h1, h2, h3]
  simp

/-- The edges so far: none, or of the cells so far. -/
def Sofar (l : List Cl) (h2 la lb ha hb : Int) : Prop := (l = [] ∧ la = h2 ∧ lb = h2 ∧ ha = -1 ∧ hb = -1) ∨ BoxOf l la lb ha hb

theorem Sofar.more {l m : List Cl} {h2 la lb ha hb la' lb' ha' hb' : Int} (h : Sofar l h2 la lb ha hb) (k : BoxOf m la' lb' ha' hb') (hm : ∀ c ∈ m, 0 ≤ c.a ∧ c.a < h2 ∧ 0 ≤ c.b ∧ c.b < h2) : BoxOf (l ++ m) (min la la') (min lb lb') (max ha ha') (max hb hb') := by
  rcases h with ⟨rfl, ea, eb, ec, ed⟩ | h
  · obtain ⟨k1, ⟨a', a1', a2'⟩, ⟨b', b1', b2'⟩, ⟨c', c1', c2'⟩, ⟨d', d1', d2'⟩⟩ := k
    have := hm a' a1'; have := hm b' b1'; have := hm c' c1'; have := hm d' d1'
    have e1 : min la la' = la' := by omega
    have e2 : min lb lb' = lb' := by omega
    have e3 : max ha ha' = ha' := by omega
    have e4 : max hb hb' = hb' := by omega
    rw [e1, e2, e3, e4, List.nil_append]
    exact ⟨k1, ⟨a', a1', a2'⟩, ⟨b', b1', b2'⟩, ⟨c', c1', c2'⟩, ⟨d', d1', d2'⟩⟩
  · exact h.append k

theorem kidAt_range {ns : List Nd} (w : WF ns) {i f q : Nat} (hi : i < ns.length) (hl : (ndAt ns i).lv = f + 3) (hq : q < 4) : ∀ c ∈ kidAt ns (ndAt ns i) f q, 0 ≤ c.a ∧ c.a < 2 * 2 ^ (f + 2) ∧ 0 ≤ c.b ∧ c.b < 2 * 2 ^ (f + 2) := by
  intro c hc
  obtain ⟨e, he, rfl⟩ := List.mem_map.1 hc
  obtain ⟨h0, h1, h2, h3, l0, l1, l2, l3, _, _⟩ := w.join hi hl
  have hk : (ndAt ns i).kid q < ns.length ∧ (ndAt ns ((ndAt ns i).kid q)).lv = f + 2 := by
    unfold Nd.kid
    split
    · exact ⟨by omega, l0⟩
    · split
      · exact ⟨by omega, l1⟩
      · split
        · exact ⟨by omega, l2⟩
        · exact ⟨by omega, l3⟩
  have hr := cl_range w f _ 0 0 hk.1 hk.2 e he
  have p : (0 : Int) < 2 ^ (f + 2) := Int.pow_pos (by omega)
  dsimp only
  generalize (2 : Int) ^ (f + 2) = z at *
  rcases (show q = 0 ∨ q = 1 ∨ q = 2 ∨ q = 3 by omega) with rfl | rfl | rfl | rfl <;> simp <;> omega

theorem kid_facts {ns : List Nd} (w : WF ns) {i f q : Nat} (hi : i < ns.length) (hl : (ndAt ns i).lv = f + 3) : (ndAt ns i).kid q < i ∧ (ndAt ns ((ndAt ns i).kid q)).lv = f + 2 := by
  obtain ⟨h0, h1, h2, h3, l0, l1, l2, l3, _, _⟩ := w.join hi hl
  unfold Nd.kid
  split
  · exact ⟨h0, l0⟩
  · split
    · exact ⟨h1, l1⟩
    · split
      · exact ⟨h2, l2⟩
      · exact ⟨h3, l3⟩

end Go.Proofs.Ytehmbhdapgkbcaa
