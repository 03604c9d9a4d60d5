/- The leaves of a set's cells, by their least points. -/
import Derived.Test.YtehmbhdapgkbcaaMap
namespace Go.Proofs.Ytehmbhdapgkbcaa
open Go.RowKit

/-- A cell as the program has it: coordinates of 62 bits, Half 0 or 1. -/
structure Cl.Fit (c : Cl) : Prop where
  a : -4611686018427387904 ≤ c.a ∧ c.a ≤ 4611686018427387904
  b : -4611686018427387904 ≤ c.b ∧ c.b ≤ 4611686018427387904
  h0 : 0 ≤ c.h
  h1 : c.h ≤ 1

def leafStep (g : Int → Int → Option Nat) (c : Cl) : Int → Int → Option Nat := fun x y => if x = c.a / 4 * 4 ∧ y = c.b / 4 * 4 then some (setB ((g (c.a / 4 * 4) (c.b / 4 * 4)).getD 0) (bitAt c.a c.b c.h) true) else g x y
def leafFn (l : List Cl) : Int → Int → Option Nat := l.foldl leafStep (fun _ _ => none)
theorem leafFn_nil : leafFn [] = fun _ _ => none := rfl
theorem leafFn_snoc (l : List Cl) (c : Cl) : leafFn (l ++ [c]) = leafStep (leafFn l) c := by simp [leafFn]

theorem low_sq (c : Cl) : InSq 2 (c.a / 4 * 4) (c.b / 4 * 4) c := by
  unfold InSq
  rw [show (2 : Int) ^ 2 = 4 from rfl]
  omega

/-- What the leaves are. -/
theorem leafFn_spec : ∀ (l : List Cl), (∀ c ∈ l, c.Fit) → ∀ x y : Int,
    ((leafFn l x y).getD 0 < 4294967296) ∧ ((leafFn l x y).isSome = true ↔ ∃ c ∈ l, c.a / 4 * 4 = x ∧ c.b / 4 * 4 = y) ∧
    ∀ d, d ∈ leafCl ((leafFn l x y).getD 0) x y ↔ (d ∈ l ∧ d.a / 4 * 4 = x ∧ d.b / 4 * 4 = y) := by
  have main : ∀ (n : Nat) (l : List Cl), l.length = n → (∀ c ∈ l, c.Fit) → ∀ x y : Int,
    ((leafFn l x y).getD 0 < 4294967296) ∧ ((leafFn l x y).isSome = true ↔ ∃ c ∈ l, c.a / 4 * 4 = x ∧ c.b / 4 * 4 = y) ∧
    ∀ d, d ∈ leafCl ((leafFn l x y).getD 0) x y ↔ (d ∈ l ∧ d.a / 4 * 4 = x ∧ d.b / 4 * 4 = y) := ?_
  · exact fun l => main l.length l rfl
  intro n
  induction n with
  | zero => intro l hl0 _ x y; obtain rfl := List.length_eq_zero_iff.1 hl0; exact ⟨by simp [leafFn], by simp [leafFn], fun d => by simp [leafFn, leafCl, bitsOf]⟩
  | succ n ih' =>
    intro l' hl0 hl x y
    obtain ⟨l, c, rfl⟩ : ∃ l c, l' = l ++ [c] := by
      rcases List.eq_nil_or_concat l' with h | ⟨l, c, h⟩
      · subst h; simp at hl0
      · exact ⟨l, c, by simpa using h⟩
    have ih := ih' l (by simpa using hl0)
    have hc := hl c (by simp)
    have h := ih (fun d hd => hl d (by simp [hd])) x y
    rw [leafFn_snoc]
    unfold leafStep
    by_cases e : x = c.a / 4 * 4 ∧ y = c.b / 4 * 4
    · rw [if_pos e]
      obtain ⟨e1, e2⟩ := e
      subst e1 e2
      obtain ⟨h1, h2, h3⟩ := h
      simp only [Option.getD_some, Option.isSome_some]
      refine ⟨setB_lt true h1 (bitAt_lt hc.h0 hc.h1), ⟨fun _ => ⟨c, by simp, rfl, rfl⟩, fun _ => by first | trivial | rfl⟩, fun d => ?_⟩
      rw [mem_setB true (by omega) (by omega) (low_sq c) hc.h0 hc.h1]
      by_cases ed : d = c
      · subst ed; simp
      · rw [if_neg ed, h3]
        simp [ed]
    · rw [if_neg e]
      obtain ⟨h1, h2, h3⟩ := h
      refine ⟨h1, ?_, fun d => ?_⟩
      · rw [h2]
        constructor
        · rintro ⟨d, hd, h⟩; exact ⟨d, by simp [hd], h⟩
        · rintro ⟨d, hd, h⟩
          rcases List.mem_append.1 hd with hd | hd
          · exact ⟨d, hd, h⟩
          · rw [List.mem_singleton] at hd; subst hd; exact absurd ⟨h.1.symm, h.2.symm⟩ e
      · rw [h3]
        constructor
        · rintro ⟨hd, h⟩; exact ⟨by simp [hd], h⟩
        · rintro ⟨hd, h⟩
          rcases List.mem_append.1 hd with hd | hd
          · exact ⟨hd, h⟩
          · rw [List.mem_singleton] at hd; subst hd; exact absurd ⟨h.1.symm, h.2.symm⟩ e

def LeavesPost (l : List Cl) (w : World) (e : Ending) (w' : World) : Prop :=
  ∃ b, e = .returned (.map (some b)) ∧ PtMap w' b l.length (leafFn l) ∧ Below w.heap.size w w' ∧ w.heap.size ≤ b

set_option maxHeartbeats 8000000 in
set_option maxRecDepth 100000 in
theorem leaves_any {l : List Cl} {v : Value} {w : World} (h : CellRow w v l) (hl : l.length < 1000000) (hfit : ∀ c ∈ l, c.Fit) :
    Calls Try.prog 50 #[v] w (LeavesPost l w) := by
  have hmm := @run_makeMap Try.prog
  obtain ⟨va, vcap, rfl, _⟩ := h.slice
  have hform : 0 < l.length → ∃ g, va = some ⟨g, 0, none⟩ ∧ g < w.heap.size := fun hp => by
    obtain ⟨g, cap, he, _, _, hg⟩ := h.form hp
    cases he
    exact ⟨g, rfl, hg⟩
  have H := Lib.hid h
  have Hf := Lib.hid hfit
  have Hform := Lib.hid hform
  clear h hfit hform
  have hmade := PtMap.made w
  have hBm : Below w.heap.size w (w.alloc (.map #[] 0)) := (Below.refl _ _).alloc (Nat.le_refl _) _
  go_enter Try.func50, Try.ntmps50
  go_wp2_with fail
  go_loopg [10] l.length (fun m s10 wr => ∃ k : Nat, m = l.length - k ∧ k ≤ l.length ∧ s10 = .int .i64 k ∧ PtMap wr w.heap.size k (leafFn (l.take k)) ∧ Below w.heap.size w wr)
  case atStart => exact ⟨0, by omega, by omega, rfl, by rw [List.take_zero]; exact hmade, hBm⟩
  case round =>
    clear hmade hBm hmm
    obtain ⟨k, hm, hk, rfl, hmap, hB⟩ := hrel
    by_cases hk1 : k = l.length
    · have hge : ¬ ((k : Int) < (l.length : Int)) := by omega
      have Hk1 := Lib.hid hk1
      clear hk1
      go_wp2
      go_ret
      refine ⟨w.heap.size, rfl, ?_, hB, Nat.le_refl _⟩
      rw [Hk1.out, List.take_length] at hmap
      exact hmap
    · have hlt : (k : Int) < (l.length : Int) := by omega
      obtain ⟨g, rfl, hg⟩ := Hform.out (by omega)
      have hrow : CellRow wr (.slice (some ⟨g, 0, none⟩) l.length vcap) l := H.out.move (S := Only) (.of_new hB) fun _ _ h => h
      obtain ⟨c0, c1, c2⟩ := CellRow.at hrow (i := k) (by omega)
      have hfc := Hf.out l[k] (List.getElem_mem _)
      have htk : l.take (k + 1) = l.take k ++ [l[k]] := List.take_succ_eq_append_getElem (by omega)
      generalize l[k] = c at c0 c1 c2 hfc htk
      have hspec := leafFn_spec (l.take k) (fun d hd => Hf.out d (List.mem_of_mem_take hd)) (c.a / 4 * 4) (c.b / 4 * 4)
      have hnext := leafFn_snoc (l.take k) c
      rw [← htk] at hnext
      unfold leafStep at hnext
      have Hnext := Lib.hid hnext
      clear hnext htk hrow
      obtain ⟨ca, cb, ch⟩ := c
      obtain ⟨f1, f2, f3, f4⟩ := hfc
      dsimp only at *
      have hlow := low_any ca cb (by omega) (by omega)
      generalize hfn : leafFn (l.take k) = fn at hmap hspec Hnext
      have hb32 := hspec.1
      have hwith := with_any ((fn (ca / 4 * 4) (cb / 4 * 4)).getD 0) hb32 ca cb ch true (by omega) (by omega) f3 f4
      have hx : I64 (ca / 4 * 4) := by unfold I64; omega
      have hy : I64 (cb / 4 * 4) := by unfold I64; omega
      have hset := setB_lt true hb32 (bitAt_lt (a := ca) (b := cb) f3 f4)
      clear hspec hfn
      unfold WithPost at hwith
      generalize hX : ca / 4 * 4 = X at *
      generalize hY : cb / 4 * 4 = Y at *
      clear hX hY
      generalize setB ((fn X Y).getD 0) (bitAt ca cb ch) true = sb at *
      go_wp2_with fail
      refine (hlow _).mono ?_
      rintro e w2 ⟨rfl, hb2⟩
      have hz2 := hb2.size
      simp only [World.size_alloc] at hz2
      have d0 : w2.cell? ⟨wr.heap.size, 0, none⟩ = some (.int .i64 ca) := (hb2.cell (p := ⟨wr.heap.size, 0, none⟩) (by simp)).trans (World.cell?_alloc_new _ _ _ _)
      have d1 : w2.cell? ⟨wr.heap.size, 1, none⟩ = some (.int .i64 cb) := (hb2.cell (p := ⟨wr.heap.size, 1, none⟩) (by simp)).trans (World.cell?_alloc_new _ _ _ _)
      have d2 : w2.cell? ⟨wr.heap.size, 2, none⟩ = some (.int .i64 ch) := (hb2.cell (p := ⟨wr.heap.size, 2, none⟩) (by simp)).trans (World.cell?_alloc_new _ _ _ _)
      have hB2 : Below wr.heap.size wr w2 := ((Below.refl _ _).alloc (Nat.le_refl _) _).trans (hb2.mono (by simp))
      have hmap2 := hmap.new hB2
      clear hlow hb2 c0 c1 c2
      go_wp2_with fail
      have m : ∀ (j : Nat) v, w2.cell? ⟨wr.heap.size, j, none⟩ = some v → (w2.alloc (.cells #[.int .i64 X, .int .i64 Y] 38)).cell? ⟨wr.heap.size, j, none⟩ = some v := fun j v hv => (World.cell?_alloc_past _ _ _ (by omega)).trans hv
      replace d0 := m _ _ d0
      replace d1 := m _ _ d1
      replace d2 := m _ _ d2
      clear m
      have l0 : (w2.alloc (.cells #[.int .i64 X, .int .i64 Y] 38)).cell? ⟨w2.heap.size, 0, none⟩ = some (.int .i64 X) := World.cell?_alloc_new _ _ _ _
      have l1 : (w2.alloc (.cells #[.int .i64 X, .int .i64 Y] 38)).cell? ⟨w2.heap.size, 1, none⟩ = some (.int .i64 Y) := World.cell?_alloc_new _ _ _ _
      have hB3 := hB2.alloc hB2.size (.cells #[.int .i64 X, .int .i64 Y] 38)
      have hmap3 := hmap.new hB3
      have hz3 : (w2.alloc (.cells #[.int .i64 X, .int .i64 Y] 38)).heap.size = w2.heap.size + 1 := World.size_alloc _ _
      clear hmap hmap2 hB2
      generalize w2.alloc (.cells #[.int .i64 X, .int .i64 Y] 38) = W3 at *
      refine wp_region_plan (fun w' => w'.cell? ⟨w2.heap.size, 0, none⟩ = some (.int .i64 X) ∧ w'.cell? ⟨w2.heap.size, 1, none⟩ = some (.int .i64 Y) ∧ w'.cell? ⟨wr.heap.size, 0, none⟩ = some (.int .i64 ca) ∧ w'.cell? ⟨wr.heap.size, 1, none⟩ = some (.int .i64 cb) ∧ w'.cell? ⟨wr.heap.size, 2, none⟩ = some (.int .i64 ch) ∧ PtMap w' w.heap.size k fn)
        [6, 7] [0, 1, 2, 3, 5, 4, 6, 7] (by kernel_rfl) (by kernel_rfl) (fun _ _ d _ _ h => by cases d <;> exact h) ⟨l0, l1, d0, d1, d2, hmap3⟩ ?_
      repeat ((first | (refine' wpPlan_q rfl rfl rfl ?_ ?_; rotate_left; (focus (intro _ hSw; (try dsimp only at hSw); go_simp; (try with_reducible rfl); done))) | (refine' wpPlan_p rfl rfl rfl ?_ ?_; rotate_left; (focus (intro _; go_simp; (try with_reducible rfl); done)))); (try simp only [Act.put, List.setIfInBounds_toArray, List.set_cons_zero, List.set_cons_succ]))
      refine wpPlan_q (v := .int .u32 ((fn X Y).getD 0 : Nat)) rfl rfl rfl ?_ ?_
      · intro w' hS
        have hlook := hS.2.2.2.2.2.look hx hy
        clear hS
        go_simp
      (try simp only [Act.put, List.setIfInBounds_toArray, List.set_cons_zero, List.set_cons_succ])
      refine wpPlan_x rfl rfl (fun K hK => ?_)
      go_simp
      refine (hwith _).mono ?_
      rintro e w4 ⟨rfl, hb4⟩
      have hmap4 : PtMap w4 w.heap.size k fn := (hmap3.move (S := Only) (Touch.refl _ _).drew (fun h => h)).new hb4
      refine hK _ _ (fun _ => ⟨(hb4.cell (p := ⟨w2.heap.size, 0, none⟩) (show w2.heap.size < W3.heap.size by omega)).trans l0, (hb4.cell (p := ⟨w2.heap.size, 1, none⟩) (show w2.heap.size < W3.heap.size by omega)).trans l1,
        (hb4.cell (p := ⟨wr.heap.size, 0, none⟩) (show wr.heap.size < W3.heap.size by omega)).trans d0, (hb4.cell (p := ⟨wr.heap.size, 1, none⟩) (show wr.heap.size < W3.heap.size by omega)).trans d1, (hb4.cell (p := ⟨wr.heap.size, 2, none⟩) (show wr.heap.size < W3.heap.size by omega)).trans d2, hmap4⟩) ?_
      clear hK K
      (try simp only [Act.put, List.setIfInBounds_toArray, List.set_cons_zero, List.set_cons_succ])
      obtain ⟨w5, hrun, hmap5, hgrow⟩ := hmap4.put (by omega) hx hy hset
      refine wpPlan_x rfl rfl (fun K hK => ?_)
      refine wp_mapUpdate rfl rfl rfl rfl hrun ?_
      refine hK _ _ (fun h => absurd h (by decide)) (wpPlan_nil ?_)
      clear hK K
      (try simp only [Act.put, List.setIfInBounds_toArray, List.set_cons_zero, List.set_cons_succ])
      have hB5 : Below w.heap.size w w5 := ((hB.trans (hB3.mono hB.size)).drew.trans (hb4.mono (by have := (hB.trans (hB3.mono hB.size)).size; exact this))).grown hgrow (by have := (hB.trans (hB3.mono hB.size)).size; have := hb4.size; exact Nat.le_trans ‹_› this) (fun j hj => by cases hj; exact Nat.le_refl _)
      clear hgrow hrun hmap4 hmap3 hb4 hB3 hwith l0 l1 d0 d1 d2
      go_wp2
      go_roundg (l.length - (k + 1))
      case measure => omega
      case rel => exact ⟨k + 1, rfl, by omega, by go_num, by rw [Hnext.out]; exact hmap5, hB5⟩

end Go.Proofs.Ytehmbhdapgkbcaa
