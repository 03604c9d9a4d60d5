/- The box of a set. -/
import Derived.Test.YtehmbhdapgkbcaaSort
import Derived.Test.YtehmbhdapgkbcaaPlanU
namespace Go.Proofs.Ytehmbhdapgkbcaa
open Go.RowKit

/-- The least and greatest coordinates of cells. -/
structure BoxOf (l : List Cl) (la lb ha hb : Int) : Prop where
  all : ∀ c ∈ l, la ≤ c.a ∧ c.a ≤ ha ∧ lb ≤ c.b ∧ c.b ≤ hb
  la : ∃ c ∈ l, c.a = la
  lb : ∃ c ∈ l, c.b = lb
  ha : ∃ c ∈ l, c.a = ha
  hb : ∃ c ∈ l, c.b = hb

theorem BoxOf.ext {l m : List Cl} {la lb ha hb : Int} (h : BoxOf l la lb ha hb) (e : ∀ c, c ∈ l ↔ c ∈ m) : BoxOf m la lb ha hb := by
  obtain ⟨h1, ⟨a, a1, a2⟩, ⟨b, b1, b2⟩, ⟨c, c1, c2⟩, ⟨d, d1, d2⟩⟩ := h
  exact ⟨fun c hc => h1 c ((e c).2 hc), ⟨a, (e a).1 a1, a2⟩, ⟨b, (e b).1 b1, b2⟩, ⟨c, (e c).1 c1, c2⟩, ⟨d, (e d).1 d1, d2⟩⟩
theorem BoxOf.one (c : Cl) : BoxOf [c] c.a c.b c.a c.b :=
  ⟨fun d hd => by rw [List.mem_singleton] at hd; subst hd; omega, ⟨c, by simp, rfl⟩, ⟨c, by simp, rfl⟩, ⟨c, by simp, rfl⟩, ⟨c, by simp, rfl⟩⟩
theorem BoxOf.more {l : List Cl} {la lb ha hb : Int} (h : BoxOf l la lb ha hb) (c : Cl) {la' lb' ha' hb' : Int} (e1 : la' = min la c.a) (e2 : lb' = min lb c.b) (e3 : ha' = max ha c.a) (e4 : hb' = max hb c.b) : BoxOf (l ++ [c]) la' lb' ha' hb' := by
  obtain ⟨h1, ⟨a, a1, a2⟩, ⟨b, b1, b2⟩, ⟨x, c1, c2⟩, ⟨d, d1, d2⟩⟩ := h
  refine ⟨fun d hd => ?_, ?_, ?_, ?_, ?_⟩
  · rcases List.mem_append.1 hd with hd | hd
    · have := h1 d hd; omega
    · rw [List.mem_singleton] at hd; subst hd; omega
  · rcases Int.le_total la c.a with k | k
    · exact ⟨a, by simp [a1], by omega⟩
    · exact ⟨c, by simp, by omega⟩
  · rcases Int.le_total lb c.b with k | k
    · exact ⟨b, by simp [b1], by omega⟩
    · exact ⟨c, by simp, by omega⟩
  · rcases Int.le_total ha c.a with k | k
    · exact ⟨c, by simp, by omega⟩
    · exact ⟨x, by simp [c1], by omega⟩
  · rcases Int.le_total hb c.b with k | k
    · exact ⟨c, by simp, by omega⟩
    · exact ⟨d, by simp [d1], by omega⟩
theorem BoxOf.uniq {l : List Cl} {la lb ha hb la' lb' ha' hb' : Int} (h : BoxOf l la lb ha hb) (k : BoxOf l la' lb' ha' hb') : la = la' ∧ lb = lb' ∧ ha = ha' ∧ hb = hb' := by
  obtain ⟨h1, ⟨a, a1, a2⟩, ⟨b, b1, b2⟩, ⟨x, c1, c2⟩, ⟨d, d1, d2⟩⟩ := h
  obtain ⟨k1, ⟨a', a1', a2'⟩, ⟨b', b1', b2'⟩, ⟨x', c1', c2'⟩, ⟨d', d1', d2'⟩⟩ := k
  have := h1 a' a1'; have := h1 b' b1'; have := h1 x' c1'; have := h1 d' d1'
  have := k1 a a1; have := k1 b b1; have := k1 x c1; have := k1 d d1
  omega

def BoxPost (l : List Cl) (w : World) (e : Ending) (w' : World) : Prop :=
  ∃ la lb ha hb : Int, e = .returned (.tuple #[.agg #[.int .i64 la, .int .i64 lb, .int .i64 ha, .int .i64 hb], .bool true]) ∧ BoxOf l la lb ha hb ∧ Below w.heap.size w w'

theorem box_none {v : Value} {w : World} (h : CellRow w v []) :
    Calls Try.prog 47 #[v] w fun e w' => e = .returned (.tuple #[.agg #[.int .i64 0, .int .i64 0, .int .i64 0, .int .i64 0], .bool false]) ∧ Below w.heap.size w w' := by
  obtain ⟨a, cap, rfl, _⟩ := h.slice
  clear h
  simp only [List.length_nil]
  go_enter Try.func47, Try.ntmps47
  go_wp2
  exact bodyPost_ret (v := .tuple #[.agg #[.int .i64 0, .int .i64 0, .int .i64 0, .int .i64 0], .bool false]) (by simp [results, Try.results47, go_sem]) rfl ⟨rfl, by (repeat (first | exact Below.refl _ _ | refine Below.drew ?_ | refine Below.setCell ?_ (by first | (simp; done) | (simp; omega)) _ | refine Below.alloc ?_ (by first | (simp; done) | (simp; omega)) _))⟩

set_option maxHeartbeats 8000000 in
set_option maxRecDepth 100000 in
theorem box_some {l : List Cl} {v : Value} {w : World} (h : CellRow w v l) (hl : l.length < 1048576) (hp : 0 < l.length) :
    Calls Try.prog 47 #[v] w (BoxPost l w) := by
  obtain ⟨g, cap, rfl, _, _, hg⟩ := h.form hp
  have hne : ((l.length : Int) == 0) = false := by rw [beq_eq_false_iff_ne]; omega
  have hpi : (0 : Int) < (l.length : Int) := by omega
  have h0 : CellRow (w.alloc (.cells #[.int .i64 0, .int .i64 0, .int .i64 0, .int .i64 0] 53)) (.slice (some ⟨g, 0, none⟩) l.length cap) l := World.ownsRow.alloc h (.cells #[.int .i64 0, .int .i64 0, .int .i64 0, .int .i64 0] 53)
  obtain ⟨a0, a1, a2⟩ := CellRow.at h0 hp
  simp only [Nat.zero_mul, Nat.zero_add] at a0 a1 a2
  have H := Lib.hid h0
  clear h h0
  generalize hx : l[0] = x at a0 a1 a2
  have Hx := Lib.hid hx
  clear hx
  go_enter Try.func47, Try.ntmps47
  go_wp2_with fail
  have hB1 : Below w.heap.size w (w.alloc (.cells #[.int .i64 0, .int .i64 0, .int .i64 0, .int .i64 0] 53)) := (Below.refl _ _).alloc (Nat.le_refl _) _
  have hr1 : (w.alloc (.cells #[.int .i64 0, .int .i64 0, .int .i64 0, .int .i64 0] 53)).heap[w.heap.size]? = some (.cells #[.int .i64 0, .int .i64 0, .int .i64 0, .int .i64 0] 53 (0, 0)) := heap_alloc_new _ _
  generalize w.alloc (.cells #[.int .i64 0, .int .i64 0, .int .i64 0, .int .i64 0] 53) = W at *
  refine wp_region_plan (fun w' => w'.cell? ⟨g, 0, none⟩ = some (.int .i64 x.a) ∧ w'.cell? ⟨g, 1, none⟩ = some (.int .i64 x.b))
    [9, 10] [0, 1, 2, 3, 4, 5, 6, 7, 8, 9, 10] (by kernel_rfl) (by kernel_rfl) (fun _ _ d _ _ h => by cases d <;> exact h) ⟨a0, a1⟩ ?_
  repeat ((first | (refine' wpPlan_q rfl rfl rfl ?_ ?_; rotate_left; (focus (intro _ hSw; (try dsimp only at hSw); go_simp; (try with_reducible rfl); done))) | (refine' wpPlan_p rfl rfl rfl ?_ ?_; rotate_left; (focus (intro _; go_simp; (try with_reducible rfl); done)))); (try simp only [Act.put, List.setIfInBounds_toArray, List.set_cons_zero, List.set_cons_succ]))
  refine wpPlan_x rfl rfl (fun K hK => ?_)
  go_simp
  refine hK _ _ (fun _ => ⟨(World.cell?_alloc_past _ _ _ (World.block_lt_of_cell? _ _ a0)).trans a0, (World.cell?_alloc_past _ _ _ (World.block_lt_of_cell? _ _ a1)).trans a1⟩) ?_
  clear hK K
  (try simp only [Act.put, List.setIfInBounds_toArray, List.set_cons_zero, List.set_cons_succ])
  refine wpPlan_x rfl rfl (fun K hK => ?_)
  go_simp
  refine hK _ _ (fun h => absurd h (by decide)) (wpPlan_nil ?_)
  clear hK K
  (try simp only [Act.put, List.setIfInBounds_toArray, List.set_cons_zero, List.set_cons_succ])
  have hB2 : Below w.heap.size w (W.alloc (.cells #[.int .i64 x.a, .int .i64 x.b, .int .i64 x.a, .int .i64 x.b] 53)).drew := (hB1.alloc hB1.size _).drew
  have hb2 : (W.alloc (.cells #[.int .i64 x.a, .int .i64 x.b, .int .i64 x.a, .int .i64 x.b] 53)).drew.heap[W.heap.size]? = some (.cells #[.int .i64 x.a, .int .i64 x.b, .int .i64 x.a, .int .i64 x.b] 53 (0, 0)) := heap_alloc_new _ _
  have hr2 : (W.alloc (.cells #[.int .i64 x.a, .int .i64 x.b, .int .i64 x.a, .int .i64 x.b] 53)).drew.heap[w.heap.size]? = some (.cells #[.int .i64 0, .int .i64 0, .int .i64 0, .int .i64 0] 53 (0, 0)) := (Below.heap_alloc _ _ _ (lt_of_block hr1)).trans hr1
  have hrw := lt_of_block hr1
  have hH2 : CellRow (W.alloc (.cells #[.int .i64 x.a, .int .i64 x.b, .int .i64 x.a, .int .i64 x.b] 53)).drew (.slice (some ⟨g, 0, none⟩) l.length cap) l := H.out.move (S := Only) (.of_new (((Below.refl _ _).alloc (Nat.le_refl _) _).drew)) fun _ _ h => h
  have hz2 : W.heap.size < (W.alloc (.cells #[.int .i64 x.a, .int .i64 x.b, .int .i64 x.a, .int .i64 x.b] 53)).drew.heap.size := lt_of_block hb2
  generalize (W.alloc (.cells #[.int .i64 x.a, .int .i64 x.b, .int .i64 x.a, .int .i64 x.b] 53)).drew = W2 at *
  have H2 := Lib.hid hH2
  clear a0 a1 a2 H hH2 hr1 hB1
  go_wp2_with fail
  go_loopg [22] l.length (fun m s22 wr => ∃ k : Nat, m = l.length - k ∧ k ≤ l.length ∧ s22 = .int .i64 k ∧ Below w.heap.size w wr ∧ (Touch (fun k => w.heap.size ≤ k) W2 wr ∧ ¬ w.heap.size ≤ g) ∧ wr.heap[w.heap.size]? = some (.cells #[.int .i64 0, .int .i64 0, .int .i64 0, .int .i64 0] 53 (0, 0)) ∧
    ∃ la lb ha hb : Int, wr.heap[W.heap.size]? = some (.cells #[.int .i64 la, .int .i64 lb, .int .i64 ha, .int .i64 hb] 53 (0, 0)) ∧ BoxOf (x :: l.take k) la lb ha hb)
  case atStart => exact ⟨0, by omega, by omega, rfl, hB2, ⟨Touch.refl _ _, by omega⟩, hr2, x.a, x.b, x.a, x.b, hb2, by rw [List.take_zero]; exact BoxOf.one x⟩
  case round =>
    clear hB2 hr2 hb2
    obtain ⟨k, hm, hk, rfl, hB, hT, hr, la, lb, ha, hb, hbb, hbox⟩ := hrel
    have Hbox := Lib.hid hbox
    clear hbox
    have hbl := lt_of_block hbb
    by_cases hk1 : k = l.length
    · have hge : ¬ ((k : Int) < (l.length : Int)) := by omega
      have v0 : wr.cell? ⟨W.heap.size, 0, none⟩ = some (.int .i64 la) := by rw [cell_of_row _ _ _ _ _ _ hbb]; rfl
      have v1 : wr.cell? ⟨W.heap.size, 1, none⟩ = some (.int .i64 lb) := by rw [cell_of_row _ _ _ _ _ _ hbb]; rfl
      have v2 : wr.cell? ⟨W.heap.size, 2, none⟩ = some (.int .i64 ha) := by rw [cell_of_row _ _ _ _ _ _ hbb]; rfl
      have v3 : wr.cell? ⟨W.heap.size, 3, none⟩ = some (.int .i64 hb) := by rw [cell_of_row _ _ _ _ _ _ hbb]; rfl
      have f0 : ∀ j, wr.frozen? ⟨w.heap.size, j, none⟩ = false := fun j => frozen_of_row _ _ _ _ _ hr
      have r0 : wr.cell? ⟨w.heap.size, 0, none⟩ = some (.int .i64 0) := by rw [cell_of_row _ _ _ _ _ _ hr]; rfl
      have r1 : wr.cell? ⟨w.heap.size, 1, none⟩ = some (.int .i64 0) := by rw [cell_of_row _ _ _ _ _ _ hr]; rfl
      have r2 : wr.cell? ⟨w.heap.size, 2, none⟩ = some (.int .i64 0) := by rw [cell_of_row _ _ _ _ _ _ hr]; rfl
      have r3 : wr.cell? ⟨w.heap.size, 3, none⟩ = some (.int .i64 0) := by rw [cell_of_row _ _ _ _ _ _ hr]; rfl
      have Hk1 := Lib.hid hk1
      have Hr := Lib.hid hr
      clear hk1 hr hbb
      go_wp2
      have hf : ((((wr.setCell ⟨w.heap.size, 0, none⟩ (.int .i64 la)).setCell ⟨w.heap.size, 1, none⟩ (.int .i64 lb)).setCell ⟨w.heap.size, 2, none⟩ (.int .i64 ha)).setCell ⟨w.heap.size, 3, none⟩ (.int .i64 hb)).heap[w.heap.size]? = some (.cells #[.int .i64 la, .int .i64 lb, .int .i64 ha, .int .i64 hb] 53 (0, 0)) :=
        heap_setCell_same _ _ 3 _ _ _ (heap_setCell_same _ _ 2 _ _ _ (heap_setCell_same _ _ 1 _ _ _ (heap_setCell_same wr _ 0 _ _ _ Hr.out)))
      have hBf := (((hB.setCell (p := ⟨w.heap.size, 0, none⟩) (Nat.le_refl _) (.int .i64 la)).setCell (p := ⟨w.heap.size, 1, none⟩) (Nat.le_refl _) (.int .i64 lb)).setCell (p := ⟨w.heap.size, 2, none⟩) (Nat.le_refl _) (.int .i64 ha)).setCell (p := ⟨w.heap.size, 3, none⟩) (Nat.le_refl _) (.int .i64 hb)
      generalize (((wr.setCell ⟨w.heap.size, 0, none⟩ (.int .i64 la)).setCell ⟨w.heap.size, 1, none⟩ (.int .i64 lb)).setCell ⟨w.heap.size, 2, none⟩ (.int .i64 ha)).setCell ⟨w.heap.size, 3, none⟩ (.int .i64 hb) = Wf at *
      have q0 : Wf.cell? ⟨w.heap.size, 0, none⟩ = some (.int .i64 la) := by rw [cell_of_row _ _ _ _ _ _ hf]; rfl
      have q1 : Wf.cell? ⟨w.heap.size, 1, none⟩ = some (.int .i64 lb) := by rw [cell_of_row _ _ _ _ _ _ hf]; rfl
      have q2 : Wf.cell? ⟨w.heap.size, 2, none⟩ = some (.int .i64 ha) := by rw [cell_of_row _ _ _ _ _ _ hf]; rfl
      have q3 : Wf.cell? ⟨w.heap.size, 3, none⟩ = some (.int .i64 hb) := by rw [cell_of_row _ _ _ _ _ _ hf]; rfl
      refine bodyPost_ret (v := .tuple #[.agg #[.int .i64 la, .int .i64 lb, .int .i64 ha, .int .i64 hb], .bool true]) (by simp [results, Try.results47, go_sem, q0, q1, q2, q3]) rfl ⟨la, lb, ha, hb, rfl, ?_, hBf⟩
      refine Hbox.out.ext fun c => ?_
      rw [Hk1.out, List.take_length, List.mem_cons]
      constructor
      · rintro (rfl | h)
        · rw [← Hx.out]; exact List.getElem_mem _
        · exact h
      · exact .inr
    · have hlt : (k : Int) < (l.length : Int) := by omega
      have hrow : CellRow wr (.slice (some ⟨g, 0, none⟩) l.length cap) l := H2.out.move hT.1 fun k hk => by cases hk; exact hT.2
      obtain ⟨c0, c1, c2⟩ := CellRow.at hrow (i := k) (by omega)
      generalize hcl : l[k] = c at c0 c1 c2
      have Hcl := Lib.hid hcl
      clear hcl hrow
      obtain ⟨ca, cb, ch⟩ := c
      dsimp only at c0 c1 c2
      go_wp2_with fail
      have hb3 : (wr.alloc (.cells #[.int .i64 ca, .int .i64 cb, .int .i64 ch] 40)).heap[W.heap.size]? = some (.cells #[.int .i64 la, .int .i64 lb, .int .i64 ha, .int .i64 hb] 53 (0, 0)) := (Below.heap_alloc _ _ _ hbl).trans hbb
      have hr3 : (wr.alloc (.cells #[.int .i64 ca, .int .i64 cb, .int .i64 ch] 40)).heap[w.heap.size]? = some (.cells #[.int .i64 0, .int .i64 0, .int .i64 0, .int .i64 0] 53 (0, 0)) := (Below.heap_alloc _ _ _ (lt_of_block hr)).trans hr
      have hc3 : (wr.alloc (.cells #[.int .i64 ca, .int .i64 cb, .int .i64 ch] 40)).heap[wr.heap.size]? = some (.cells #[.int .i64 ca, .int .i64 cb, .int .i64 ch] 40 (0, 0)) := heap_alloc_new _ _
      have hB3 := hB.alloc hB.size (.cells #[.int .i64 ca, .int .i64 cb, .int .i64 ch] 40)
      have hTa : Touch (fun k => w.heap.size ≤ k) W2 (wr.alloc (.cells #[.int .i64 ca, .int .i64 cb, .int .i64 ch] 40)) := hT.1.alloc _
      have hW : w.heap.size ≤ W.heap.size := by omega
      generalize wr.alloc (.cells #[.int .i64 ca, .int .i64 cb, .int .i64 ch] 40) = W3 at *
      have v0 : W3.cell? ⟨W.heap.size, 0, none⟩ = some (.int .i64 la) := by rw [cell_of_row _ _ _ _ _ _ hb3]; rfl
      have v1 : W3.cell? ⟨W.heap.size, 1, none⟩ = some (.int .i64 lb) := by rw [cell_of_row _ _ _ _ _ _ hb3]; rfl
      have v2 : W3.cell? ⟨W.heap.size, 2, none⟩ = some (.int .i64 ha) := by rw [cell_of_row _ _ _ _ _ _ hb3]; rfl
      have v3 : W3.cell? ⟨W.heap.size, 3, none⟩ = some (.int .i64 hb) := by rw [cell_of_row _ _ _ _ _ _ hb3]; rfl
      have u0 : W3.cell? ⟨wr.heap.size, 0, none⟩ = some (.int .i64 ca) := by rw [cell_of_row _ _ _ _ _ _ hc3]; rfl
      have u1 : W3.cell? ⟨wr.heap.size, 1, none⟩ = some (.int .i64 cb) := by rw [cell_of_row _ _ _ _ _ _ hc3]; rfl
      have f3 : ∀ j, W3.frozen? ⟨W.heap.size, j, none⟩ = false := fun j => frozen_of_row _ _ _ _ _ hb3
      have hT3 : Touch (fun k => w.heap.size ≤ k) W2 W3 := hTa
      clear hTa
      refine wp_region_planU 14 (fun w' => w'.cell? ⟨W.heap.size, 0, none⟩ = some (.int .i64 la) ∧ w'.cell? ⟨W.heap.size, 2, none⟩ = some (.int .i64 ha)) (fun w' => w'.cell? ⟨wr.heap.size, 0, none⟩ = some (.int .i64 ca))
        [14, 15, 16, 17, 18, 19] [10, 11, 12, 13] [0, 1, 2, 3, 4, 5, 6, 7, 8, 9, 10, 11, 12, 13, 14, 15, 16, 17, 18, 19] (by kernel_rfl) (by kernel_rfl) (fun _ _ d _ _ h => by cases d <;> exact h) ⟨v0, v2⟩ u0 ?_
      repeat ((first | (refine' wpPlanU_q rfl rfl rfl ?_ ?_; rotate_left; (focus (intro _ hTw hSw; (try dsimp only at hTw hSw); go_simp; (try with_reducible rfl); done))) | (refine' wpPlanU_e rfl rfl rfl ?_ ?_; rotate_left; (focus (intro _ hTw; (try dsimp only at hTw); go_simp; (try with_reducible rfl); done)))); (try simp only [Act.put, List.setIfInBounds_toArray, List.set_cons_zero, List.set_cons_succ]))
      (refine wpPlanU_x rfl rfl (fun K hK => ?_); go_simp; refine hK _ _ (fun h => absurd h (by decide)) (by assumption) ?_; clear hK K; (try simp only [Act.put, List.setIfInBounds_toArray, List.set_cons_zero, List.set_cons_succ]))
      (refine wpPlanU_x rfl rfl (fun K hK => ?_); go_simp; refine hK _ _ (fun h => absurd h (by decide)) (by assumption) ?_; clear hK K; (try simp only [Act.put, List.setIfInBounds_toArray, List.set_cons_zero, List.set_cons_succ]))
      refine wpPlanU_x rfl rfl (fun K hK => ?_)
      go_simp
      have hT9 : (W3.drew.setCell ⟨W.heap.size, 0, none⟩ (.int .i64 (min la ca))).cell? ⟨wr.heap.size, 0, none⟩ = some (.int .i64 ca) := ((Touch.refl (fun k => k = W.heap.size) W3.drew).setCell (p := ⟨W.heap.size, 0, none⟩) (fun _ => rfl) (.int .i64 (min la ca))).kept u0 (show ¬ wr.heap.size = W.heap.size by omega)
      refine hK _ _ (fun h => absurd h (by decide)) hT9 ?_
      clear hK K
      (try simp only [Act.put, List.setIfInBounds_toArray, List.set_cons_zero, List.set_cons_succ])
      (refine wpPlanU_x rfl rfl (fun K hK => ?_); go_simp; refine hK _ _ (fun h => absurd h (by decide)) (by assumption) ?_; clear hK K; (try simp only [Act.put, List.setIfInBounds_toArray, List.set_cons_zero, List.set_cons_succ]))
      (refine wpPlanU_x rfl rfl (fun K hK => ?_); go_simp; refine hK _ _ (fun h => absurd h (by decide)) (by assumption) ?_; clear hK K; (try simp only [Act.put, List.setIfInBounds_toArray, List.set_cons_zero, List.set_cons_succ]))
      refine wpPlanU_x rfl rfl (fun K hK => ?_)
      go_simp
      refine hK _ _ (fun h => absurd h (by decide)) (((Touch.refl (fun k => k = W.heap.size) _).setCell (p := ⟨W.heap.size, 2, none⟩) (fun _ => rfl) _).kept hT9 (show ¬ wr.heap.size = W.heap.size by omega)) (wpPlanU_nil ?_)
      clear hK K hT9
      (try simp only [Act.put, List.setIfInBounds_toArray, List.set_cons_zero, List.set_cons_succ])
      have hb4 : ((W3.setCell ⟨W.heap.size, 0, none⟩ (.int .i64 (min la ca))).setCell ⟨W.heap.size, 2, none⟩ (.int .i64 (max ha ca))).drew.heap[W.heap.size]? = some (.cells #[.int .i64 (min la ca), .int .i64 lb, .int .i64 (max ha ca), .int .i64 hb] 53 (0, 0)) := heap_setCell_same _ _ _ _ _ _ (heap_setCell_same W3 _ 0 _ _ _ hb3)
      have hT4 : Touch (fun k => k = W.heap.size) W3 ((W3.setCell ⟨W.heap.size, 0, none⟩ (.int .i64 (min la ca))).setCell ⟨W.heap.size, 2, none⟩ (.int .i64 (max ha ca))).drew := (((Touch.refl (fun k => k = W.heap.size) W3).setCell (p := ⟨W.heap.size, 0, none⟩) (fun _ => rfl) _).setCell (p := ⟨W.heap.size, 2, none⟩) (fun _ => rfl) _).drew
      have hB4 := ((hB3.setCell (p := ⟨W.heap.size, 0, none⟩) hW (.int .i64 (min la ca))).setCell (p := ⟨W.heap.size, 2, none⟩) hW (.int .i64 (max ha ca))).drew
      generalize ((W3.setCell ⟨W.heap.size, 0, none⟩ (.int .i64 (min la ca))).setCell ⟨W.heap.size, 2, none⟩ (.int .i64 (max ha ca))).drew = W4 at *
      obtain ⟨la', hla, ha', hha, hb4⟩ : ∃ la' : Int, min la ca = la' ∧ ∃ ha' : Int, max ha ca = ha' ∧ W4.heap[W.heap.size]? = some (.cells #[.int .i64 la', .int .i64 lb, .int .i64 ha', .int .i64 hb] 53 (0, 0)) := ⟨_, rfl, _, rfl, hb4⟩
      rw [hla, hha]
      have Hla := Lib.hid hla
      have Hha := Lib.hid hha
      clear hla hha
      have hr4 := (hT4.block w.heap.size (lt_of_block hr3) (by omega)).trans hr3
      have hc4 := (hT4.block wr.heap.size (lt_of_block hc3) (by omega)).trans hc3
      clear v0 v1 v2 v3 u0 u1 f3
      have v0 : W4.cell? ⟨W.heap.size, 0, none⟩ = some (.int .i64 la') := by rw [cell_of_row _ _ _ _ _ _ hb4]; rfl
      have v1 : W4.cell? ⟨W.heap.size, 1, none⟩ = some (.int .i64 lb) := by rw [cell_of_row _ _ _ _ _ _ hb4]; rfl
      have v2 : W4.cell? ⟨W.heap.size, 2, none⟩ = some (.int .i64 ha') := by rw [cell_of_row _ _ _ _ _ _ hb4]; rfl
      have v3 : W4.cell? ⟨W.heap.size, 3, none⟩ = some (.int .i64 hb) := by rw [cell_of_row _ _ _ _ _ _ hb4]; rfl
      have u0 : W4.cell? ⟨wr.heap.size, 0, none⟩ = some (.int .i64 ca) := by rw [cell_of_row _ _ _ _ _ _ hc4]; rfl
      have u1 : W4.cell? ⟨wr.heap.size, 1, none⟩ = some (.int .i64 cb) := by rw [cell_of_row _ _ _ _ _ _ hc4]; rfl
      have f3 : ∀ j, W4.frozen? ⟨W.heap.size, j, none⟩ = false := fun j => frozen_of_row _ _ _ _ _ hb4
      go_wp2_with fail
      refine wp_region_planU 14 (fun w' => w'.cell? ⟨W.heap.size, 1, none⟩ = some (.int .i64 lb) ∧ w'.cell? ⟨W.heap.size, 3, none⟩ = some (.int .i64 hb)) (fun w' => w'.cell? ⟨wr.heap.size, 1, none⟩ = some (.int .i64 cb))
        [14, 15, 16, 17, 18, 19] [10, 11, 12, 13] [0, 1, 2, 3, 4, 5, 6, 7, 8, 9, 10, 11, 12, 13, 14, 15, 16, 17, 18, 19] (by kernel_rfl) (by kernel_rfl) (fun _ _ d _ _ h => by cases d <;> exact h) ⟨v1, v3⟩ u1 ?_
      repeat ((first | (refine' wpPlanU_q rfl rfl rfl ?_ ?_; rotate_left; (focus (intro _ hTw hSw; (try dsimp only at hTw hSw); go_simp; (try with_reducible rfl); done))) | (refine' wpPlanU_e rfl rfl rfl ?_ ?_; rotate_left; (focus (intro _ hTw; (try dsimp only at hTw); go_simp; (try with_reducible rfl); done)))); (try simp only [Act.put, List.setIfInBounds_toArray, List.set_cons_zero, List.set_cons_succ]))
      (refine wpPlanU_x rfl rfl (fun K hK => ?_); go_simp; refine hK _ _ (fun h => absurd h (by decide)) (by assumption) ?_; clear hK K; (try simp only [Act.put, List.setIfInBounds_toArray, List.set_cons_zero, List.set_cons_succ]))
      (refine wpPlanU_x rfl rfl (fun K hK => ?_); go_simp; refine hK _ _ (fun h => absurd h (by decide)) (by assumption) ?_; clear hK K; (try simp only [Act.put, List.setIfInBounds_toArray, List.set_cons_zero, List.set_cons_succ]))
      refine wpPlanU_x rfl rfl (fun K hK => ?_)
      go_simp
      have hT9 : (W4.drew.setCell ⟨W.heap.size, 1, none⟩ (.int .i64 (min lb cb))).cell? ⟨wr.heap.size, 1, none⟩ = some (.int .i64 cb) := ((Touch.refl (fun k => k = W.heap.size) W4.drew).setCell (p := ⟨W.heap.size, 1, none⟩) (fun _ => rfl) (.int .i64 (min lb cb))).kept u1 (show ¬ wr.heap.size = W.heap.size by omega)
      refine hK _ _ (fun h => absurd h (by decide)) hT9 ?_
      clear hK K
      (try simp only [Act.put, List.setIfInBounds_toArray, List.set_cons_zero, List.set_cons_succ])
      (refine wpPlanU_x rfl rfl (fun K hK => ?_); go_simp; refine hK _ _ (fun h => absurd h (by decide)) (by assumption) ?_; clear hK K; (try simp only [Act.put, List.setIfInBounds_toArray, List.set_cons_zero, List.set_cons_succ]))
      (refine wpPlanU_x rfl rfl (fun K hK => ?_); go_simp; refine hK _ _ (fun h => absurd h (by decide)) (by assumption) ?_; clear hK K; (try simp only [Act.put, List.setIfInBounds_toArray, List.set_cons_zero, List.set_cons_succ]))
      refine wpPlanU_x rfl rfl (fun K hK => ?_)
      go_simp
      refine hK _ _ (fun h => absurd h (by decide)) (((Touch.refl (fun k => k = W.heap.size) _).setCell (p := ⟨W.heap.size, 3, none⟩) (fun _ => rfl) _).kept hT9 (show ¬ wr.heap.size = W.heap.size by omega)) (wpPlanU_nil ?_)
      clear hK K hT9
      (try simp only [Act.put, List.setIfInBounds_toArray, List.set_cons_zero, List.set_cons_succ])
      have hb5 : ((W4.setCell ⟨W.heap.size, 1, none⟩ (.int .i64 (min lb cb))).setCell ⟨W.heap.size, 3, none⟩ (.int .i64 (max hb cb))).drew.heap[W.heap.size]? = some (.cells #[.int .i64 la', .int .i64 (min lb cb), .int .i64 ha', .int .i64 (max hb cb)] 53 (0, 0)) := heap_setCell_same _ _ _ _ _ _ (heap_setCell_same W4 _ 1 _ _ _ hb4)
      have hT5 : Touch (fun k => k = W.heap.size) W4 ((W4.setCell ⟨W.heap.size, 1, none⟩ (.int .i64 (min lb cb))).setCell ⟨W.heap.size, 3, none⟩ (.int .i64 (max hb cb))).drew := (((Touch.refl (fun k => k = W.heap.size) W4).setCell (p := ⟨W.heap.size, 1, none⟩) (fun _ => rfl) _).setCell (p := ⟨W.heap.size, 3, none⟩) (fun _ => rfl) _).drew
      have hB5 := ((hB4.setCell (p := ⟨W.heap.size, 1, none⟩) hW (.int .i64 (min lb cb))).setCell (p := ⟨W.heap.size, 3, none⟩) hW (.int .i64 (max hb cb))).drew
      generalize ((W4.setCell ⟨W.heap.size, 1, none⟩ (.int .i64 (min lb cb))).setCell ⟨W.heap.size, 3, none⟩ (.int .i64 (max hb cb))).drew = W5 at *
      have hr5 := (hT5.block w.heap.size (lt_of_block hr4) (by omega)).trans hr4
      clear v0 v1 v2 v3 u0 u1 f3
      have hT6 : Touch (fun k => w.heap.size ≤ k) W2 W5 := (hT3.trans (S'' := fun k => w.heap.size ≤ k) hT4 (fun _ _ h => h) (fun x _ hx => by omega)).trans (S'' := fun k => w.heap.size ≤ k) hT5 (fun _ _ h => h) (fun x _ hx => by omega)
      clear hb3 hr3 hc3 hB3 hT3 hb4 hT4 hB4 hr4 hc4
      go_wp2
      go_roundg (l.length - (k + 1))
      case measure => omega
      case rel =>
        refine ⟨k + 1, rfl, by omega, by go_num, hB5, ⟨hT6, hT.2⟩, hr5, _, _, _, _, hb5, ?_⟩
        rw [List.take_succ_eq_append_getElem (by omega), ← List.cons_append]
        exact Hbox.out.more _ (by rw [Hcl.out]; exact Hla.out.symm) (by rw [Hcl.out]) (by rw [Hcl.out]; exact Hha.out.symm) (by rw [Hcl.out])

end Go.Proofs.Ytehmbhdapgkbcaa
