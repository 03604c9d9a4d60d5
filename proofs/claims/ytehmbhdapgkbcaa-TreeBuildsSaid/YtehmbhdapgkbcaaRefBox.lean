/- The document's Box: the walk. -/
import Derived.Test.YtehmbhdapgkbcaaRefLv
import Derived.Test.YtehmbhdapgkbcaaMeas
namespace Go.Proofs.Ytehmbhdapgkbcaa
open Go.RowKit

/-- The least A and B, the greatest ones; none: no cells. -/
def RBoxPost (l : List Cl) (w : World) (e : Ending) (w' : World) : Prop :=
  (∃ v, e = .returned v ∧ ((l = [] ∧ v = .slice none 0 0) ∨ ∃ g la lb ha hb, v = .slice (some ⟨g, 0, none⟩) 4 4 ∧ w.heap.size ≤ g ∧ w'.heap[g]? = some (.cells #[.int .i64 la, .int .i64 lb, .int .i64 ha, .int .i64 hb] 2 (0, 0)) ∧ BoxOf l la lb ha hb)) ∧ Below w.heap.size w w'

theorem rbox_none {va : Option Addr} {cap : Nat} (w : World) :
    Calls Try.prog 22 #[.slice va 0 cap] w (RBoxPost [] w) := by
  go_enter Try.func22, Try.ntmps22
  go_wp2
  go_ret
  exact ⟨⟨_, rfl, .inl ⟨rfl, rfl⟩⟩, Below.refl _ _⟩

set_option maxHeartbeats 8000000 in
set_option maxRecDepth 100000 in
theorem rbox_some {l : List Cl} {v : Value} {w : World} (h : RefRow w v l) (hl : l.length < 100000) (hp : 0 < l.length) :
    Calls Try.prog 22 #[v] w (RBoxPost l w) := by
  obtain ⟨g, cap, rfl, _, _, hg⟩ := h.form hp
  have hne : ((l.length : Int) == 0) = false := by rw [beq_eq_false_iff_ne]; omega
  have hpi : (0 : Int) < (l.length : Int) := by omega
  obtain ⟨a0, a1, a2⟩ := row3 h hp
  obtain ⟨y, hy⟩ : ∃ y, l[0] = y := ⟨_, rfl⟩
  rw [hy] at a0 a1 a2
  rw [Nat.zero_mul, Nat.zero_add] at a1
  rw [Nat.zero_mul] at a0
  have hym : y ∈ l := by rw [← hy]; exact List.getElem_mem _
  have H := Lib.hid h
  have Hym := Lib.hid hym
  clear h hy a2 hym
  have hB0 : Below w.heap.size w (w.alloc (.cells #[.int .i64 y.a, .int .i64 y.b, .int .i64 y.a, .int .i64 y.b] 2)).drew := ((Below.refl _ _).alloc (Nat.le_refl _) _).drew
  have hO0 : (w.alloc (.cells #[.int .i64 y.a, .int .i64 y.b, .int .i64 y.a, .int .i64 y.b] 2)).drew.heap[w.heap.size]? = some (.cells #[.int .i64 y.a, .int .i64 y.b, .int .i64 y.a, .int .i64 y.b] 2 (0, 0)) := heap_alloc_new _ _
  have hz0 : w.heap.size < (w.alloc (.cells #[.int .i64 y.a, .int .i64 y.b, .int .i64 y.a, .int .i64 y.b] 2)).drew.heap.size := lt_of_block hO0
  go_enter Try.func22, Try.ntmps22
  go_wp2_with fail
  refine wp_region_plan (fun w' => w'.cell? ⟨g, 0, none⟩ = some (.int .i64 y.a) ∧ w'.cell? ⟨g, 1, none⟩ = some (.int .i64 y.b))
    [16, 17] [0, 1, 2, 3, 4, 5, 6, 7, 8, 9, 10, 11, 12, 13, 14, 15, 16, 17] (by kernel_rfl) (by kernel_rfl) (fun _ _ d _ _ h => by cases d <;> exact h) ⟨a0, a1⟩ ?_
  repeat ((first | (refine' wpPlan_q rfl rfl rfl ?_ ?_; rotate_left; (focus (intro _ hSw; (try dsimp only at hSw); go_simp; (try with_reducible rfl); done))) | (refine' wpPlan_p rfl rfl rfl ?_ ?_; rotate_left; (focus (intro _; go_simp; (try with_reducible rfl); done)))); (try simp only [Act.put, List.setIfInBounds_toArray, List.set_cons_zero, List.set_cons_succ]))
  refine wpPlan_x rfl rfl (fun K hK => ?_)
  go_simp
  refine hK _ _ (fun _ => ⟨(World.cell?_alloc_past _ _ _ (World.block_lt_of_cell? _ _ a0)).trans a0, (World.cell?_alloc_past _ _ _ (World.block_lt_of_cell? _ _ a1)).trans a1⟩) ?_
  clear hK K
  (try simp only [Act.put, List.setIfInBounds_toArray, List.set_cons_zero, List.set_cons_succ])
  refine wpPlan_x rfl rfl (fun K hK => ?_)
  go_simp
  refine hK _ _ (fun h => absurd h (by decide)) (wpPlan_nil ?_)
  clear hK K a0 a1
  (try simp only [Act.put, List.setIfInBounds_toArray, List.set_cons_zero, List.set_cons_succ])
  generalize (w.alloc (.cells #[.int .i64 y.a, .int .i64 y.b, .int .i64 y.a, .int .i64 y.b] 2)).drew = W0 at *
  go_wp2_with fail
  go_loopg [28] l.length (fun m s28 wr => ∃ (k : Nat) (la lb ha hb : Int), m = l.length - k ∧ k ≤ l.length ∧ s28 = .int .i64 k ∧ Below w.heap.size w wr ∧ wr.heap[w.heap.size]? = some (.cells #[.int .i64 la, .int .i64 lb, .int .i64 ha, .int .i64 hb] 2 (0, 0)) ∧ BoxOf (y :: l.take k) la lb ha hb)
  case atStart => exact ⟨0, y.a, y.b, y.a, y.b, by omega, by omega, rfl, hB0, hO0, by rw [List.take_zero]; exact BoxOf.one y⟩
  case round =>
    clear hB0 hO0 hz0
    obtain ⟨k, la, lb, ha, hb, hm, hk, rfl, hB, hO, hbox⟩ := hrel
    have Hbox := Lib.hid hbox
    clear hbox
    have hz := lt_of_block hO
    by_cases hkn : k = l.length
    · have hge : ¬ ((k : Int) < (l.length : Int)) := by omega
      have hfin : BoxOf l la lb ha hb := by
        have := Hbox.out
        rw [hkn, List.take_length] at this
        refine this.ext fun c => ?_
        rw [List.mem_cons]
        exact ⟨fun h => h.elim (fun e => e ▸ Hym.out) id, .inr⟩
      have Hfin := Lib.hid hfin
      clear hkn hm hfin
      go_wp2
      go_ret
      exact ⟨⟨_, rfl, .inr ⟨_, la, lb, ha, hb, rfl, Nat.le_refl _, hO, Hfin.out⟩⟩, hB⟩
    · have hlt : (k : Int) < (l.length : Int) := by omega
      have hr : RefRow wr (.slice (some ⟨g, 0, none⟩) l.length cap) l := H.out.move (S := Only) (.of_new hB) fun _ _ h => h
      obtain ⟨a0, a1, a2⟩ := row3 hr (i := k) (by omega)
      have htk : l.take (k + 1) = l.take k ++ [l[k]] := List.take_succ_eq_append_getElem (by omega)
      generalize l[k] = x at a0 a1 a2 htk
      have hnext : BoxOf (y :: l.take (k + 1)) (min la x.a) (min lb x.b) (max ha x.a) (max hb x.b) := by
        rw [htk, ← List.cons_append]
        exact Hbox.out.more _ rfl rfl rfl rfl
      have Hnext := Lib.hid hnext
      clear hr htk hnext
      obtain ⟨xa, xb, xh⟩ := x
      dsimp only at *
      have hB1 : Below w.heap.size w (wr.alloc (.cells #[.int .i64 xa, .int .i64 xb, .int .i64 xh] 32)) := hB.alloc hB.size _
      have hO1 : (wr.alloc (.cells #[.int .i64 xa, .int .i64 xb, .int .i64 xh] 32)).heap[w.heap.size]? = some (.cells #[.int .i64 la, .int .i64 lb, .int .i64 ha, .int .i64 hb] 2 (0, 0)) := (Below.heap_alloc _ _ _ hz).trans hO
      have hC1 : (wr.alloc (.cells #[.int .i64 xa, .int .i64 xb, .int .i64 xh] 32)).heap[wr.heap.size]? = some (.cells #[.int .i64 xa, .int .i64 xb, .int .i64 xh] 32 (0, 0)) := heap_alloc_new _ _
      go_wp2_with fail
      generalize (wr.alloc (.cells #[.int .i64 xa, .int .i64 xb, .int .i64 xh] 32)) = W1 at *
      clear hB hO a0 a1 a2
      have c1 : W1.cell? ⟨w.heap.size, 0, none⟩ = some (.int .i64 la) := by rw [cell_of_row _ _ _ _ _ _ hO1]; rfl
      have x1 : W1.cell? ⟨wr.heap.size, 0, none⟩ = some (.int .i64 xa) := by rw [cell_of_row _ _ _ _ _ _ hC1]; rfl
      have f1 : ∀ j, W1.frozen? ⟨w.heap.size, j, none⟩ = false := fun j => frozen_of_row _ _ _ _ _ hO1
      refine wp_region_plan (fun w' => w'.cell? ⟨w.heap.size, 0, none⟩ = some (.int .i64 la) ∧ w'.cell? ⟨wr.heap.size, 0, none⟩ = some (.int .i64 xa))
        [8] [0, 1, 2, 3, 4, 5, 6, 7, 8] (by kernel_rfl) (by kernel_rfl) (fun _ _ d _ _ h => by cases d <;> exact h) ⟨c1, x1⟩ ?_
      repeat ((first | (refine' wpPlan_q rfl rfl rfl ?_ ?_; rotate_left; (focus (intro _ hSw; (try dsimp only at hSw); go_simp; (try with_reducible rfl); done))) | (refine' wpPlan_p rfl rfl rfl ?_ ?_; rotate_left; (focus (intro _; go_simp; (try with_reducible rfl); done)))); (try simp only [Act.put, List.setIfInBounds_toArray, List.set_cons_zero, List.set_cons_succ]))
      refine wpPlan_x rfl rfl (fun K hK => ?_)
      go_simp
      refine hK _ _ (fun h => absurd h (by decide)) (wpPlan_nil ?_)
      clear hK K
      (try simp only [Act.put, List.setIfInBounds_toArray, List.set_cons_zero, List.set_cons_succ])
      have hT2 : Touch (fun k => k = w.heap.size) W1 (W1.setCell ⟨w.heap.size, 0, none⟩ (.int .i64 (min la xa))).drew := ((Touch.refl (fun k => k = w.heap.size) W1).setCell (p := ⟨w.heap.size, 0, none⟩) (fun _ => rfl) _).drew
      have hO2 : (W1.setCell ⟨w.heap.size, 0, none⟩ (.int .i64 (min la xa))).drew.heap[w.heap.size]? = some (.cells #[.int .i64 (min la xa), .int .i64 (lb), .int .i64 (ha), .int .i64 (hb)] 2 (0, 0)) := heap_setCell_same _ _ 0 _ _ _ hO1
      have hC2 := (hT2.block _ (lt_of_block hC1) (by omega)).trans hC1
      have hB2 : Below w.heap.size w (W1.setCell ⟨w.heap.size, 0, none⟩ (.int .i64 (min la xa))).drew := hB1.trans (hT2.below0 (fun k hk => by omega) hB1.size)
      clear c1 x1 f1 hT2
      clear hO1 hC1 hB1
      generalize (W1.setCell ⟨w.heap.size, 0, none⟩ (.int .i64 (min la xa))).drew = W2 at *
      go_wp2_with fail
      have c2 : W2.cell? ⟨w.heap.size, 1, none⟩ = some (.int .i64 lb) := by rw [cell_of_row _ _ _ _ _ _ hO2]; rfl
      have x2 : W2.cell? ⟨wr.heap.size, 1, none⟩ = some (.int .i64 xb) := by rw [cell_of_row _ _ _ _ _ _ hC2]; rfl
      have f2 : ∀ j, W2.frozen? ⟨w.heap.size, j, none⟩ = false := fun j => frozen_of_row _ _ _ _ _ hO2
      refine wp_region_plan (fun w' => w'.cell? ⟨w.heap.size, 1, none⟩ = some (.int .i64 lb) ∧ w'.cell? ⟨wr.heap.size, 1, none⟩ = some (.int .i64 xb))
        [8] [0, 1, 2, 3, 4, 5, 6, 7, 8] (by kernel_rfl) (by kernel_rfl) (fun _ _ d _ _ h => by cases d <;> exact h) ⟨c2, x2⟩ ?_
      repeat ((first | (refine' wpPlan_q rfl rfl rfl ?_ ?_; rotate_left; (focus (intro _ hSw; (try dsimp only at hSw); go_simp; (try with_reducible rfl); done))) | (refine' wpPlan_p rfl rfl rfl ?_ ?_; rotate_left; (focus (intro _; go_simp; (try with_reducible rfl); done)))); (try simp only [Act.put, List.setIfInBounds_toArray, List.set_cons_zero, List.set_cons_succ]))
      refine wpPlan_x rfl rfl (fun K hK => ?_)
      go_simp
      refine hK _ _ (fun h => absurd h (by decide)) (wpPlan_nil ?_)
      clear hK K
      (try simp only [Act.put, List.setIfInBounds_toArray, List.set_cons_zero, List.set_cons_succ])
      have hT3 : Touch (fun k => k = w.heap.size) W2 (W2.setCell ⟨w.heap.size, 1, none⟩ (.int .i64 (min lb xb))).drew := ((Touch.refl (fun k => k = w.heap.size) W2).setCell (p := ⟨w.heap.size, 1, none⟩) (fun _ => rfl) _).drew
      have hO3 : (W2.setCell ⟨w.heap.size, 1, none⟩ (.int .i64 (min lb xb))).drew.heap[w.heap.size]? = some (.cells #[.int .i64 (min la xa), .int .i64 (min lb xb), .int .i64 (ha), .int .i64 (hb)] 2 (0, 0)) := heap_setCell_same _ _ 1 _ _ _ hO2
      have hC3 := (hT3.block _ (lt_of_block hC2) (by omega)).trans hC2
      have hB3 : Below w.heap.size w (W2.setCell ⟨w.heap.size, 1, none⟩ (.int .i64 (min lb xb))).drew := hB2.trans (hT3.below0 (fun k hk => by omega) hB2.size)
      clear c2 x2 f2 hT3
      clear hO2 hC2 hB2
      generalize (W2.setCell ⟨w.heap.size, 1, none⟩ (.int .i64 (min lb xb))).drew = W3 at *
      go_wp2_with fail
      have c3 : W3.cell? ⟨w.heap.size, 2, none⟩ = some (.int .i64 ha) := by rw [cell_of_row _ _ _ _ _ _ hO3]; rfl
      have x3 : W3.cell? ⟨wr.heap.size, 0, none⟩ = some (.int .i64 xa) := by rw [cell_of_row _ _ _ _ _ _ hC3]; rfl
      have f3 : ∀ j, W3.frozen? ⟨w.heap.size, j, none⟩ = false := fun j => frozen_of_row _ _ _ _ _ hO3
      refine wp_region_plan (fun w' => w'.cell? ⟨w.heap.size, 2, none⟩ = some (.int .i64 ha) ∧ w'.cell? ⟨wr.heap.size, 0, none⟩ = some (.int .i64 xa))
        [8] [0, 1, 2, 3, 4, 5, 6, 7, 8] (by kernel_rfl) (by kernel_rfl) (fun _ _ d _ _ h => by cases d <;> exact h) ⟨c3, x3⟩ ?_
      repeat ((first | (refine' wpPlan_q rfl rfl rfl ?_ ?_; rotate_left; (focus (intro _ hSw; (try dsimp only at hSw); go_simp; (try with_reducible rfl); done))) | (refine' wpPlan_p rfl rfl rfl ?_ ?_; rotate_left; (focus (intro _; go_simp; (try with_reducible rfl); done)))); (try simp only [Act.put, List.setIfInBounds_toArray, List.set_cons_zero, List.set_cons_succ]))
      refine wpPlan_x rfl rfl (fun K hK => ?_)
      go_simp
      refine hK _ _ (fun h => absurd h (by decide)) (wpPlan_nil ?_)
      clear hK K
      (try simp only [Act.put, List.setIfInBounds_toArray, List.set_cons_zero, List.set_cons_succ])
      have hT4 : Touch (fun k => k = w.heap.size) W3 (W3.setCell ⟨w.heap.size, 2, none⟩ (.int .i64 (max ha xa))).drew := ((Touch.refl (fun k => k = w.heap.size) W3).setCell (p := ⟨w.heap.size, 2, none⟩) (fun _ => rfl) _).drew
      have hO4 : (W3.setCell ⟨w.heap.size, 2, none⟩ (.int .i64 (max ha xa))).drew.heap[w.heap.size]? = some (.cells #[.int .i64 (min la xa), .int .i64 (min lb xb), .int .i64 (max ha xa), .int .i64 (hb)] 2 (0, 0)) := heap_setCell_same _ _ 2 _ _ _ hO3
      have hC4 := (hT4.block _ (lt_of_block hC3) (by omega)).trans hC3
      have hB4 : Below w.heap.size w (W3.setCell ⟨w.heap.size, 2, none⟩ (.int .i64 (max ha xa))).drew := hB3.trans (hT4.below0 (fun k hk => by omega) hB3.size)
      clear c3 x3 f3 hT4
      clear hO3 hC3 hB3
      generalize (W3.setCell ⟨w.heap.size, 2, none⟩ (.int .i64 (max ha xa))).drew = W4 at *
      go_wp2_with fail
      have c4 : W4.cell? ⟨w.heap.size, 3, none⟩ = some (.int .i64 hb) := by rw [cell_of_row _ _ _ _ _ _ hO4]; rfl
      have x4 : W4.cell? ⟨wr.heap.size, 1, none⟩ = some (.int .i64 xb) := by rw [cell_of_row _ _ _ _ _ _ hC4]; rfl
      have f4 : ∀ j, W4.frozen? ⟨w.heap.size, j, none⟩ = false := fun j => frozen_of_row _ _ _ _ _ hO4
      refine wp_region_plan (fun w' => w'.cell? ⟨w.heap.size, 3, none⟩ = some (.int .i64 hb) ∧ w'.cell? ⟨wr.heap.size, 1, none⟩ = some (.int .i64 xb))
        [8] [0, 1, 2, 3, 4, 5, 6, 7, 8] (by kernel_rfl) (by kernel_rfl) (fun _ _ d _ _ h => by cases d <;> exact h) ⟨c4, x4⟩ ?_
      repeat ((first | (refine' wpPlan_q rfl rfl rfl ?_ ?_; rotate_left; (focus (intro _ hSw; (try dsimp only at hSw); go_simp; (try with_reducible rfl); done))) | (refine' wpPlan_p rfl rfl rfl ?_ ?_; rotate_left; (focus (intro _; go_simp; (try with_reducible rfl); done)))); (try simp only [Act.put, List.setIfInBounds_toArray, List.set_cons_zero, List.set_cons_succ]))
      refine wpPlan_x rfl rfl (fun K hK => ?_)
      go_simp
      refine hK _ _ (fun h => absurd h (by decide)) (wpPlan_nil ?_)
      clear hK K
      (try simp only [Act.put, List.setIfInBounds_toArray, List.set_cons_zero, List.set_cons_succ])
      have hT5 : Touch (fun k => k = w.heap.size) W4 (W4.setCell ⟨w.heap.size, 3, none⟩ (.int .i64 (max hb xb))).drew := ((Touch.refl (fun k => k = w.heap.size) W4).setCell (p := ⟨w.heap.size, 3, none⟩) (fun _ => rfl) _).drew
      have hO5 : (W4.setCell ⟨w.heap.size, 3, none⟩ (.int .i64 (max hb xb))).drew.heap[w.heap.size]? = some (.cells #[.int .i64 (min la xa), .int .i64 (min lb xb), .int .i64 (max ha xa), .int .i64 (max hb xb)] 2 (0, 0)) := heap_setCell_same _ _ 3 _ _ _ hO4
      have hC5 := (hT5.block _ (lt_of_block hC4) (by omega)).trans hC4
      have hB5 : Below w.heap.size w (W4.setCell ⟨w.heap.size, 3, none⟩ (.int .i64 (max hb xb))).drew := hB4.trans (hT5.below0 (fun k hk => by omega) hB4.size)
      clear c4 x4 f4 hT5
      clear hO4 hC4 hB4
      generalize (W4.setCell ⟨w.heap.size, 3, none⟩ (.int .i64 (max hb xb))).drew = W5 at *
      go_wp2_with fail
      go_roundg (l.length - (k + 1))
      case measure => omega
      case rel => exact ⟨k + 1, _, _, _, _, rfl, by omega, by go_num, hB5, hO5, Hnext.out⟩

end Go.Proofs.Ytehmbhdapgkbcaa
