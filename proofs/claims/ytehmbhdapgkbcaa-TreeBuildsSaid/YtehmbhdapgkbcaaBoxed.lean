/- boxed: is a box the document's: the walk. -/
import Derived.Test.YtehmbhdapgkbcaaRefBox
import Derived.Test.YtehmbhdapgkbcaaBoxT
namespace Go.Proofs.Ytehmbhdapgkbcaa
open Go.RowKit

theorem eql_box0 (w : World) : (binOp .eql 53 (edgV 0 0 0 0) (edgV 0 0 0 0)).run Try.prog w = .ok (.bool true) w := by kernel_rfl

set_option maxHeartbeats 2000000 in
theorem boxed_none (w : World) : Calls Try.prog 21 #[edgV 0 0 0 0, .bool false, .slice none 0 0] w fun e w' => e = .returned (.bool true) ∧ Below w.heap.size w w' := by
  have heq := eql_box0
  go_enter Try.func21, Try.ntmps21
  go_wp2
  go_ret
  exact ⟨rfl, (Below.refl _ _).alloc (Nat.le_refl _) _⟩

set_option maxHeartbeats 4000000 in
set_option maxRecDepth 100000 in
theorem boxed_some {w : World} {g : Nat} {la lb ha hb : Int} (hg : w.heap[g]? = some (.cells #[.int .i64 la, .int .i64 lb, .int .i64 ha, .int .i64 hb] 2 (0, 0))) :
    Calls Try.prog 21 #[edgV la lb ha hb, .bool true, .slice (some ⟨g, 0, none⟩) 4 4] w fun e w' => e = .returned (.bool true) ∧ Below w.heap.size w w' := by
  have hgl := lt_of_block hg
  have hg1 : (w.alloc (.cells #[.int .i64 la, .int .i64 lb, .int .i64 ha, .int .i64 hb] 53)).heap[g]? = some (.cells #[.int .i64 la, .int .i64 lb, .int .i64 ha, .int .i64 hb] 2 (0, 0)) := (Below.heap_alloc _ _ _ hgl).trans hg
  have hc1 : (w.alloc (.cells #[.int .i64 la, .int .i64 lb, .int .i64 ha, .int .i64 hb] 53)).heap[w.heap.size]? = some (.cells #[.int .i64 la, .int .i64 lb, .int .i64 ha, .int .i64 hb] 53 (0, 0)) := heap_alloc_new _ _
  have hB1 : Below w.heap.size w (w.alloc (.cells #[.int .i64 la, .int .i64 lb, .int .i64 ha, .int .i64 hb] 53)) := (Below.refl _ _).alloc (Nat.le_refl _) _
  have r1 : (la == la) = true := by simp
  have r2 : (lb == lb) = true := by simp
  have r3 : (ha == ha) = true := by simp
  have r4 : (hb == hb) = true := by simp
  go_enter Try.func21, Try.ntmps21
  go_wp2_with fail
  generalize (w.alloc (.cells #[.int .i64 la, .int .i64 lb, .int .i64 ha, .int .i64 hb] 53)) = W1 at *
  obtain ⟨c0, c1, c2, c3⟩ := four_cells hc1
  obtain ⟨d0, d1, d2, d3⟩ := four_cells hg1
  refine wp_region_plan (fun w' => (w'.cell? ⟨w.heap.size, 0, none⟩ = some (.int .i64 la) ∧ w'.cell? ⟨w.heap.size, 1, none⟩ = some (.int .i64 lb) ∧ w'.cell? ⟨w.heap.size, 2, none⟩ = some (.int .i64 ha) ∧ w'.cell? ⟨w.heap.size, 3, none⟩ = some (.int .i64 hb)) ∧
      w'.cell? ⟨g, 0, none⟩ = some (.int .i64 la) ∧ w'.cell? ⟨g, 1, none⟩ = some (.int .i64 lb) ∧ w'.cell? ⟨g, 2, none⟩ = some (.int .i64 ha) ∧ w'.cell? ⟨g, 3, none⟩ = some (.int .i64 hb))
    [37] [0, 1, 2, 3, 4, 5, 6, 7, 8, 9, 10, 11, 12, 13, 14, 15, 16, 17, 18, 19, 20, 21, 22, 23, 24, 25, 26, 27, 28, 29, 30, 31, 32, 33, 34, 35, 36, 37] (by kernel_rfl) (by kernel_rfl) (fun _ _ d _ _ h => by cases d <;> exact h) ⟨⟨c0, c1, c2, c3⟩, d0, d1, d2, d3⟩ ?_
  repeat ((first | (refine' wpPlan_q rfl rfl rfl ?_ ?_; rotate_left; (focus (intro _ hSw; (try dsimp only at hSw); go_simp; (try with_reducible rfl); done))) | (refine' wpPlan_p rfl rfl rfl ?_ ?_; rotate_left; (focus (intro _; go_simp; (try with_reducible rfl); done)))); (try simp only [Act.put, List.setIfInBounds_toArray, List.set_cons_zero, List.set_cons_succ]))
  refine wpPlan_x rfl rfl (fun K hK => ?_)
  go_simp
  refine hK _ _ (fun h => absurd h (by decide)) (wpPlan_nil ?_)
  clear hK K
  (try simp only [Act.put, List.setIfInBounds_toArray, List.set_cons_zero, List.set_cons_succ])
  go_wp2
  go_ret
  exact ⟨rfl, hB1.drew⟩

end Go.Proofs.Ytehmbhdapgkbcaa
