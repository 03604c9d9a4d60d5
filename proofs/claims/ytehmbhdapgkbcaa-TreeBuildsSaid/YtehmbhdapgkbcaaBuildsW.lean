/- TreeBuilds: the walk of the law. -/
import Derived.Test.YtehmbhdapgkbcaaBuilds
namespace Go.Proofs.Ytehmbhdapgkbcaa
open Go.RowKit

/-- The box of a set, as tree.Box tells it. -/
def Tells (s : List Cl) (la lb ha hb : Int) (is : Bool) : Prop := (s = [] ∧ la = 0 ∧ lb = 0 ∧ ha = 0 ∧ hb = 0 ∧ is = false) ∨ (is = true ∧ BoxOf s la lb ha hb)

theorem tbox_set {w : World} {p : Nat} {F : Foot} {A : Ar} (h : ArS w p F A) {r L n : Nat} {s : List Cl} (hI : PutsI A r L s n) (hn : A.nodes.length < 100000000) (h4 : n < 10000) :
    Calls Try.prog 20 #[.pointer (some ⟨p, 0, none⟩), .int .u32 r] w fun e w' => (∃ la lb ha hb is, e = .returned (.tuple #[edgV la lb ha hb, .bool is]) ∧ Tells s la lb ha hb is) ∧ Below w.heap.size w w' := by
  have hlv := hI.lv
  have hlo := hI.lo
  have h3 : 3 ≤ A.lv r := by omega
  by_cases hs : s = []
  · have hc := cnt_set hI h4
    rw [hs] at hc
    refine (tbox_none h (lvl_lt h3) hn hc h3).mono fun e w' hp => ⟨⟨0, 0, 0, 0, false, hp.1, .inl ⟨hs, rfl, rfl, rfl, rfl, rfl⟩⟩, hp.2⟩
  · have hc : A.cells r ≠ [] := fun h0 => by
      have := hI.clen
      rw [h0] at this
      exact hs (List.length_eq_zero_iff.1 this.symm)
    refine (tbox_some h hI.ok h3 hn hc).mono fun e w' hp => ?_
    obtain ⟨⟨la, lb, ha, hb, he, hb'⟩, hB⟩ := hp
    exact ⟨⟨la, lb, ha, hb, true, he, .inr ⟨rfl, hb'.ext hI.mem⟩⟩, hB⟩

theorem rbox_set {s : List Cl} {v : Value} {w : World} (h : RefRow w v s) (hl : s.length < 100000) : Calls Try.prog 22 #[v] w (RBoxPost s w) := by
  by_cases hs : s = []
  · subst hs
    obtain ⟨va, cap, rfl, _⟩ := h.slice
    exact rbox_none w
  · exact rbox_some h hl (List.length_pos_iff.2 hs)

theorem boxed_set {s : List Cl} {la lb ha hb : Int} {is : Bool} (ht : Tells s la lb ha hb is) {v : Value} {w0 w : World}
    (hv : (s = [] ∧ v = .slice none 0 0) ∨ ∃ g la lb ha hb, v = .slice (some ⟨g, 0, none⟩) 4 4 ∧ w0.heap.size ≤ g ∧ w.heap[g]? = some (.cells #[.int .i64 la, .int .i64 lb, .int .i64 ha, .int .i64 hb] 2 (0, 0)) ∧ BoxOf s la lb ha hb) :
    Calls Try.prog 21 #[edgV la lb ha hb, .bool is, v] w fun e w' => e = .returned (.bool true) ∧ Below w.heap.size w w' := by
  rcases ht with ⟨hs, rfl, rfl, rfl, rfl, rfl⟩ | ⟨rfl, hb1⟩
  · rcases hv with ⟨_, rfl⟩ | ⟨g, a, b, c, d, _, _, _, hb2⟩
    · exact boxed_none w
    · obtain ⟨x, hx, _⟩ := hb2.la
      rw [hs] at hx; simp at hx
  · rcases hv with ⟨hs, _⟩ | ⟨g, a, b, c, d, rfl, _, hg, hb2⟩
    · obtain ⟨x, hx, _⟩ := hb1.la
      rw [hs] at hx; simp at hx
    · obtain ⟨rfl, rfl, rfl, rfl⟩ := hb1.uniq hb2
      exact boxed_some hg

set_option maxHeartbeats 16000000 in
set_option maxRecDepth 100000 in
theorem builds_any {raw : List Cl} {v1 : Value} {c : Cl} {most : Int} {w : World} (h1 : CellsAt w v1 raw) (hmost : I64 most) :
    Calls Try.prog 4 #[v1, .agg #[.int .i64 c.a, .int .i64 c.b, .int .i64 c.h], .int .i64 most] w fun e w' => e = .returned (.bool true) ∧ Below w.heap.size w w' := by
  have hB0 : Below w.heap.size w (w.alloc (.cells #[.int .i64 c.a, .int .i64 c.b, .int .i64 c.h] 32)) := (Below.refl _ _).alloc (Nat.le_refl _) _
  have hC0 : (w.alloc (.cells #[.int .i64 c.a, .int .i64 c.b, .int .i64 c.h] 32)).heap[w.heap.size]? = some (.cells #[.int .i64 c.a, .int .i64 c.b, .int .i64 c.h] 32 (0, 0)) := heap_alloc_new _ _
  have hawake := awake_any (w.alloc (.cells #[.int .i64 c.a, .int .i64 c.b, .int .i64 c.h] 32))
  have H1 := Lib.hid h1
  clear h1
  go_enter Try.func4, Try.ntmps4
  go_wp2_with fail
  generalize (w.alloc (.cells #[.int .i64 c.a, .int .i64 c.b, .int .i64 c.h] 32)) = W0 at *
  have hz0 := lt_of_block hC0
  refine hawake.mono ?_
  rintro e w1 ⟨rfl, hB1'⟩
  have hC1 := (hB1'.block _ (by omega)).trans hC0
  have hB1 : Below w.heap.size w w1 := hB0.trans (hB1'.mono (by omega))
  have hwide := wide_any (H1.out.move hB1)
  have hz1 := lt_of_block hC1
  clear hawake
  go_wp2_with fail
  refine hwide.mono ?_
  rintro e w2 ⟨vs, rfl, hrow2, hB2, hnew2⟩
  have hC2 := (hB2.block _ hz1).trans hC1
  have hB3 : Below w.heap.size w w2 := hB1.trans (hB2.mono (by omega))
  have hz2 := lt_of_block hC2
  have hmake := make_any hrow2 (wide_set raw) (by have := wideL_le raw; omega)
  clear hwide
  go_wp2_with fail
  refine hmake.mono ?_
  rintro e w3 ⟨p, F, A, r, rfl, hS3, hok, hmo, hrm, hr, hR, hB4, hf4⟩
  have hC3 := (hB4.block _ hz2).trans hC2
  have hz3 := lt_of_block hC3
  have hB5 : Below w.heap.size w w3 := hB3.trans (hB4.mono (by omega))
  have hI := PutsI.start (raw := raw) hok hmo hR
  have hLv := hR.1
  have hrow3 : RefRow w3 vs (wideL raw) := hrow2.move (S := Only) (.of_new hB4) fun _ _ h => h
  have hwl := wideL_le raw
  have hset := wide_set raw
  have hrl := A.room_le
  have hcnt := cnt_set hI (by omega)
  have hclen := hI.clen
  generalize wideL raw = s at *
  clear hmake hrow2 hnew2 hB1 hB2 hB3 hB4 hf4 hB1'
  have hlo := hLv.lo
  have hcells := cells_good hS3 hok (i := r) (by omega) (by omega) (by omega) (most := 100) (by omega) (by omega)
  go_wp2_with fail
  refine hcells.mono ?_
  rintro e w4 ⟨v4, l4, rfl, hcr4, hrise4, hmem4, -, hB6, hnew4⟩
  obtain rfl : l4 = s := rise_ext hrise4 hI.rise fun c => (hmem4 c).trans (hI.mem c)
  have hS4 := hS3.new hB6
  have hrow4 : RefRow w4 vs l4 := hrow3.move (S := Only) (.of_new hB6) fun _ _ h => h
  have hC4 := (hB6.block _ hz3).trans hC3
  have hz4 := lt_of_block hC4
  have hB7 : Below w.heap.size w w4 := hB5.trans (hB6.mono (by omega))
  have htb := tbox_set hS4 hI (by omega) (by omega)
  clear hcells hrow3 hB5 hB6 hrise4 hmem4
  go_wp2_with fail
  refine htb.mono ?_
  rintro e w5 ⟨⟨la, lb, ha, hb, is, rfl, htell⟩, hB8⟩
  have hS5 := hS4.new hB8
  have hrow5 : RefRow w5 vs l4 := hrow4.move (S := Only) (.of_new hB8) fun _ _ h => h
  have hcr5 : CellRow w5 v4 l4 := hcr4.move (S := Only) (.of_new hB8) fun _ _ h => h
  have hC5 := (hB8.block _ hz4).trans hC4
  have hz5 := lt_of_block hC5
  have hB9 : Below w.heap.size w w5 := hB7.trans (hB8.mono (by omega))
  clear htb hrow4 hcr4 hB7 hB8 hS4 hS3
  have hBa := (Below.refl w5.heap.size w5).alloc (Nat.le_refl _) (.cells #[.int .i64 la, .int .i64 lb, .int .i64 ha, .int .i64 hb] 53)
  have hX6 : (w5.alloc (.cells #[.int .i64 la, .int .i64 lb, .int .i64 ha, .int .i64 hb] 53)).heap[w5.heap.size]? = some (.cells #[.int .i64 la, .int .i64 lb, .int .i64 ha, .int .i64 hb] 53 (0, 0)) := heap_alloc_new _ _
  have hS6 := hS5.new hBa
  have hrow6 : RefRow (w5.alloc (.cells #[.int .i64 la, .int .i64 lb, .int .i64 ha, .int .i64 hb] 53)) vs l4 := hrow5.move (S := Only) (.of_new hBa) fun _ _ h => h
  have hcr6 : CellRow (w5.alloc (.cells #[.int .i64 la, .int .i64 lb, .int .i64 ha, .int .i64 hb] 53)) v4 l4 := hcr5.move (S := Only) (.of_new hBa) fun _ _ h => h
  have hC6 := (hBa.block _ hz5).trans hC5
  have hB10 : Below w.heap.size w (w5.alloc (.cells #[.int .i64 la, .int .i64 lb, .int .i64 ha, .int .i64 hb] 53)) := hB9.trans (hBa.mono (by omega))
  obtain ⟨va, vcap, hvs, _⟩ := hrow6.slice
  subst hvs
  obtain ⟨va4, vcap4, hv4, _⟩ := hcr6.slice
  subst hv4
  simp only [errV]
  go_wp2_with fail
  generalize (w5.alloc (.cells #[.int .i64 la, .int .i64 lb, .int .i64 ha, .int .i64 hb] 53)) = w6 at *
  have hz6 := lt_of_block hX6
  clear hS5 hrow5 hcr5 hC5 hB9 hBa
  have hS : ∀ W, Below w6.heap.size w6 W → (W.cell? ⟨w5.heap.size, 0, none⟩ = some (.int .i64 la) ∧ W.cell? ⟨w5.heap.size, 1, none⟩ = some (.int .i64 lb) ∧ W.cell? ⟨w5.heap.size, 2, none⟩ = some (.int .i64 ha) ∧ W.cell? ⟨w5.heap.size, 3, none⟩ = some (.int .i64 hb)) ∧
      (W.cell? ⟨w.heap.size, 0, none⟩ = some (.int .i64 c.a) ∧ W.cell? ⟨w.heap.size, 1, none⟩ = some (.int .i64 c.b) ∧ W.cell? ⟨w.heap.size, 2, none⟩ = some (.int .i64 c.h)) := fun W hb => by
    have e1 := (hb.block _ hz6).trans hX6
    have e2 := (hb.block _ (lt_of_block hC6)).trans hC6
    refine ⟨four_cells e1, ?_, ?_, ?_⟩ <;> (rw [cell_of_row _ _ _ _ _ _ e2]; rfl)
  refine wp_region_planG 43 (fun w' => (w'.cell? ⟨w5.heap.size, 0, none⟩ = some (.int .i64 la) ∧ w'.cell? ⟨w5.heap.size, 1, none⟩ = some (.int .i64 lb) ∧ w'.cell? ⟨w5.heap.size, 2, none⟩ = some (.int .i64 ha) ∧ w'.cell? ⟨w5.heap.size, 3, none⟩ = some (.int .i64 hb)) ∧
      (w'.cell? ⟨w.heap.size, 0, none⟩ = some (.int .i64 c.a) ∧ w'.cell? ⟨w.heap.size, 1, none⟩ = some (.int .i64 c.b) ∧ w'.cell? ⟨w.heap.size, 2, none⟩ = some (.int .i64 c.h)))
    [5, 12, 13, 19, 21, 27, 37, 38, 41, 43] [] [0, 1, 2, 3, 4, 5, 6, 7, 8, 9, 10, 11, 12, 13, 14, 15, 16, 17, 18, 20, 19, 21, 22, 23, 24, 25, 26, 28, 29, 30, 27, 31, 32, 33, 34, 35, 36, 39, 40, 37, 38, 41, 42, 43] (by kernel_rfl) (by kernel_rfl) (fun _ _ d _ _ h => by cases d <;> exact h) (hS _ (Below.refl _ _).drew) ?_
  repeat ((first | (refine' wpPlanG_q rfl rfl rfl ?_ ?_; rotate_left; (focus (intro _ hSw; (try dsimp only at hSw); go_simp; (try with_reducible rfl); done))) | (refine' wpPlanG_p rfl rfl rfl ?_ ?_; rotate_left; (focus (intro _; go_simp; (try with_reducible rfl); done)))); (try simp only [Act.put, List.setIfInBounds_toArray, List.set_cons_zero, List.set_cons_succ]))
  refine wpPlanG_x rfl rfl rfl (fun K hK => ?_)
  go_simp
  refine (are_same (w := w6.drew) hcr6 hrow6 (by omega)).mono ?_
  rintro e w7 ⟨rfl, hb⟩
  have hb7 : Below w6.heap.size w6 w7 := (Below.refl _ _).drew.trans hb
  have hrow7 : RefRow w7 (.slice va l4.length vcap) l4 := hrow6.move (S := Only) (.of_new hb7) fun _ _ h => h
  refine hK _ _ (fun _ => hS _ hb7) ?_
  clear hK K hb
  (try simp only [Act.put, List.setIfInBounds_toArray, List.set_cons_zero, List.set_cons_succ])
  repeat ((first | (refine' wpPlanG_q rfl rfl rfl ?_ ?_; rotate_left; (focus (intro _ hSw; (try dsimp only at hSw); go_simp; (try with_reducible rfl); done))) | (refine' wpPlanG_p rfl rfl rfl ?_ ?_; rotate_left; (focus (intro _; go_simp; (try with_reducible rfl); done)))); (try simp only [Act.put, List.setIfInBounds_toArray, List.set_cons_zero, List.set_cons_succ]))
  refine wpPlanG_x rfl rfl rfl (fun K hK => ?_)
  go_simp
  refine (rbox_set hrow7 (by omega)).mono ?_
  rintro e w8 ⟨⟨v8, rfl, hv8⟩, hb⟩
  have hz7 := hb7.size
  have hb8 : Below w6.heap.size w6 w8 := hb7.trans (hb.mono (by omega))
  refine hK _ _ (fun _ => hS _ hb8) ?_
  clear hK K hb
  (try simp only [Act.put, List.setIfInBounds_toArray, List.set_cons_zero, List.set_cons_succ])
  repeat ((first | (refine' wpPlanG_q rfl rfl rfl ?_ ?_; rotate_left; (focus (intro _ hSw; (try dsimp only at hSw); go_simp; (try with_reducible rfl); done))) | (refine' wpPlanG_p rfl rfl rfl ?_ ?_; rotate_left; (focus (intro _; go_simp; (try with_reducible rfl); done)))); (try simp only [Act.put, List.setIfInBounds_toArray, List.set_cons_zero, List.set_cons_succ]))
  refine wpPlanG_x rfl rfl rfl (fun K hK => ?_)
  go_simp
  refine (boxed_set htell hv8).mono ?_
  rintro e w9 ⟨rfl, hb⟩
  have hz8 := hb8.size
  have hb9 : Below w6.heap.size w6 w9 := hb8.trans (hb.mono (by omega))
  have hz9 := hb9.size
  have hS9 := hS6.new hb9
  have hrow9 : RefRow w9 (.slice va l4.length vcap) l4 := hrow6.move (S := Only) (.of_new hb9) fun _ _ h => h
  have hlvl9 := hS9.toArM.level (i := r) (by omega)
  rw [Ar.lvl_in hr] at hlvl9
  have hcount9 := fun W (h : ArS W p F A) => h.toArM.count (i := r) (by omega)
  rw [hcnt] at hcount9
  have hwu : IntKind.u64.wrap (l4.length : Int) = (l4.length : Int) := IntWalk.u64_in _ (by omega)
  have hnn : ((l4.length : Int) != (l4.length : Int)) = false := by simp
  refine hK _ _ (fun _ => hS _ hb9) ?_
  clear hK K hb hv8
  (try simp only [Act.put, List.setIfInBounds_toArray, List.set_cons_zero, List.set_cons_succ])
  repeat ((first | (refine' wpPlanG_q rfl rfl rfl ?_ ?_; rotate_left; (focus (intro _ hSw; (try dsimp only at hSw); go_simp; (try with_reducible rfl); done))) | (refine' wpPlanG_p rfl rfl rfl ?_ ?_; rotate_left; (focus (intro _; go_simp; (try with_reducible rfl); done)))); (try simp only [Act.put, List.setIfInBounds_toArray, List.set_cons_zero, List.set_cons_succ]))
  refine wpPlanG_x rfl rfl rfl (fun K hK => ?_)
  go_simp
  refine hlvl9.mono ?_
  rintro e w' ⟨rfl, rfl⟩
  refine hK _ _ (fun _ => hS _ hb9) ?_
  clear hK K hlvl9
  (try simp only [Act.put, List.setIfInBounds_toArray, List.set_cons_zero, List.set_cons_succ])
  repeat ((first | (refine' wpPlanG_q rfl rfl rfl ?_ ?_; rotate_left; (focus (intro _ hSw; (try dsimp only at hSw); go_simp; (try with_reducible rfl); done))) | (refine' wpPlanG_p rfl rfl rfl ?_ ?_; rotate_left; (focus (intro _; go_simp; (try with_reducible rfl); done)))); (try simp only [Act.put, List.setIfInBounds_toArray, List.set_cons_zero, List.set_cons_succ]))
  refine wpPlanG_x rfl rfl rfl (fun K hK => ?_)
  go_simp
  refine (level_ref hrow9 hset).mono ?_
  rintro e w10 ⟨L', rfl, hL', hb⟩
  have hLL : L' = (ndAt A.nodes r).lv := hL'.uniq hLv
  subst hLL
  have hb10 : Below w6.heap.size w6 w10 := hb9.trans (hb.mono (by omega))
  have hS10 := hS6.new hb10
  have hz10 := hb10.size
  refine hK _ _ (fun _ => hS _ hb10) ?_
  clear hK K hb hL'
  (try simp only [Act.put, List.setIfInBounds_toArray, List.set_cons_zero, List.set_cons_succ])
  repeat ((first | (refine' wpPlanG_q rfl rfl rfl ?_ ?_; rotate_left; (focus (intro _ hSw; (try dsimp only at hSw); go_simp; (try with_reducible rfl); done))) | (refine' wpPlanG_p rfl rfl rfl ?_ ?_; rotate_left; (focus (intro _; go_simp; (try with_reducible rfl); done)))); (try simp only [Act.put, List.setIfInBounds_toArray, List.set_cons_zero, List.set_cons_succ]))
  refine wpPlanG_x rfl rfl rfl (fun K hK => ?_)
  go_simp
  refine (hcount9 _ hS10).mono ?_
  rintro e w' ⟨rfl, rfl⟩
  refine hK _ _ (fun _ => hS _ hb10) ?_
  clear hK K hcount9
  (try simp only [Act.put, List.setIfInBounds_toArray, List.set_cons_zero, List.set_cons_succ])
  repeat ((first | (refine' wpPlanG_q rfl rfl rfl ?_ ?_; rotate_left; (focus (intro _ hSw; (try dsimp only at hSw); go_simp; (try with_reducible rfl); done))) | (refine' wpPlanG_p rfl rfl rfl ?_ ?_; rotate_left; (focus (intro _; go_simp; (try with_reducible rfl); done)))); (try simp only [Act.put, List.setIfInBounds_toArray, List.set_cons_zero, List.set_cons_succ]))
  refine wpPlanG_x rfl rfl rfl (fun K hK => ?_)
  go_simp
  refine (own_any c _).mono ?_
  rintro e w11 ⟨rfl, hb⟩
  have hb11 : Below w6.heap.size w6 w11 := hb10.trans (hb.mono (by omega))
  have hS11 := hS6.new hb11
  have hz11 := hb11.size
  refine hK _ _ (fun _ => hS _ hb11) ?_
  clear hK K hb
  (try simp only [Act.put, List.setIfInBounds_toArray, List.set_cons_zero, List.set_cons_succ])
  refine wpPlanG_x rfl rfl rfl (fun K hK => ?_)
  go_simp
  refine (get_set hS11 hI (by omega) c).mono ?_
  rintro e w12 ⟨rfl, hb⟩
  have hb12 : Below w6.heap.size w6 w12 := hb11.trans (hb.mono (by omega))
  have hz12 := hb12.size
  have hrow12 : RefRow w12 (.slice va l4.length vcap) l4 := hrow6.move (S := Only) (.of_new hb12) fun _ _ h => h
  refine hK _ _ (fun _ => hS _ hb12) ?_
  clear hK K hb
  (try simp only [Act.put, List.setIfInBounds_toArray, List.set_cons_zero, List.set_cons_succ])
  refine wpPlanG_x rfl rfl rfl (fun K hK => ?_)
  go_simp
  refine (has_ref hrow12 (by omega) c).mono ?_
  rintro e w13 ⟨rfl, hb⟩
  have hb13 : Below w6.heap.size w6 w13 := hb12.trans (hb.mono (by omega))
  have hz13 := hb13.size
  have hS13 := hS6.new hb13
  have hB14 : Below w.heap.size w w13 := hB10.trans (hb13.mono (by omega))
  refine hK _ _ (fun _ => hS _ hb13) ?_
  clear hK K hb
  (try simp only [Act.put, List.setIfInBounds_toArray, List.set_cons_zero, List.set_cons_succ])
  repeat ((first | (refine' wpPlanG_q rfl rfl rfl ?_ ?_; rotate_left; (focus (intro _ hSw; (try dsimp only at hSw); go_simp; (try with_reducible rfl); done))) | (refine' wpPlanG_p rfl rfl rfl ?_ ?_; rotate_left; (focus (intro _; go_simp; (try with_reducible rfl); done)))); (try simp only [Act.put, List.setIfInBounds_toArray, List.set_cons_zero, List.set_cons_succ]))
  refine wpPlanG_x rfl rfl rfl (fun K hK => ?_)
  go_simp
  refine hK _ _ (fun h => absurd h (by decide)) (wpPlanG_nil ?_)
  clear hK K hS hX6 hC6 hC0 hC1 hC2 hC3 hC4 htell
  (try simp only [Act.put, List.setIfInBounds_toArray, List.set_cons_zero, List.set_cons_succ])
  unfold I64 at hmost
  by_cases hm : most < (l4.length : Int)
  · have hbig := cells_big hS13 hok (i := r) (by omega) (by omega) (most := most) (by rw [hcnt]; exact .inr hm) (by omega)
    have q3 := eql_code 3 3
    go_wp2_with fail
    refine hbig.mono ?_
    rintro e w14 ⟨rfl, hb⟩
    clear hbig
    simp only [errV]
    go_wp2_with fail
    go_ret
    exact ⟨rfl, hB14.trans (hb.mono (by have := hB14.size; omega))⟩
  · have hgood := cells_good hS13 hok (i := r) (by omega) (by omega) (by omega) (most := most) (by omega) (by omega)
    go_wp2_with fail
    refine hgood.mono ?_
    rintro e w14 ⟨v14, l14, rfl, hcr14, -, -, hlen14, hb, -⟩
    obtain ⟨va5, vcap5, hv5, _⟩ := hcr14.slice
    subst hv5
    rw [hlen14, hclen]
    clear hgood hcr14
    simp only [errV]
    go_wp2_with fail
    go_ret
    exact ⟨rfl, hB14.trans (hb.mono (by have := hB14.size; omega))⟩

end Go.Proofs.Ytehmbhdapgkbcaa
