/- TreePuts: the walk. -/
import Derived.Test.YtehmbhdapgkbcaaPutsP
import Derived.Lib.IfaceNeq
import Derived.Stop.IfaceNil
namespace Go.Proofs.Ytehmbhdapgkbcaa
open Go.RowKit

theorem neq_code (a b : Int) (w : World) : (binOp .neq 34 (.iface 42 (.int .i64 a)) (.iface 42 (.int .i64 b))).run Try.prog w = .ok (.bool (!(a == b))) w :=
  Lib.run_neq_iface_int w a b Try.underlying34 (by kernel_rfl) Try.underlying42

/-- Between two rounds. -/
structure PutsW (w wr : World) (p : Nat) (F : Foot) (A : Ar) (r L k : Nat) (s : List Cl) (v : Value) : Prop where
  ar : ArS wr p F A
  inv : PutsI A r L s (30 + k)
  room : A.room ≤ 1333 + k * 2300
  row : RefRow wr v s
  new : ∀ j, v.ownBlock = some j → w.heap.size ≤ j
  foot : ∀ j, F.at p j → w.heap.size ≤ j
  below : Below w.heap.size w wr
theorem PutsW.step {w wr : World} {p : Nat} {F : Foot} {A : Ar} {r L k : Nat} {s : List Cl} {v : Value} (h : PutsW w wr p F A r L k s v) {w' : World} (hb : Below wr.heap.size wr w') : PutsW w w' p F A r L k s v :=
  ⟨h.ar.new hb, h.inv, h.room, h.row.move (S := Only) (.of_new hb) fun _ _ h => h, h.new, h.foot, h.below.trans (hb.mono h.below.size)⟩
set_option maxRecDepth 100000 in
theorem PutsW.later {w wr : World} {p : Nat} {F : Foot} {A : Ar} {r L k m : Nat} {s : List Cl} {v : Value} (h : PutsW w wr p F A r L k s v) (hm : k ≤ m) : PutsW w wr p F A r L m s v :=
  ⟨h.ar, ⟨h.inv.ok, h.inv.lv, h.inv.lo, h.inv.hi, h.inv.mem, h.inv.rise, by have := h.inv.len; omega, h.inv.hs, h.inv.ins, h.inv.most⟩, by have := h.room; omega, h.row, h.new, h.foot, h.below⟩

set_option maxHeartbeats 16000000 in
set_option maxRecDepth 100000 in
theorem puts_any {raw cells : List Cl} {live : List Bool} {v1 v2 v3 : Value} {w : World} (h1 : CellsAt w v1 raw) (h2 : CellsAt w v2 cells) (h3 : BoolsAt w v3 live) :
    Calls Try.prog 3 #[v1, v2, v3] w fun e w' => e = .returned (.bool true) ∧ Below w.heap.size w w' := by
  obtain ⟨va2, vcap2, rfl, hmax2⟩ := h2.slice
  obtain ⟨va3, vcap3, rfl, hmax3⟩ := h3.slice
  have hform2 : 0 < cells.length → ∃ a : Addr, va2 = some a ∧ a.block < w.heap.size ∧ ∀ i (h : i < cells.length), w.cell? (a.add (i * 3)) = some (.int .i64 cells[i].a) ∧ w.cell? ⟨(a.add (i * 3)).block, (a.add (i * 3)).off + 1, none⟩ = some (.int .i64 cells[i].b) ∧ w.cell? ⟨(a.add (i * 3)).block, (a.add (i * 3)).off + 2, none⟩ = some (.int .i64 cells[i].h) := fun hp => by
    rcases h2.form with ⟨_, rfl⟩ | ⟨a, cap, j1, j2, j3, j4, h5⟩
    · simp at hp
    · cases j1
      exact ⟨a, rfl, j2 hp, fun i hi => by rw [← addAt a _ 1 (by decide), ← addAt a _ 2 (by decide)]; exact h5 i hi⟩
  have hform3 : 0 < live.length → ∃ a : Addr, va3 = some a ∧ a.block < w.heap.size ∧ ∀ i (h : i < live.length), w.cell? (a.add i) = some (.bool live[i]) := fun hp => by
    rcases h3 with ⟨_, rfl⟩ | ⟨a, cap, j1, j2, j3, j4, h5⟩
    · simp at hp
    · cases j1
      exact ⟨a, rfl, j2 hp, h5⟩
  have H1 := Lib.hid h1
  have Hform2 := Lib.hid hform2
  have Hform3 := Lib.hid hform3
  have Hfit2 := Lib.hid h2.fit
  clear h1 h2 h3 hform2 hform3
  unfold maxLen at hmax2 hmax3
  have hawake := awake_any w
  go_enter Try.func3, Try.ntmps3
  go_wp2_with fail
  refine hawake.mono ?_
  rintro e w1 ⟨rfl, hB1⟩
  have hwide := wide_any (H1.out.move hB1)
  have hz1 := hB1.size
  clear hawake
  go_wp2_with fail
  refine hwide.mono ?_
  rintro e w2 ⟨vs, rfl, hrow2, hB2, hnew2⟩
  have hB3 : Below w.heap.size w w2 := hB1.trans (hB2.mono hz1)
  have hz3 := hB3.size
  have hmake := make_any hrow2 (wide_set raw) (by have := wideL_le raw; omega)
  clear hwide
  go_wp2_with fail
  refine hmake.mono ?_
  rintro e w3 ⟨p, F, A, r, rfl, hS, hok, hmo, hrm, hr, hR, hB4, hf4⟩
  have hB5 : Below w.heap.size w w3 := hB3.trans (hB4.mono hz3)
  have hI := PutsI.start (raw := raw) hok hmo hR
  have hW : PutsW w w3 p F A r (A.lv r) 0 (wideL raw) vs := ⟨hS, hI, by have := wideL_le raw; omega, hrow2.move (S := Only) (.of_new hB4) fun _ _ h => h, fun j hj => by have := hnew2 j hj; omega, fun j hj => by have := hf4 j hj; omega, hB5⟩
  have hrl := A.room_le
  have hwl := wideL_le raw
  have hlvl := hS.toArM.level (i := r) (by omega)
  rw [Ar.lvl_in hr] at hlvl
  clear hmake hrow2 hnew2 hB1 hB2 hB3 hB4 hf4 hR hmo hrm hI hok hS
  go_wp2_with fail
  refine hlvl.mono ?_
  rintro e w' ⟨rfl, rfl⟩
  clear hlvl
  unfold Ar.lv at hW
  generalize (ndAt A.nodes r).lv = L at *
  generalize wideL raw = s0 at *
  clear hwl hrl hr hB5 hz1 hz3
  go_wp2_with fail
  go_loopg [7, 9, 12] cells.length (fun m s7 s9 s12 wr => ∃ (k : Nat) (F : Foot) (A : Ar) (r : Nat) (s : List Cl), m = cells.length - k ∧ k ≤ cells.length ∧ k ≤ live.length ∧ k ≤ 20 ∧ s12 = .int .i64 k ∧ s9 = U32 r ∧ PutsW w wr p F A r L k s s7)
  case atStart => exact ⟨0, F, A, r, s0, by omega, by omega, by omega, by omega, rfl, rfl, hW⟩
  case round =>
    clear hW
    obtain ⟨k, F, A, r, s, hm, hk1, hk2, hk3, rfl, rfl, hW⟩ := hrel
    by_cases c1 : k = cells.length
    · have hge : ¬ ((k : Int) < (cells.length : Int)) := by omega
      clear c1
      go_wp2
      go_ret
      exact ⟨rfl, hW.below⟩
    have hlt1 : (k : Int) < (cells.length : Int) := by omega
    by_cases c2 : k = live.length
    · have hge : ¬ ((k : Int) < (live.length : Int)) := by omega
      clear c1 c2
      go_wp2
      go_ret
      exact ⟨rfl, hW.below⟩
    have hlt2 : (k : Int) < (live.length : Int) := by omega
    by_cases c3 : k = 20
    · have hge : ¬ ((k : Int) < 20) := by omega
      clear c1 c2 c3
      go_wp2
      go_ret
      exact ⟨rfl, hW.below⟩
    have hlt3 : (k : Int) < 20 := by omega
    have hk0 : (0 : Int) ≤ (k : Int) := by omega
    obtain ⟨a2, rfl, hg2, hc2⟩ := Hform2.out (by omega)
    obtain ⟨a3, rfl, hg3, hc3⟩ := Hform3.out (by omega)
    obtain ⟨x0, x1, x2⟩ := hc2 k (by omega)
    have x3 := hc3 k (by omega)
    have hfit := Hfit2.out cells[k] (List.getElem_mem _)
    generalize cells[k] = c at x0 x1 x2 hfit
    generalize live[k] = lv at x3
    clear hc2 hc3
    have hB := hW.below
    have hz := hB.size
    replace x0 := (hB.cell (p := a2.add (k * 3)) (by rw [addBlock]; exact hg2)).trans x0
    replace x1 := (hB.cell (p := ⟨(a2.add (k * 3)).block, (a2.add (k * 3)).off + 1, none⟩) (by show (a2.add (k * 3)).block < _; rw [addBlock]; exact hg2)).trans x1
    replace x2 := (hB.cell (p := ⟨(a2.add (k * 3)).block, (a2.add (k * 3)).off + 2, none⟩) (by show (a2.add (k * 3)).block < _; rw [addBlock]; exact hg2)).trans x2
    replace x3 := (hB.cell (p := a3.add k) (by rw [addBlock]; exact hg3)).trans x3
    have hbl3 : (a3.add k).block < w.heap.size := by rw [addBlock]; exact hg3
    obtain ⟨ca, cb, ch⟩ := c
    dsimp only at x0 x1 x2 hfit
    have hBa : Below wr.heap.size wr (wr.alloc (.cells #[.int .i64 ca, .int .i64 cb, .int .i64 ch] 32)) := (Below.refl _ _).alloc (Nat.le_refl _) _
    have hWa := hW.step hBa
    have d0 : (wr.alloc (.cells #[.int .i64 ca, .int .i64 cb, .int .i64 ch] 32)).cell? ⟨wr.heap.size, 0, none⟩ = some (.int .i64 ca) := World.cell?_alloc_new _ _ _ _
    have d1 : (wr.alloc (.cells #[.int .i64 ca, .int .i64 cb, .int .i64 ch] 32)).cell? ⟨wr.heap.size, 1, none⟩ = some (.int .i64 cb) := World.cell?_alloc_new _ _ _ _
    have d2 : (wr.alloc (.cells #[.int .i64 ca, .int .i64 cb, .int .i64 ch] 32)).cell? ⟨wr.heap.size, 2, none⟩ = some (.int .i64 ch) := World.cell?_alloc_new _ _ _ _
    have d3 := (hBa.cell (p := a3.add k) (by omega)).trans x3
    have hza : (wr.alloc (.cells #[.int .i64 ca, .int .i64 cb, .int .i64 ch] 32)).heap.size = wr.heap.size + 1 := World.size_alloc _ _
    have hown := own_any ⟨ca, cb, ch⟩
    have hroom := hWa.room
    have hrl := A.room_le
    have hIlv := hWa.inv.lv
    have hIlo := hWa.inv.lo
    have hIhi := hWa.inv.hi
    have hrlt := lvl_lt (A := A) (i := r) (by omega)
    dsimp only at hown
    go_wp2_with fail
    generalize (wr.alloc (.cells #[.int .i64 ca, .int .i64 cb, .int .i64 ch] 32)) = wa at *
    refine wp_region_plan (fun w' => (w'.cell? ⟨wr.heap.size, 0, none⟩ = some (.int .i64 ca) ∧ w'.cell? ⟨wr.heap.size, 1, none⟩ = some (.int .i64 cb) ∧ w'.cell? ⟨wr.heap.size, 2, none⟩ = some (.int .i64 ch)) ∧ w'.cell? (a3.add k) = some (.bool lv))
      [3, 8, 13] [0, 1, 2, 4, 5, 6, 7, 3, 8, 9, 10, 11, 12, 13] (by kernel_rfl) (by kernel_rfl) (fun _ _ d _ _ h => by cases d <;> exact h) ⟨⟨d0, d1, d2⟩, d3⟩ ?_
    repeat ((first | (refine' wpPlan_q rfl rfl rfl ?_ ?_; rotate_left; (focus (intro _ hSw; (try dsimp only at hSw); go_simp; (try with_reducible rfl); done))) | (refine' wpPlan_p rfl rfl rfl ?_ ?_; rotate_left; (focus (intro _; go_simp; (try with_reducible rfl); done)))); (try simp only [Act.put, List.setIfInBounds_toArray, List.set_cons_zero, List.set_cons_succ]))
    refine wpPlan_x rfl rfl (fun K hK => ?_)
    go_simp
    refine (hown _).mono ?_
    rintro e wb ⟨rfl, hBb'⟩
    have hBb : Below wa.heap.size wa wb := (Below.refl _ _).drew.trans hBb'
    have hWb := hWa.step hBb
    have hBab : Below wr.heap.size wr wb := hBa.trans (hBb.mono (by show wr.heap.size ≤ wa.heap.size; omega))
    have hzb : wr.heap.size + 1 ≤ wb.heap.size := by have := hBb.size; omega
    replace d0 := (hBb.cell (p := ⟨wr.heap.size, 0, none⟩) (by show wr.heap.size < wa.heap.size; omega)).trans d0
    replace d1 := (hBb.cell (p := ⟨wr.heap.size, 1, none⟩) (by show wr.heap.size < wa.heap.size; omega)).trans d1
    replace d2 := (hBb.cell (p := ⟨wr.heap.size, 2, none⟩) (by show wr.heap.size < wa.heap.size; omega)).trans d2
    replace d3 := (hBb.cell (p := a3.add k) (by show (a3.add k).block < wa.heap.size; omega)).trans d3
    refine hK _ _ (fun _ => ⟨⟨d0, d1, d2⟩, d3⟩) ?_
    clear hK K hown hBb'
    (try simp only [Act.put, List.setIfInBounds_toArray, List.set_cons_zero, List.set_cons_succ])
    have hfoot : ∀ j, F.at p j → w.heap.size ≤ j ∧ j < wr.heap.size := fun j hj => ⟨hW.foot j hj, hW.ar.toArM.foot_lt hj⟩
    by_cases hbad : ch < 0 ∨ 1 < ch
    · have hput := put_arg hWb.ar (i := r) (by omega) (c := ⟨ca, cb, ch⟩) (.inr hbad) lv
      dsimp only [clV] at hput
      refine wpPlan_x rfl rfl (fun K hK => ?_)
      go_simp
      refine hput.mono ?_
      rintro e w2 ⟨rfl, hBc⟩
      have hWc := hWb.step hBc
      replace d0 := (hBc.cell (p := ⟨wr.heap.size, 0, none⟩) (by show wr.heap.size < wb.heap.size; omega)).trans d0
      replace d1 := (hBc.cell (p := ⟨wr.heap.size, 1, none⟩) (by show wr.heap.size < wb.heap.size; omega)).trans d1
      replace d2 := (hBc.cell (p := ⟨wr.heap.size, 2, none⟩) (by show wr.heap.size < wb.heap.size; omega)).trans d2
      replace d3 := (hBc.cell (p := a3.add k) (by show (a3.add k).block < wb.heap.size; omega)).trans d3
      refine hK _ _ (fun _ => ⟨⟨d0, d1, d2⟩, d3⟩) ?_
      clear hK K hput
      (try simp only [Act.put, List.setIfInBounds_toArray, List.set_cons_zero, List.set_cons_succ])
      repeat ((first | (refine' wpPlan_q rfl rfl rfl ?_ ?_; rotate_left; (focus (intro _ hSw; (try dsimp only at hSw); go_simp; (try with_reducible rfl); done))) | (refine' wpPlan_p rfl rfl rfl ?_ ?_; rotate_left; (focus (intro _; go_simp; (try with_reducible rfl); done)))); (try simp only [Act.put, List.setIfInBounds_toArray, List.set_cons_zero, List.set_cons_succ]))
      refine wpPlan_x rfl rfl (fun K hK => ?_)
      go_simp
      refine hK _ _ (fun h => absurd h (by decide)) (wpPlan_nil ?_)
      clear hK K
      (try simp only [Act.put, List.setIfInBounds_toArray, List.set_cons_zero, List.set_cons_succ])
      have q2 := neq_code 4 4
      simp only [errV]
      go_wp2_with fail
      all_goals
        go_roundg (cells.length - (k + 1))
        case measure => omega
        case rel => exact ⟨k + 1, F, A, r, s, rfl, by omega, by omega, by omega, by go_num, rfl, hWc.later (Nat.le_succ k)⟩
    have h0 : 0 ≤ ch := by omega
    have h1 : ch ≤ 1 := by omega
    have hn0 : ¬ ch < 0 := by omega
    have hn1 : ¬ 1 < ch := by omega
    have hins := inside_ref L (by omega) (by omega) ca cb hfit.1 hfit.2.1
    cases hin : inside L ca cb
    · have hput := put_range hWb.ar hWb.inv.ok (i := r) (by omega) (by omega) (c := ⟨ca, cb, ch⟩) (by rw [hIlv]; exact hin) h0 h1 lv
      dsimp only [clV] at hput
      refine wpPlan_x rfl rfl (fun K hK => ?_)
      go_simp
      refine hput.mono ?_
      rintro e w2 ⟨rfl, hBc⟩
      have hWc := hWb.step hBc
      replace d0 := (hBc.cell (p := ⟨wr.heap.size, 0, none⟩) (by show wr.heap.size < wb.heap.size; omega)).trans d0
      replace d1 := (hBc.cell (p := ⟨wr.heap.size, 1, none⟩) (by show wr.heap.size < wb.heap.size; omega)).trans d1
      replace d2 := (hBc.cell (p := ⟨wr.heap.size, 2, none⟩) (by show wr.heap.size < wb.heap.size; omega)).trans d2
      replace d3 := (hBc.cell (p := a3.add k) (by show (a3.add k).block < wb.heap.size; omega)).trans d3
      refine hK _ _ (fun _ => ⟨⟨d0, d1, d2⟩, d3⟩) ?_
      clear hK K hput
      (try simp only [Act.put, List.setIfInBounds_toArray, List.set_cons_zero, List.set_cons_succ])
      repeat ((first | (refine' wpPlan_q rfl rfl rfl ?_ ?_; rotate_left; (focus (intro _ hSw; (try dsimp only at hSw); go_simp; (try with_reducible rfl); done))) | (refine' wpPlan_p rfl rfl rfl ?_ ?_; rotate_left; (focus (intro _; go_simp; (try with_reducible rfl); done)))); (try simp only [Act.put, List.setIfInBounds_toArray, List.set_cons_zero, List.set_cons_succ]))
      refine wpPlan_x rfl rfl (fun K hK => ?_)
      go_simp
      refine hK _ _ (fun h => absurd h (by decide)) (wpPlan_nil ?_)
      clear hK K
      (try simp only [Act.put, List.setIfInBounds_toArray, List.set_cons_zero, List.set_cons_succ])
      have q2 := neq_code 6 6
      simp only [errV]
      go_wp2_with fail
      refine (hins _).mono ?_
      rintro e w' ⟨⟨rr, rfl, hr1, -⟩, rfl⟩
      rw [hin] at hr1
      clear hins
      cases rr
      · clear hr1
        go_wp2_with fail
        go_roundg (cells.length - (k + 1))
        case measure => omega
        case rel => exact ⟨k + 1, F, A, r, s, rfl, by omega, by omega, by omega, by go_num, rfl, hWc.later (Nat.le_succ k)⟩
      · by_cases qa : ca < -1125899906842624
        · clear hr1
          go_wp2_with fail
          go_roundg (cells.length - (k + 1))
          case measure => omega
          case rel => exact ⟨k + 1, F, A, r, s, rfl, by omega, by omega, by omega, by go_num, rfl, hWc.later (Nat.le_succ k)⟩
        · have qb : cb < -1125899906842624 := by
            by_cases h : cb < -1125899906842624
            · exact h
            · simp [qa, h] at hr1
          clear hr1
          go_wp2_with fail
          go_roundg (cells.length - (k + 1))
          case measure => omega
          case rel => exact ⟨k + 1, F, A, r, s, rfl, by omega, by omega, by omega, by go_num, rfl, hWc.later (Nat.le_succ k)⟩
    · have hput := put_good hWb.ar hWb.inv.ok (i := r) (by omega) (by omega) (c := ⟨ca, cb, ch⟩) (by rw [hIlv]; exact hin) h0 h1 lv
      dsimp only [clV] at hput
      refine wpPlan_x rfl rfl (fun K hK => ?_)
      go_simp
      refine hput.mono ?_
      rintro e w2 ⟨r', err, F', A', rfl, hs', ok', hx', hst', hrm', hres⟩
      have hmost := hx'.most
      have hmo := hWb.inv.most
      have hrl' := A'.room_le
      have hT := hst'.touch
      replace d0 := hT.kept d0 (show ¬ F.at p wr.heap.size from fun h => by have := hfoot _ h; omega)
      replace d1 := hT.kept d1 (show ¬ F.at p wr.heap.size from fun h => by have := hfoot _ h; omega)
      replace d2 := hT.kept d2 (show ¬ F.at p wr.heap.size from fun h => by have := hfoot _ h; omega)
      replace d3 := hT.kept d3 (show ¬ F.at p (a3.add k).block from fun h => by have := hfoot _ h; omega)
      have hrow2 : RefRow w2 u7 s := hWb.row.move hT fun j hj hat => hWb.ar.toArM.far hWb.row (by decide) (by decide) (by decide) hj hat
      obtain ⟨hB2, hf2⟩ := hst'.new_below hWb.below hWb.foot
      refine hK _ _ (fun _ => ⟨⟨d0, d1, d2⟩, d3⟩) ?_
      clear hK K hput
      (try simp only [Act.put, List.setIfInBounds_toArray, List.set_cons_zero, List.set_cons_succ])
      repeat ((first | (refine' wpPlan_q rfl rfl rfl ?_ ?_; rotate_left; (focus (intro _ hSw; (try dsimp only at hSw); go_simp; (try with_reducible rfl); done))) | (refine' wpPlan_p rfl rfl rfl ?_ ?_; rotate_left; (focus (intro _; go_simp; (try with_reducible rfl); done)))); (try simp only [Act.put, List.setIfInBounds_toArray, List.set_cons_zero, List.set_cons_succ]))
      refine wpPlan_x rfl rfl (fun K hK => ?_)
      go_simp
      refine hK _ _ (fun h => absurd h (by decide)) (wpPlan_nil ?_)
      clear hK K
      (try simp only [Act.put, List.setIfInBounds_toArray, List.set_cons_zero, List.set_cons_succ])
      rcases hres with ⟨rfl, hrlt', hR⟩ | ⟨rfl, rfl, hful⟩
      case inr => exfalso; omega
      have hI' := hWb.inv.turn (c := ⟨ca, cb, ch⟩) hin h0 h1 hx' ok' hR
      have hslen := hWb.inv.len
      have hnew' := hWb.new
      have hzw := hWb.below.size
      clear hR hst' hT hmo hW hWa hWb hBa hBb hBab hB
      simp only [errV]
      go_wp2_with fail
      refine (hins _).mono ?_
      rintro e w' ⟨⟨rr, rfl, hr1, -⟩, rfl⟩
      rw [hin] at hr1
      clear hins
      obtain ⟨rfl, qa, qb⟩ : rr = true ∧ ¬ ca < -1125899906842624 ∧ ¬ cb < -1125899906842624 := by
        have h := hr1.symm
        simp only [Bool.and_eq_true, Bool.not_eq_true', decide_eq_false_iff_not] at h
        exact ⟨h.1.1, h.1.2, h.2⟩
      clear hr1
      have hz2 := hB2.size
      cases lv
      · have hset := less_set hrow2 (by omega) ⟨ca, cb, ch⟩
        have es : turned false ⟨ca, cb, ch⟩ s = lessOf ⟨ca, cb, ch⟩ s := rfl
        rw [← es] at hset
        generalize turned false ⟨ca, cb, ch⟩ s = s' at *
        clear es
        dsimp only at hset
        have q3 : ((L : Int) != (L : Int)) = false := by simp
        have hlo' := hI'.lo
        have hlv' := hI'.lv
        have hlen' := hI'.len
        have hcl' := hI'.clen
        go_wp2_with fail
        refine hset.mono ?_
        rintro e w4 ⟨v4, rfl, hrow4, hB4, hnew4⟩
        have hs4 := hs'.new hB4
        have hB24 := hB2.trans (hB4.mono hz2)
        have hz4 := hB4.size
        have hcells := cells_good hs4 ok' (i := r') (by omega) (by omega) (by omega) (most := 100) (by omega) (by omega)
        clear hset
        go_wp2_with fail
        refine hcells.mono ?_
        rintro e w5 ⟨v5, l', rfl, hcr5, hrise5, hmem5, -, hB5, hnew5⟩
        obtain rfl : l' = s' := rise_ext hrise5 hI'.rise fun c => (hmem5 c).trans (hI'.mem c)
        have hs5 := hs4.new hB5
        have hB25 := hB24.trans (hB5.mono (by omega))
        have hz5 := hB5.size
        have hlvl5 := hs5.toArM.level (i := r') (by omega)
        rw [Ar.lvl_in hrlt', show (ndAt A'.nodes r').lv = L from hlv'] at hlvl5
        have hrow5 : RefRow w5 v4 l' := hrow4.move (S := Only) (.of_new hB5) fun _ _ h => h
        have hare := are_same hcr5 hrow5 (by omega)
        clear hcells hmem5 hrise5
        simp only [errV]
        go_wp2_with fail
        refine hlvl5.mono ?_
        rintro e w' ⟨rfl, rfl⟩
        clear hlvl5
        go_wp2_with fail
        refine hare.mono ?_
        rintro e w6 ⟨rfl, hB6⟩
        clear hare
        have hs6 := hs5.new hB6
        have hB26 := hB25.trans (hB6.mono (by omega))
        have hz6 := hB6.size
        have hcr6 : CellRow w6 v5 l' := hcr5.move (S := Only) (.of_new hB6) fun _ _ h => h
        have hrow6 : RefRow w6 v4 l' := hrow5.move (S := Only) (.of_new hB6) fun _ _ h => h
        have hlm : l'.length * 43 ≤ 2193 := by omega
        have hbld := build_of hs6 ok' (hI'.set (by omega)) (by omega) hcr6
        go_wp2_with fail
        refine hbld.mono ?_
        rintro e w7 ⟨q, err, F7, A7, rfl, hs7, ok7, hx7, hst7, hrm7, hres⟩
        have hmost7 := hx7.most
        have hrl7 := A7.room_le
        have hmoA := hI'.most
        rcases hres with ⟨rfl, hq7, hR7⟩ | ⟨rfl, rfl, hful⟩
        case inr => exfalso; omega
        have hI7 := hI'.more hx7 ok7
        have hrow7 : RefRow w7 v4 l' := hrow6.move hst7.touch fun j hj hat => hs6.toArM.far hrow6 (by decide) (by decide) (by decide) hj hat
        obtain ⟨hB7, hf7⟩ := hst7.new_below hB26 hf2
        have hlvl7 := hs7.toArM.level (i := q) (by omega)
        rw [Ar.lvl_in hq7] at hlvl7
        have hsame := fun e => hI7.same e hR7.2
        have hfin : PutsW w w7 p F7 A7 r' L (k + 1) l' v4 := ⟨hs7, hI7, by omega, hrow7, fun j hj => by have := hnew4 j hj; omega, hf7, hB7⟩
        clear hbld hR7 hst7 hI7 hI' hcr6 hcr5 hrow4 hrow5 hrow6 hs' hs4 hs5 hs6 hs7 hB2 hB24 hB25 hB26 hB4 hB5 hB6 hB7 ok' ok7 hx' hx7 hf2 hf7 hrow2 hrow7
        unfold Ar.lv at hsame
        generalize (ndAt A7.nodes q).lv = M at *
        simp only [errV]
        by_cases hML : M = L
        · obtain rfl := hsame hML
          subst hML
          clear hsame
          go_wp2_with fail
          refine hlvl7.mono ?_
          rintro e w' ⟨rfl, rfl⟩
          go_wp2_with fail
          go_roundg (cells.length - (k + 1))
          case measure => omega
          case rel => exact ⟨k + 1, F7, A7, _, l', rfl, by omega, by omega, by omega, by go_num, rfl, hfin⟩
        · have q4 : ((M : Int) == (L : Int)) = false := by simp; omega
          clear hsame hML
          go_wp2_with fail
          refine hlvl7.mono ?_
          rintro e w' ⟨rfl, rfl⟩
          go_wp2_with fail
          go_roundg (cells.length - (k + 1))
          case measure => omega
          case rel => exact ⟨k + 1, F7, A7, r', l', rfl, by omega, by omega, by omega, by go_num, rfl, hfin⟩
      · have hset := put_set hrow2 (by omega) ⟨ca, cb, ch⟩
        have es : turned true ⟨ca, cb, ch⟩ s = putIn ⟨ca, cb, ch⟩ false s := rfl
        rw [← es] at hset
        generalize turned true ⟨ca, cb, ch⟩ s = s' at *
        clear es
        dsimp only at hset
        have q3 : ((L : Int) != (L : Int)) = false := by simp
        have hlo' := hI'.lo
        have hlv' := hI'.lv
        have hlen' := hI'.len
        have hcl' := hI'.clen
        go_wp2_with fail
        refine hset.mono ?_
        rintro e w4 ⟨v4, rfl, hrow4, hB4, hnew4⟩
        have hs4 := hs'.new hB4
        have hB24 := hB2.trans (hB4.mono hz2)
        have hz4 := hB4.size
        have hcells := cells_good hs4 ok' (i := r') (by omega) (by omega) (by omega) (most := 100) (by omega) (by omega)
        clear hset
        go_wp2_with fail
        refine hcells.mono ?_
        rintro e w5 ⟨v5, l', rfl, hcr5, hrise5, hmem5, -, hB5, hnew5⟩
        obtain rfl : l' = s' := rise_ext hrise5 hI'.rise fun c => (hmem5 c).trans (hI'.mem c)
        have hs5 := hs4.new hB5
        have hB25 := hB24.trans (hB5.mono (by omega))
        have hz5 := hB5.size
        have hlvl5 := hs5.toArM.level (i := r') (by omega)
        rw [Ar.lvl_in hrlt', show (ndAt A'.nodes r').lv = L from hlv'] at hlvl5
        have hrow5 : RefRow w5 v4 l' := hrow4.move (S := Only) (.of_new hB5) fun _ _ h => h
        have hare := are_same hcr5 hrow5 (by omega)
        clear hcells hmem5 hrise5
        simp only [errV]
        go_wp2_with fail
        refine hlvl5.mono ?_
        rintro e w' ⟨rfl, rfl⟩
        clear hlvl5
        go_wp2_with fail
        refine hare.mono ?_
        rintro e w6 ⟨rfl, hB6⟩
        clear hare
        have hs6 := hs5.new hB6
        have hB26 := hB25.trans (hB6.mono (by omega))
        have hz6 := hB6.size
        have hcr6 : CellRow w6 v5 l' := hcr5.move (S := Only) (.of_new hB6) fun _ _ h => h
        have hrow6 : RefRow w6 v4 l' := hrow5.move (S := Only) (.of_new hB6) fun _ _ h => h
        have hlm : l'.length * 43 ≤ 2193 := by omega
        have hbld := build_of hs6 ok' (hI'.set (by omega)) (by omega) hcr6
        go_wp2_with fail
        refine hbld.mono ?_
        rintro e w7 ⟨q, err, F7, A7, rfl, hs7, ok7, hx7, hst7, hrm7, hres⟩
        have hmost7 := hx7.most
        have hrl7 := A7.room_le
        have hmoA := hI'.most
        rcases hres with ⟨rfl, hq7, hR7⟩ | ⟨rfl, rfl, hful⟩
        case inr => exfalso; omega
        have hI7 := hI'.more hx7 ok7
        have hrow7 : RefRow w7 v4 l' := hrow6.move hst7.touch fun j hj hat => hs6.toArM.far hrow6 (by decide) (by decide) (by decide) hj hat
        obtain ⟨hB7, hf7⟩ := hst7.new_below hB26 hf2
        have hlvl7 := hs7.toArM.level (i := q) (by omega)
        rw [Ar.lvl_in hq7] at hlvl7
        have hsame := fun e => hI7.same e hR7.2
        have hfin : PutsW w w7 p F7 A7 r' L (k + 1) l' v4 := ⟨hs7, hI7, by omega, hrow7, fun j hj => by have := hnew4 j hj; omega, hf7, hB7⟩
        clear hbld hR7 hst7 hI7 hI' hcr6 hcr5 hrow4 hrow5 hrow6 hs' hs4 hs5 hs6 hs7 hB2 hB24 hB25 hB26 hB4 hB5 hB6 hB7 ok' ok7 hx' hx7 hf2 hf7 hrow2 hrow7
        unfold Ar.lv at hsame
        generalize (ndAt A7.nodes q).lv = M at *
        simp only [errV]
        by_cases hML : M = L
        · obtain rfl := hsame hML
          subst hML
          clear hsame
          go_wp2_with fail
          refine hlvl7.mono ?_
          rintro e w' ⟨rfl, rfl⟩
          go_wp2_with fail
          go_roundg (cells.length - (k + 1))
          case measure => omega
          case rel => exact ⟨k + 1, F7, A7, _, l', rfl, by omega, by omega, by omega, by go_num, rfl, hfin⟩
        · have q4 : ((M : Int) == (L : Int)) = false := by simp; omega
          clear hsame hML
          go_wp2_with fail
          refine hlvl7.mono ?_
          rintro e w' ⟨rfl, rfl⟩
          go_wp2_with fail
          go_roundg (cells.length - (k + 1))
          case measure => omega
          case rel => exact ⟨k + 1, F7, A7, r', l', rfl, by omega, by omega, by omega, by go_num, rfl, hfin⟩

end Go.Proofs.Ytehmbhdapgkbcaa
