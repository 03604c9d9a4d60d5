/- The walk of find: a node by its key, made if it is not there; or ErrBudget. -/
import Derived.Test.YtehmbhdapgkbcaaFind
import Derived.Test.YtehmbhdapgkbcaaPlan
namespace Go.Proofs.Ytehmbhdapgkbcaa
open Go.RowKit

theorem quiet_of_eq {P : Program} {f : FuncId} {args : Array Value} {w : World} {n : Nat} {v : Value}
    (h : Calls P f args (w.drewN n) fun e w' => e = .returned v ∧ w.drewN n = w') : Calls P f args (w.drewN n) fun e w'' => e = .returned v ∧ ∃ m, w'' = w.drewN m :=
  h.mono fun _ _ ⟨he, hm⟩ => ⟨he, n, hm.symm⟩

theorem quiet_of_eq2 {P : Program} {f : FuncId} {args : Array Value} {w : World} {k n : Nat} {v : Value}
    (h : Calls P f args (w.drewN (k + n)) fun e w' => e = .returned v ∧ w.drewN (k + n) = w') : Calls P f args (w.drewN (k + n)) fun e w'' => e = .returned v ∧ ∃ m, w'' = w.drewN (k + m) :=
  h.mono fun _ _ ⟨he, hm⟩ => ⟨he, n, hm.symm⟩

/-- An error of the program: nil, or a code. -/
def errV : Option Nat → Value
  | none => .nilIface
  | some c => .iface 42 (.int .i64 c)

/-- What find comes to. -/
inductive Found (A : Ar) (n : Nd) : Nat → Option Nat → Ar → Prop
  | old (v : Nat) (hv : v < A.nodes.length) (hk : (ndAt A.nodes v).key = n.key) : Found A n v none A
  | full (hn : ∀ v, v < A.nodes.length → (ndAt A.nodes v).key ≠ n.key) (hm : A.most ≤ A.nodes.length) : Found A n 0 (some 8) A
  | new (hn : ∀ v, v < A.nodes.length → (ndAt A.nodes v).key ≠ n.key) (hm : (A.nodes.length : Int) < A.most) : Found A n A.nodes.length none { A with nodes := A.nodes ++ [n] }

def FindPost (p : Nat) (F : Foot) (A : Ar) (n : Nd) (w : World) (e : Ending) (w' : World) : Prop :=
  ∃ r err F' A', e = .returned (.tuple #[U32 r, errV err]) ∧ Found A n r err A' ∧ ArS w' p F' A' ∧ Step p F w F' w'

/-- One node more, behind the others. -/
theorem ArM.newNodes {w w1 w2 : World} {p : Nat} {F : Foot} {A : Ar} (h : ArM w p F A) (hb : Below w.heap.size w w1) {g cap : Nat} {n : Nd}
    (hown : Own w2 83 7 (.slice (some ⟨g, 0, none⟩) (A.nodes.length + 1) cap) (A.nodes.length + 1) (A.nodes.flatMap Nd.cells ++ n.cells)) (hg : w1.grownBy w2 F.nv.ownBlock) (hl : F.nv.ownBlock = some g ∨ w.heap.size ≤ g) :
    ArM (w2.setCell ⟨p, 0, none⟩ (.slice (some ⟨g, 0, none⟩) (A.nodes.length + 1) cap)) p { F with nv := .slice (some ⟨g, 0, none⟩) (A.nodes.length + 1) cap } { A with nodes := A.nodes ++ [n] } ∧
      Step p F w { F with nv := .slice (some ⟨g, 0, none⟩) (A.nodes.length + 1) cap } (w2.setCell ⟨p, 0, none⟩ (.slice (some ⟨g, 0, none⟩) (A.nodes.length + 1) cap)) ∧
      w2.cell? ⟨p, 0, none⟩ = some F.nv ∧ w2.frozen? ⟨p, 0, none⟩ = false := by
  have h1 := h.new hb
  have hpn : F.nv.ownBlock ≠ some p := fun e => h.own_ne h.nodes (by decide) e rfl
  have hobj : w2.heap[p]? = some (.cells #[F.nv, F.sv, F.ev, .int .i64 A.most] 86 (0, 0)) := by
    rw [hg.block p h1.lt (Ne.symm hpn)]; exact h1.obj
  have hsl : Own w2 27 1 F.sv F.slots.length (F.slots.map U32) := World.ownsRow.kept h1.slots hg (by
    cases hsv : F.sv.ownBlock with
    | none => exact .inl rfl
    | some k => exact .inr (fun e => h1.slots.apart h1.nodes (by decide) hsv e.symm))
  have hem : Own w2 27 1 F.ev A.empty.length (A.empty.map U32) := World.ownsRow.kept h1.empty hg (by
    cases hsv : F.ev.ownBlock with
    | none => exact .inl rfl
    | some k => exact .inr (fun e => h1.empty.apart h1.nodes (by decide) hsv e.symm))
  have ne2 : ∀ e size v n xs, Own w2 e size v n xs → e ≠ 86 → v.ownBlock ≠ some p := fun e size v n xs ho he hk => by
    obtain ⟨c, hc⟩ := ho.heap hk
    rw [hobj] at hc
    simp at hc
    exact he hc.2.symm
  refine ⟨⟨?_, ?_, ?_, ?_, h.apart⟩, ⟨?_, ?_⟩, ?_, ?_⟩
  · have := heap_setCell_same w2 p 0 _ _ (.slice (some ⟨g, 0, none⟩) (A.nodes.length + 1) cap) hobj
    simpa using this
  · simp only [List.length_append, List.length_cons, List.length_nil, Nat.zero_add, List.flatMap_append, List.flatMap_cons, List.flatMap_nil, List.append_nil]
    exact hown.setCell _ (ne2 _ _ _ _ _ hown (by decide))
  · exact hsl.setCell _ (ne2 _ _ _ _ _ hsl (by decide))
  · exact hem.setCell _ (ne2 _ _ _ _ _ hem (by decide))
  · exact (((Touch.of_new (S := F.at p) hb).grown hg (fun k hk _ => .inr (.inl hk)))).setCell (fun _ => .inl rfl) _
  · intro k hk hk2
    rcases hk2 with hk2 | hk2 | hk2 | hk2
    · exact .inl hk2
    · cases hk2
      rcases hl with hl | hl
      · exact .inr (.inl hl)
      · have hk' : g < w.heap.size := hk
        omega
    · exact .inr (.inr (.inl hk2))
    · exact .inr (.inr (.inr hk2))
  · rw [cell_of_row _ _ _ _ _ _ hobj]; rfl
  · exact frozen_of_row _ _ _ _ _ hobj

theorem infoNode : (Try.prog.info? 83).map (fun i => (i.zero, i.size, i.bytes)) = some (some (.agg #[.int .i64 0, .int .u32 0, .int .u32 0, .int .u32 0, .int .u32 0, .int .u32 0, .int .u64 0]), 7, 40) := by kernel_rfl

set_option maxHeartbeats 4000000 in
set_option maxRecDepth 100000 in
theorem find_any {w : World} {p : Nat} {F : Foot} {A : Ar} (h : ArS w p F A) (hn : A.nodes.length < 2147483647) {k : Key} (hk : KeyB k) {c : Nat} (hc : c < 18446744073709551616) :
    Calls Try.prog 69 #[.pointer (some ⟨p, 0, none⟩), keyV k, .int .u64 c] w
      (FindPost p F A ⟨k.1, k.2.1, k.2.2.1, k.2.2.2.1, k.2.2.2.2.1, k.2.2.2.2.2, min c 4611686018427387904⟩ w) := by
  obtain ⟨l, b, k0, k1, k2, k3⟩ := k
  have hslot := fun o => slot_any (h.toArM.alloc o) h.tab (by have := h.few; have := h.some; omega) (by have := h.most; omega) (by omega) hk
  obtain ⟨b0, b1, b2, b3, b4, b5⟩ := hk
  obtain ⟨m, hmm⟩ : ∃ m, m = min c 4611686018427387904 := ⟨_, rfl⟩
  rw [← hmm]
  have hmin : (if (4611686018427387904 : Int) < (c : Int) then (4611686018427387904 : Int) else (c : Int)) = (m : Int) := by rw [hmm]; split <;> omega
  have hm62 : m ≤ 4611686018427387904 := by omega
  clear hmm
  dsimp only at b0 b1 b2 b3 b4 b5 ⊢
  obtain ⟨sb, scap, hsv, _, _, hsb⟩ := h.slots.form (by have := h.some; omega)
  obtain ⟨nv, ncap, hnv, _⟩ := h.nodes.slice
  have Hsv := Lib.hid hsv
  have Hnv := Lib.hid hnv
  have hp := h.lt
  clear hsv hnv
  unfold keyV at hslot ⊢
  dsimp only at hslot ⊢
  go_enter Try.func69, Try.ntmps69
  go_wp2_with fail
  refine (hslot _).mono ?_
  rintro e w1 ⟨i, rfl, hlook, hbs⟩
  have hr := h.toArM.new (((Below.refl _ _).alloc (Nat.le_refl _) _).trans (hbs.mono (by simp)))
  have r0 := hr.c0
  have r1 := hr.c1
  have r3 := hr.c3
  rw [Hsv.out] at r1
  rw [Hnv.out] at r0
  have hil := hlook.lt
  have hil2 : (i : Int) < (F.slots.length : Int) := by omega
  have cs := hr.slot Hsv.out hil
  have hst : Step p F w F w1 := .from_alloc ((Step.refl _ _ _).new hbs)
  have kb : ∀ j, w1.cell? ⟨w.heap.size, j, none⟩ = #[Value.int .i64 l, .int .u32 b, .int .u32 k0, .int .u32 k1, .int .u32 k2, .int .u32 k3][j]? := fun j => by
    rw [hbs.cell (p := ⟨w.heap.size, j, none⟩) (by simp), World.cell?_alloc_new]
  clear hslot
  cases hlook with
  | hit v hv hi hs hke =>
    rw [hs] at cs
    have cs' : w1.cell? ⟨sb, i, none⟩ = some (.int .u32 ((v : Int) + 1)) := cs
    have hS := { h with toArM := hr : ArS w1 p F A }
    clear cs hs kb
    go_wp2
    go_ret2
    exact ⟨v, none, F, A, rfl, .old v hv hke, hS, hst⟩
  | free d hd' hi hs hb hnk =>
    rw [hs] at cs
    have cs' : w1.cell? ⟨sb, i, none⟩ = some (.int .u32 0) := cs
    have Hs := Lib.hid hs
    have Hi := Lib.hid hi
    clear cs hs hi
    by_cases hm : A.most ≤ A.nodes.length
    · have hS := { h with toArM := hr.drew : ArS w1.drew p F A }
      have hd : decide (A.most ≤ (A.nodes.length : Int)) = true := by simpa using hm
      clear kb
      go_wp2_with fail
      go_quiet ((go_at_call 33; exact quiet_of_eq (hr.drewN _).len))
      go_wp2
      go_ret2
      exact ⟨0, some 8, F, A, rfl, .full hnk hm, { h with toArM := hr.drewN _ }, hst.drewN _⟩
    · have hd : decide (A.most ≤ (A.nodes.length : Int)) = false := by simpa using hm
      have q0 := kb 0
      have q1 := kb 1
      have q2 := kb 2
      have q3 := kb 3
      have q4 := kb 4
      have q5 := kb 5
      clear kb
      go_wp2_with fail
      go_quiet ((go_at_call 33; exact quiet_of_eq (hr.drewN _).len))
      generalize hW : w1.drewN _ = w2
      have hr2 : ArM w2 p F A := by rw [← hW]; exact hr.drewN _
      have hst2 : Step p F w F w2 := by rw [← hW]; exact hst.drewN _
      have r0 : w2.cell? ⟨p, 0, none⟩ = some (.slice nv A.nodes.length ncap) := by rw [← hW]; exact r0
      have q0 : w2.cell? ⟨w.heap.size, 0, none⟩ = some (.int .i64 l) := by rw [← hW]; exact q0
      have q1 : w2.cell? ⟨w.heap.size, 1, none⟩ = some (.int .u32 b) := by rw [← hW]; exact q1
      have q2 : w2.cell? ⟨w.heap.size, 2, none⟩ = some (.int .u32 k0) := by rw [← hW]; exact q2
      have q3 : w2.cell? ⟨w.heap.size, 3, none⟩ = some (.int .u32 k1) := by rw [← hW]; exact q3
      have q4 : w2.cell? ⟨w.heap.size, 4, none⟩ = some (.int .u32 k2) := by rw [← hW]; exact q4
      have q5 : w2.cell? ⟨w.heap.size, 5, none⟩ = some (.int .u32 k3) := by rw [← hW]; exact q5
      have hsz : w.heap.size < w2.heap.size := by
        have := World.block_lt_of_cell? w2 _ q0
        exact this
      have hp2 := hr2.lt
      have hnod := hr2.nodes
      rw [Hnv.out] at hnod
      have hne1 : some p ≠ (Value.slice nv A.nodes.length ncap).ownBlock := fun e => hr2.own_ne hnod (by decide) e.symm rfl
      have hne2 : some w.heap.size ≠ (Value.slice nv A.nodes.length ncap).ownBlock := fun e => by have := h.nodes.lt (by rw [Hnv.out]; exact e.symm); omega
      obtain ⟨i0, hi0, hz0, hz1, hz2⟩ := info_parts infoNode
      clear cs' hW
      go_wp2_with fail
      refine wp_region_plan (fun w' => w'.cell? ⟨p, 0, none⟩ = some (.slice nv A.nodes.length ncap) ∧ w'.cell? ⟨w.heap.size, 0, none⟩ = some (.int .i64 l) ∧ w'.cell? ⟨w.heap.size, 1, none⟩ = some (.int .u32 b) ∧ w'.cell? ⟨w.heap.size, 2, none⟩ = some (.int .u32 k0) ∧
          w'.cell? ⟨w.heap.size, 3, none⟩ = some (.int .u32 k1) ∧ w'.cell? ⟨w.heap.size, 4, none⟩ = some (.int .u32 k2) ∧ w'.cell? ⟨w.heap.size, 5, none⟩ = some (.int .u32 k3))
        [14, 15, 18] [0, 1, 2, 3, 4, 5, 6, 7, 8, 9, 10, 11, 12, 13, 14, 15, 16, 17, 18] (by kernel_rfl) (by kernel_rfl) (fun _ _ d _ _ h => by cases d <;> exact h) ⟨r0, q0, q1, q2, q3, q4, q5⟩ ?_
      repeat ((first | (refine' wpPlan_q rfl rfl rfl ?_ ?_; rotate_left; (focus (intro _ hSw; (try dsimp only at hSw); go_simp; (try with_reducible rfl); done))) | (refine' wpPlan_p rfl rfl rfl ?_ ?_; rotate_left; (focus (intro _; go_simp; (try with_reducible rfl); done)))); (try simp only [Act.put, List.setIfInBounds_toArray, List.set_cons_zero, List.set_cons_succ]))
      refine wpPlan_x rfl rfl (fun K hK => ?_)
      go_simp
      refine hK _ _ (fun _ => ⟨(World.cell?_alloc_past _ _ _ hp2).trans r0, (World.cell?_alloc_past _ _ _ hsz).trans q0, (World.cell?_alloc_past _ _ _ hsz).trans q1, (World.cell?_alloc_past _ _ _ hsz).trans q2, (World.cell?_alloc_past _ _ _ hsz).trans q3, (World.cell?_alloc_past _ _ _ hsz).trans q4, (World.cell?_alloc_past _ _ _ hsz).trans q5⟩) ?_
      clear hK K
      (try simp only [Act.put, List.setIfInBounds_toArray, List.set_cons_zero, List.set_cons_succ])
      repeat ((first | (refine' wpPlan_q rfl rfl rfl ?_ ?_; rotate_left; (focus (intro _ hSw; (try dsimp only at hSw); go_simp; (try with_reducible rfl); done))) | (refine' wpPlan_p rfl rfl rfl ?_ ?_; rotate_left; (focus (intro _; go_simp; (try with_reducible rfl); done)))); (try simp only [Act.put, List.setIfInBounds_toArray, List.set_cons_zero, List.set_cons_succ]))
      refine wpPlan_x rfl rfl (fun K hK => ?_)
      refine wp_append_lies _ _ _ _ rfl 0 83 i0 _ 7 40 Try.underlying84 hi0 hz0 hz1 hz2 rfl (by omega) (.slice nv A.nodes.length ncap) A.nodes.length (A.nodes.flatMap Nd.cells) rfl ((hnod.alloc _).drew) ⟨w2.heap.size, 0, none⟩ 1 1 [.int .i64 l, .int .u32 b, .int .u32 k0, .int .u32 k1, .int .u32 k2, .int .u32 k3, .int .u64 m] rfl rfl (World.news_of_block (cs := #[.int .i64 l, .int .u32 b, .int .u32 k0, .int .u32 k1, .int .u32 k2, .int .u32 k3, .int .u64 m]) (t := 83) (fr := (0, 0)) (heap_alloc_new w2 _)) (by simp [Value.oneCell']) (by omega) (by unfold maxLen; omega) (by omega) (Nat.zero_le _) (w2.heap.size + 1) (by simp) ?_
      intro gg cap w3 hown3 hgrow hat hlt
      have hz : ∀ j v, w2.cell? ⟨w.heap.size, j, none⟩ = some v → w3.cell? ⟨w.heap.size, j, none⟩ = some v := fun j v hv => (hgrow.cell_far _ (by first | (simp; done) | (simp; omega)) hne2).trans ((World.cell?_alloc_past _ _ _ hsz).trans hv)
      have hcz : w3.cell? ⟨p, 0, none⟩ = some (.slice nv A.nodes.length ncap) := (hgrow.cell_far _ (by first | (simp; done) | (simp; omega)) hne1).trans ((World.cell?_alloc_past _ _ _ hp2).trans r0)
      have hfz : w3.frozen? ⟨p, 0, none⟩ = false := (hgrow.frozen_far _ (by first | (simp; done) | (simp; omega)) hne1).trans ((World.frozen?_alloc_past _ _ _ hp2).trans (hr2.free 0))
      refine hK _ _ (fun _ => ⟨hcz, hz _ _ q0, hz _ _ q1, hz _ _ q2, hz _ _ q3, hz _ _ q4, hz _ _ q5⟩) ?_
      clear hK K hz
      (try simp only [Act.put, List.setIfInBounds_toArray, List.set_cons_zero, List.set_cons_succ])
      repeat ((first | (refine' wpPlan_q rfl rfl rfl ?_ ?_; rotate_left; (focus (intro _ hSw; (try dsimp only at hSw); go_simp; (try with_reducible rfl); done))) | (refine' wpPlan_p rfl rfl rfl ?_ ?_; rotate_left; (focus (intro _; go_simp; (try with_reducible rfl); done)))); (try simp only [Act.put, List.setIfInBounds_toArray, List.set_cons_zero, List.set_cons_succ]))
      refine wpPlan_x rfl rfl (fun K hK => ?_)
      go_simp
      refine hK _ _ (fun h => absurd h (by decide)) (wpPlan_nil ?_)
      clear hK K
      have hnw := hr2.newNodes (n := ⟨l, b, k0, k1, k2, k3, m⟩) (((Below.refl _ _).alloc (Nat.le_refl _) _).drew) hown3 (by rw [Hnv.out]; exact hgrow) (by rw [Hnv.out]; rcases hat with hat | hat; exact .inl hat; exact .inr (by omega))
      obtain ⟨hM4, hS4, _, _⟩ := hnw
      clear hgrow hat hcz hfz hown3 hnod hne1 hne2
      generalize hW4 : w3.setCell ⟨p, 0, none⟩ (.slice (some ⟨gg, 0, none⟩) (A.nodes.length + 1) cap) = w4 at hM4 hS4 ⊢
      have hlen4 : (A.nodes ++ [(⟨l, b, k0, k1, k2, k3, m⟩ : Nd)]).length = A.nodes.length + 1 := by simp
      have Hlen := Lib.hid hlen4
      have hL : ∀ v sl, ∀ w', ArM w' p { nv := .slice (some ⟨gg, 0, none⟩) (A.nodes.length + 1) cap, sv := v, ev := F.ev, slots := sl } { A with nodes := A.nodes ++ [⟨l, b, k0, k1, k2, k3, m⟩] } →
          Calls Try.prog 33 #[.pointer (some ⟨p, 0, none⟩)] w' fun e w'' => e = .returned (.int .i64 ((A.nodes.length : Int) + 1)) ∧ w' = w'' := fun v sl w' hm => by
        have := hm.len
        dsimp only at this
        rw [Hlen.out] at this
        exact this
      have s1 := hM4.c1
      dsimp only at s1
      rw [Hsv.out] at s1
      have hcs := hM4.slot Hsv.out hil
      dsimp only at hcs
      rw [Hs.out] at hcs
      have hfs : w4.frozen? ⟨sb, i, none⟩ = false := by
        have := hM4.slots
        dsimp only at this
        rw [Hsv.out] at this
        exact World.ownsRow.frozenAt this i
      have hwr : IntKind.u32.wrap ((A.nodes.length : Int) + 1) = (A.nodes.length : Int) + 1 := IntWalk.u32_in _ (by omega)
      clear hlen4 hW4 r0 r1 r3 q0 q1 q2 q3 q4 q5 hd
      go_wp2_with fail
      refine wp_region_plan (fun w' => w'.cell? ⟨p, 1, none⟩ = some (.slice (some ⟨sb, 0, none⟩) F.slots.length scap)) [6, 9] [0, 1, 2, 3, 4, 5, 6, 7, 8, 9] (by kernel_rfl) (by kernel_rfl) (fun _ _ d _ _ h => by cases d <;> exact h) s1 ?_
      repeat ((first | (refine' wpPlan_q rfl rfl rfl ?_ ?_; rotate_left; (focus (intro _ hSw; (try dsimp only at hSw); go_simp; (try with_reducible rfl); done))) | (refine' wpPlan_p rfl rfl rfl ?_ ?_; rotate_left; (focus (intro _; go_simp; (try with_reducible rfl); done)))); (try simp only [Act.put, List.setIfInBounds_toArray, List.set_cons_zero, List.set_cons_succ]))
      refine wpPlan_x rfl rfl (fun K hK => ?_)
      go_simp
      refine (hL _ _ _ hM4.drew).mono ?_
      rintro e w' ⟨rfl, rfl⟩
      refine hK _ _ (fun _ => s1) ?_
      clear hK K
      (try simp only [Act.put, List.setIfInBounds_toArray, List.set_cons_zero, List.set_cons_succ])
      repeat ((first | (refine' wpPlan_q rfl rfl rfl ?_ ?_; rotate_left; (focus (intro _ hSw; (try dsimp only at hSw); go_simp; (try with_reducible rfl); done))) | (refine' wpPlan_p rfl rfl rfl ?_ ?_; rotate_left; (focus (intro _; go_simp; (try with_reducible rfl); done)))); (try simp only [Act.put, List.setIfInBounds_toArray, List.set_cons_zero, List.set_cons_succ]))
      refine wpPlan_x rfl rfl (fun K hK => ?_)
      go_simp
      refine hK _ _ (fun h => absurd h (by decide)) (wpPlan_nil ?_)
      clear hK K
      have hM5 := hM4.drew.setSlot (g := sb) (cap := scap) Hsv.out hil (A.nodes.length + 1)
      have hS5 := ((hS4.drew).cell (x := ⟨sb, i, none⟩) (.inr (.inr (.inl (by dsimp only; rw [Hsv.out]; rfl)))) (U32 (A.nodes.length + 1))).slots (F.slots.set i (A.nodes.length + 1))
      have e5 : w4.drew.setCell ⟨sb, i, none⟩ (U32 (A.nodes.length + 1)) = (w4.setCell ⟨sb, i, none⟩ (.int .u32 ((A.nodes.length : Int) + 1))).drew := rfl
      rw [e5] at hM5 hS5
      dsimp only at hM5 hS5
      generalize hW5 : (w4.setCell ⟨sb, i, none⟩ (.int .u32 ((A.nodes.length : Int) + 1))).drew = w5 at hM5 hS5 ⊢
      clear hW5 s1 hcs hfs e5
      have t1 := hM5.c1
      dsimp only at t1
      rw [Hsv.out] at t1
      go_wp2_with fail
      refine (hL _ _ _ hM5).mono ?_
      rintro e w' ⟨rfl, rfl⟩
      have hwn : IntKind.u32.wrap (A.nodes.length : Int) = A.nodes.length := IntWalk.u32_in _ (by omega)
      have hlk : Look hf (A.nodes ++ [(⟨l, b, k0, k1, k2, k3, m⟩ : Nd)]) A.nodes.length F.slots (ndAt (A.nodes ++ [(⟨l, b, k0, k1, k2, k3, m⟩ : Nd)]) A.nodes.length).key i := by
        have e : (ndAt (A.nodes ++ [(⟨l, b, k0, k1, k2, k3, m⟩ : Nd)]) A.nodes.length).key = (l, b, k0, k1, k2, k3) := by
          unfold ndAt; rw [List.getElem?_append_right (Nat.le_refl _), Nat.sub_self]; rfl
        rw [e]
        exact .free d hd' Hi.out Hs.out hb (fun v hv => by
          unfold ndAt; rw [List.getElem?_append_left hv]; exact hnk v hv)
      have hT5 : Tab hf (A.nodes ++ [(⟨l, b, k0, k1, k2, k3, m⟩ : Nd)]) (A.nodes.length + 1) (F.slots.set i (A.nodes.length + 1)) :=
        (h.tab.more [(⟨l, b, k0, k1, k2, k3, m⟩ : Nd)]).put (by simp) hlk Hs.out
      have hok5 : ∀ j, j < (A.nodes ++ [(⟨l, b, k0, k1, k2, k3, m⟩ : Nd)]).length → NdB (ndAt (A.nodes ++ [(⟨l, b, k0, k1, k2, k3, m⟩ : Nd)]) j) := fun j hj => by
        by_cases hjn : j < A.nodes.length
        · unfold ndAt; rw [List.getElem?_append_left hjn]; exact h.ok j hjn
        · have : j = A.nodes.length := by simp at hj; omega
          subst this
          unfold ndAt; rw [List.getElem?_append_right (Nat.le_refl _), Nat.sub_self]
          exact ⟨⟨b0, b1, b2, b3, b4, b5⟩, hm62⟩
      have hfew := h.few
      have hsome := h.some
      have hmost := h.most
      have hfin : Found A ⟨l, b, k0, k1, k2, k3, m⟩ A.nodes.length none { A with nodes := A.nodes ++ [⟨l, b, k0, k1, k2, k3, m⟩] } := .new hnk (by omega)
      by_cases hgr : F.slots.length < 2 * (A.nodes.length + 1)
      · have hdg : decide ((F.slots.length : Int) < 2 * ((A.nodes.length : Int) + 1)) = true := by rw [decide_eq_true_eq]; omega
        go_wp2_with fail
        go_quiet ((go_at_call 33; exact quiet_of_eq (hL _ _ _ (hM5.drewN _))))
        go_wp2_with fail
        refine (grow_any (hM5.drewN _) (by simp; omega) (by simp; omega) (by simp; omega) (by simp; omega) (by dsimp only; rw [Hlen.out]; exact hT5.keys) hok5).mono ?_
        rintro e w6 ⟨rfl, F', hsl', hT', hM', hS'⟩
        dsimp only at hsl' hT'
        rw [List.length_set] at hsl'
        go_wp2
        go_ret2
        refine ⟨A.nodes.length, none, F', _, rfl, hfin, ⟨hM', hT', ?_, ?_, ?_, hok5⟩, ?_⟩
        · dsimp only; rw [Hlen.out]; omega
        · omega
        · dsimp only; rw [Hlen.out]; omega
        · exact (hst2.trans hS5).trans hS'.from_drewN
      · have hdg : decide ((F.slots.length : Int) < 2 * ((A.nodes.length : Int) + 1)) = false := by rw [decide_eq_false_iff_not]; omega
        go_wp2_with fail
        go_quiet ((go_at_call 33; exact quiet_of_eq (hL _ _ _ (hM5.drewN _))))
        go_wp2
        go_ret2
        refine ⟨A.nodes.length, none, _, _, rfl, hfin, ⟨hM5.drewN _, ?_, ?_, ?_, ?_, hok5⟩, (hst2.trans hS5).drewN _⟩
        · dsimp only; rw [Hlen.out]; exact hT5
        · dsimp only; rw [Hlen.out, List.length_set]; omega
        · dsimp only; rw [List.length_set]; omega
        · dsimp only; rw [Hlen.out, List.length_set]; omega

end Go.Proofs.Ytehmbhdapgkbcaa
