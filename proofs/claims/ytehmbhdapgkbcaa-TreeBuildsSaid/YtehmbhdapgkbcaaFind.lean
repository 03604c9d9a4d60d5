/- The walks of grow and find: a node by its key, made if it is not there. -/
import Derived.Test.YtehmbhdapgkbcaaSlot
namespace Go.Proofs.Ytehmbhdapgkbcaa
open Go.RowKit

/-- A node whose numbers fit. -/
structure NdB (n : Nd) : Prop where
  key : KeyB n.key
  cnt : n.cnt ≤ 4611686018427387904

/-- An arena in memory whose slots and numbers are right. -/
structure ArS (w : World) (p : Nat) (F : Foot) (A : Ar) : Prop extends ArM w p F A where
  tab : Tab hf A.nodes A.nodes.length F.slots
  few : 2 * A.nodes.length ≤ F.slots.length
  some : 128 ≤ F.slots.length
  most : F.slots.length ≤ 4 * A.nodes.length + 128
  ok : ∀ i, i < A.nodes.length → NdB (ndAt A.nodes i)

theorem ArS.move {w w' : World} {p : Nat} {F : Foot} {A : Ar} (h : ArS w p F A) {S : Nat → Prop} (ht : Touch S w w') (hn : ∀ k, F.at p k → ¬ S k) : ArS w' p F A := { h with toArM := h.toArM.move ht hn }
theorem ArS.new {w w' : World} {p : Nat} {F : Foot} {A : Ar} (h : ArS w p F A) (ht : Below w.heap.size w w') : ArS w' p F A := { h with toArM := h.toArM.new ht }
theorem ArS.alloc {w : World} {p : Nat} {F : Foot} {A : Ar} (h : ArS w p F A) (o : Obj) : ArS (w.alloc o) p F A := { h with toArM := h.toArM.alloc o }
theorem ArS.drew {w : World} {p : Nat} {F : Foot} {A : Ar} (h : ArS w p F A) : ArS w.drew p F A := { h with toArM := h.toArM.drew }
theorem ArS.drewN {w : World} {p : Nat} {F : Foot} {A : Ar} (h : ArS w p F A) (n : Nat) : ArS (w.drewN n) p F A := { h with toArM := h.toArM.drewN n }

theorem Own.setCell {w : World} {e size : Nat} {v : Value} {n : Nat} {xs : List Value} (h : Own w e size v n xs) {a : Addr} (u : Value) (hn : v.ownBlock ≠ some a.block) : Own (w.setCell a u) e size v n xs :=
  ownsRow_setCell_other h hn u

/-- A number is put into a slot. -/
theorem ArM.setSlot {w : World} {p : Nat} {F : Foot} {A : Ar} (h : ArM w p F A) {g cap : Nat} (hv : F.sv = .slice (some ⟨g, 0, none⟩) F.slots.length cap) {i : Nat} (hi : i < F.slots.length) (v : Nat) :
    ArM (w.setCell ⟨g, i, none⟩ (U32 v)) p { F with slots := F.slots.set i v } A := by
  have hs := h.slots
  rw [hv] at hs
  have hpg : p ≠ g := by
    rintro rfl
    obtain ⟨c, hc⟩ := hs.heap rfl
    rw [h.obj] at hc
    simp at hc
  refine ⟨?_, ?_, ?_, ?_, ?_⟩
  · rw [Below.heap_setCell _ _ _ _ hpg]; exact h.obj
  · exact h.nodes.setCell _ (h.slots.apart h.nodes (by decide) (by rw [hv]; rfl))
  · show Own _ _ _ F.sv (F.slots.set i v).length ((F.slots.set i v).map U32)
    rw [List.length_set, hv, List.map_set]
    exact (World.ownsRow.stored hs i (U32 v)).1
  · exact h.empty.setCell _ (h.apart g (by rw [hv]; rfl))
  · exact h.apart

/-- Another slice in the place of the slots. -/
theorem ArM.newSlots {w w1 : World} {p : Nat} {F : Foot} {A : Ar} (h : ArM w p F A) (hb : Below w.heap.size w w1) {v : Value} {sl : List Nat} (hs : Own w1 27 1 v sl.length (sl.map U32)) (hv : ∀ k, v.ownBlock = some k → w.heap.size ≤ k) :
    ArM (w1.setCell ⟨p, 1, none⟩ v) p { F with sv := v, slots := sl } A ∧ Step p F w { F with sv := v, slots := sl } (w1.setCell ⟨p, 1, none⟩ v) := by
  have h1 := h.new hb
  have hn : ∀ e size v n xs, Own w1 e size v n xs → e ≠ 86 → v.ownBlock ≠ some p := fun e size v n xs ho he hk => by
    obtain ⟨c, hc⟩ := ho.heap hk
    rw [h1.obj] at hc
    simp at hc
    exact he hc.2.symm
  refine ⟨⟨?_, ?_, ?_, ?_, ?_⟩, ⟨?_, ?_⟩⟩
  · have := heap_setCell_same w1 p 1 _ _ v h1.obj
    simpa using this
  · exact h1.nodes.setCell _ (hn _ _ _ _ _ h1.nodes (by decide))
  · exact hs.setCell _ (hn _ _ _ _ _ hs (by decide))
  · exact h1.empty.setCell _ (hn _ _ _ _ _ h1.empty (by decide))
  · intro k hk hk2
    have := h.empty.lt hk2
    have := hv k hk
    omega
  · exact (Touch.of_new hb).setCell (fun _ => .inl rfl) _
  · intro k hk h2
    rcases h2 with h2 | h2 | h2 | h2
    · exact .inl h2
    · exact .inr (.inl h2)
    · have := hv k h2; omega
    · exact .inr (.inr (.inr h2))

theorem info27 : (Try.prog.info? 27).map (fun i => (i.zero, i.size, i.bytes)) = some (some (.int .u32 0), 1, 4) := by kernel_rfl

def GrowPost (p : Nat) (F : Foot) (A : Ar) (w : World) (e : Ending) (w' : World) : Prop :=
  e = .returned (.tuple #[]) ∧ ∃ F', F'.slots.length = 2 * F.slots.length ∧ Tab hf A.nodes A.nodes.length F'.slots ∧ ArM w' p F' A ∧ Step p F w F' w'

set_option maxHeartbeats 4000000 in
set_option maxRecDepth 100000 in
theorem grow_any {w : World} {p : Nat} {F : Foot} {A : Ar} (h : ArM w p F A) (hl : F.slots.length < 1099511627776) (hnn : A.nodes.length < 2147483648) (hpos : 0 < F.slots.length) (hn : A.nodes.length < 2 * F.slots.length)
    (hkeys : ∀ u v, u < A.nodes.length → v < A.nodes.length → (ndAt A.nodes u).key = (ndAt A.nodes v).key → u = v) (hok : ∀ i, i < A.nodes.length → NdB (ndAt A.nodes i)) :
    Calls Try.prog 76 #[.pointer (some ⟨p, 0, none⟩)] w (GrowPost p F A w) := by
  obtain ⟨i0, hi0, hz0, hz1, hz2⟩ := info_parts info27
  obtain ⟨sb, scap, hsv, _, _, hsb⟩ := h.slots.form hpos
  obtain ⟨nv, ncap, hnv, _⟩ := h.nodes.slice
  have h0 := h.c0
  rw [hnv] at h0
  have h1 := h.c1
  rw [hsv] at h1
  have hp := h.lt
  have hf1 := h.free 1
  have Hsv := Lib.hid hsv
  have Hnv := Lib.hid hnv
  clear hsv hnv
  go_enter Try.func76, Try.ntmps76
  go_wp2_with (refine wpList_make_full _ rfl (.tmp 10) (.tmp 10) 65 rfl 0 27 i0 (.int .u32 0) 1 Try.underlying65 hi0 hz0 hz1 .i64 .i64 _ _ (2 * F.slots.length) rfl rfl (by omega) (by omega) (by rw [hz2]; omega) (by unfold maxLen; omega) (Nat.zero_le _) ?_; intro w1 hown hgrow; have hfz : w1.frozen? ⟨p, 1, none⟩ = false := (hgrow.frozen_far ⟨p, 1, none⟩ hp (by simp)).trans hf1; have hcz : w1.cell? ⟨p, 1, none⟩ = some (.slice (some ⟨sb, 0, none⟩) F.slots.length scap) := (hgrow.cell_far ⟨p, 1, none⟩ hp (by simp)).trans h1; have hcy : w1.cell? ⟨p, 0, none⟩ = some (.slice nv A.nodes.length ncap) := (hgrow.cell_far ⟨p, 0, none⟩ hp (by simp)).trans h0)
  have hb1 : Below w.heap.size w w1 := (Below.refl _ _).grown hgrow (Nat.le_refl _) (fun k hk => by cases hk)
  have hz : (madeCells (Value.int .u32 0).cells (2 * F.slots.length * 1)).toList = (List.replicate (2 * F.slots.length) 0).map U32 := by
    rw [Nat.mul_one, show (Value.int .u32 0).cells = #[.int .u32 0] from rfl, toList_madeCells_one, List.map_replicate]; rfl
  rw [hz] at hown
  have hns := h.newSlots (sl := List.replicate (2 * F.slots.length) 0) hb1 (by rw [List.length_replicate]; exact hown) (fun k hk => by cases hk; exact Nat.le_refl _)
  clear hown hgrow hfz hcz hcy hz
  go_loopw [19] (fun v wr => ∃ (k : Nat) (F' : Foot), v = .int .i64 k ∧ k ≤ A.nodes.length ∧ F'.nv = F.nv ∧ F'.slots.length = 2 * F.slots.length ∧ Tab hf A.nodes k F'.slots ∧ ArM wr p F' A ∧ Step p F w F' wr) (fun v _ => A.nodes.length - (intOf v).toNat)
  case atStart => exact ⟨0, { F with sv := .slice (some ⟨w.heap.size, 0, none⟩) (2 * F.slots.length) (2 * F.slots.length), slots := List.replicate (2 * F.slots.length) 0 }, rfl, Nat.zero_le _, rfl, List.length_replicate, Tab.none _ _ _, hns.1, hns.2⟩
  case round =>
    obtain ⟨k, F', rfl, hk, hnv', hsl, ht, hr, hst⟩ := hrel
    clear hns
    by_cases hkl : k < A.nodes.length
    · obtain ⟨nb, ncap2, hnb, _, _, hnl⟩ := hr.nodes.form (by omega)
      have hnn := hnb
      rw [hnv', Hnv.out] at hnn
      simp only [Value.slice.injEq, true_and] at hnn
      obtain ⟨rfl, rfl⟩ := hnn
      obtain ⟨sb2, scap2, hsb2, _, _, hsl2⟩ := hr.slots.form (by omega)
      have c0 := hr.nd hnb hkl (j := 0) (by omega)
      have c1 := hr.nd hnb hkl (j := 1) (by omega)
      have c2 := hr.nd hnb hkl (j := 2) (by omega)
      have c3 := hr.nd hnb hkl (j := 3) (by omega)
      have c4 := hr.nd hnb hkl (j := 4) (by omega)
      have c5 := hr.nd hnb hkl (j := 5) (by omega)
      have c6 := hr.nd hnb hkl (j := 6) (by omega)
      simp only [Nd.cells, List.getElem?_cons_zero, List.getElem?_cons_succ, Nat.add_zero] at c0 c1 c2 c3 c4 c5 c6
      have r1 := hr.c1
      rw [hsb2] at r1
      have hslot := fun o => slot_any (hr.alloc o).drew ht (by omega) (by omega) (by omega) (hok k hkl).key
      obtain ⟨⟨l', b', x0, x1, x2, x3, cn⟩, hnd⟩ : ∃ x, ndAt A.nodes k = x := ⟨_, rfl⟩
      rw [hnd] at c0 c1 c2 c3 c4 c5 c6 hslot
      dsimp only at c0 c1 c2 c3 c4 c5 c6
      simp only [Nd.key, keyV] at hslot
      have hpr := hr.lt
      have hps : sb2 ≠ p := hr.own_ne hr.slots (by decide) (by rw [hsb2]; rfl)
      have hfr : ∀ j, wr.frozen? ⟨sb2, j, none⟩ = false := fun j => by
        have := hr.slots
        rw [hsb2] at this
        exact World.ownsRow.frozenAt this j
      have Hnd := Lib.hid hnd
      have Hsb := Lib.hid hsb2
      have Hsl := Lib.hid hsl
      have Hnb := Lib.hid hnb
      have Hnv2 := Lib.hid hnv'
      clear hnd hsb2 hsl hnb hnv'
      have hk0 : IntKind.u32.wrap ((k : Int) + 1) = k + 1 := IntWalk.u32_in _ (by omega)
      have hk1 : IntKind.u32.wrap (k : Int) = k := IntWalk.u32_in _ (by omega)
      go_wp2_with fail
      go_region_held3 (fun w' => w'.cell? ⟨p, 1, none⟩ = some (.slice (some ⟨sb2, 0, none⟩) F'.slots.length scap2) ∧ w'.cell? ⟨wr.heap.size, 0, none⟩ = some (.int .i64 l') ∧ w'.cell? ⟨wr.heap.size, 1, none⟩ = some (.int .u32 b') ∧ w'.cell? ⟨wr.heap.size, 2, none⟩ = some (.int .u32 x0) ∧
          w'.cell? ⟨wr.heap.size, 3, none⟩ = some (.int .u32 x1) ∧ w'.cell? ⟨wr.heap.size, 4, none⟩ = some (.int .u32 x2) ∧ w'.cell? ⟨wr.heap.size, 5, none⟩ = some (.int .u32 x3))
        (first | ((try go_split_ands); (try dsimp only); refine ⟨?_, ?_, ?_, ?_, ?_, ?_, ?_⟩ <;> first | assumption | (rw [hbs.cell (by first | (simp; done) | (simp; omega))]; assumption) | (rw [World.cell?_setCell_other _ _ _ _ (fun e => by simp only [Addr.mk.injEq] at e; omega)]; assumption) | go_keep))
        (first | (go_at_call 75; refine (hslot _).mono ?_; rintro e w' ⟨i, rfl, hlook, hbs⟩; have hi1 := hlook.lt; have hi2 : (i : Int) < (F'.slots.length : Int) := (by omega); have hcs : w'.cell? ⟨sb2, i, none⟩ = some (U32 (at0 F'.slots i)) := (hbs.cell (p := ⟨sb2, i, none⟩) (by first | (simp; done) | (simp; omega))).trans ((World.cell?_alloc_past _ _ _ hsl2).trans (hr.slot Hsb.out hi1)); have hfs : w'.frozen? ⟨sb2, i, none⟩ = false := (hbs.frozen (p := ⟨sb2, i, none⟩) (by first | (simp; done) | (simp; omega))).trans ((World.frozen?_alloc_past _ _ _ hsl2).trans (hfr i))))
      have hM := ((hr.alloc (.cells #[.int .i64 l', .int .u32 b', .int .u32 x0, .int .u32 x1, .int .u32 x2, .int .u32 x3, .int .u64 cn] 83)).drew.new hbs).setSlot Hsb.out hi1 (k + 1)
      have hS : Step p F w { F' with slots := F'.slots.set i (k + 1) } (w'.setCell ⟨sb2, i, none⟩ (U32 (k + 1))) :=
        (((hst.alloc (.cells #[.int .i64 l', .int .u32 b', .int .u32 x0, .int .u32 x1, .int .u32 x2, .int .u32 x3, .int .u64 cn] 83)).drew.new hbs).cell (x := ⟨sb2, i, none⟩) (.inr (.inr (.inl (by rw [Hsb.out]; rfl)))) _).slots _
      have hT : Tab hf A.nodes (k + 1) (F'.slots.set i (k + 1)) := by
        have hkk : (ndAt A.nodes k).key = (l', b', x0, x1, x2, x3) := by rw [Hnd.out]; rfl
        cases hlook with
        | hit v hv hi hs hke => exact absurd (hkeys v k (by omega) hkl (hke.trans hkk.symm)) (by omega)
        | free d hd hi hs hb hn => exact ht.put hkl (by rw [hkk]; exact .free d hd hi hs hb hn) hs
      clear hcs hfs hbs hlook hslot
      go_wp2
      go_roundw
      case rel => exact ⟨k + 1, { F' with slots := F'.slots.set i (k + 1) }, by go_num, by omega, Hnv2.out, by simp [Hsl.out], hT, hM, hS⟩
      case measure => simp [intOf]; omega
    · go_wp2
      go_end0
      have hke : k = A.nodes.length := by omega
      subst hke
      exact ⟨rfl, F', hsl, ht, hr, hst⟩

end Go.Proofs.Ytehmbhdapgkbcaa
