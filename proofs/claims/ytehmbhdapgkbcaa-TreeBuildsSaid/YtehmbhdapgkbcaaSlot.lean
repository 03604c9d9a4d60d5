/- Where a key is found in an arena's slots, or would be: the walk of slot. -/
import Derived.Test.YtehmbhdapgkbcaaArenaA
namespace Go.Proofs.Ytehmbhdapgkbcaa
open Go.RowKit

theorem mixI_range (h x : Int) : 0 ≤ mixI h x ∧ mixI h x < 18446744073709551616 := by
  unfold mixI
  generalize IntKind.u64.wrap (bits BinOp.xor IntKind.u64 h x * 11400714819323198485) = y
  show 0 ≤ IntKind.u64.wrap _ ∧ IntKind.u64.wrap _ < _
  rw [IntKind.wrap_u64]
  exact ⟨Int.emod_nonneg _ (by decide), Int.emod_lt_of_pos _ (by decide)⟩

theorem hf_eq (k : Key) : hashI k = (hf k : Int) ∧ hf k < 18446744073709551616 := by
  have := mixI_range (mixI (mixI (mixI (mixI k.1 k.2.1) k.2.2.1) k.2.2.2.1) k.2.2.2.2.1) k.2.2.2.2.2
  unfold hf hashI
  omega

/-- A key that a node may have. -/
structure KeyB (k : Key) : Prop where
  b0 : k.1 < 4294967296
  b1 : k.2.1 < 4294967296
  b2 : k.2.2.1 < 4294967296
  b3 : k.2.2.2.1 < 4294967296
  b4 : k.2.2.2.2.1 < 4294967296
  b5 : k.2.2.2.2.2 < 4294967296

def keyV (k : Key) : Value := .agg #[.int .i64 k.1, .int .u32 k.2.1, .int .u32 k.2.2.1, .int .u32 k.2.2.2.1, .int .u32 k.2.2.2.2.1, .int .u32 k.2.2.2.2.2]

def SlotPost (A : Ar) (F : Foot) (j : Nat) (k : Key) (w : World) (e : Ending) (w' : World) : Prop :=
  ∃ i : Nat, e = .returned (.int .i64 i) ∧ Look hf A.nodes j F.slots k i ∧ Below w.heap.size w w'

/-- The relation of the search: d steps, all slots taken, none with the key. -/
def Seek (A : Ar) (F : Foot) (j : Nat) (k : Key) (d : Nat) : Prop :=
  d < F.slots.length ∧ ∀ d', d' < d → at0 F.slots ((hf k + d') % F.slots.length) ≠ 0 ∧ (ndAt A.nodes (at0 F.slots ((hf k + d') % F.slots.length) - 1)).key ≠ k

set_option maxHeartbeats 4000000 in
set_option maxRecDepth 100000 in
theorem slot_any {w : World} {p : Nat} {F : Foot} {A : Ar} (h : ArM w p F A) {j : Nat} (t : Tab hf A.nodes j F.slots) (hj : j < F.slots.length) (hl : F.slots.length < 1152921504606846976)
    (hn : A.nodes.length < 4294967296) {k : Key} (hk : KeyB k) :
    Calls Try.prog 75 #[.pointer (some ⟨p, 0, none⟩), keyV k] w (SlotPost A F j k w) := by
  obtain ⟨l, b, k0, k1, k2, k3⟩ := k
  obtain ⟨b0, b1, b2, b3, b4, b5⟩ := hk
  dsimp only at b0 b1 b2 b3 b4 b5
  obtain ⟨D, hD, hD0⟩ := t.free_from hj (hf (l, b, k0, k1, k2, k3))
  obtain ⟨sb, scap, hsv, _, _, hsb⟩ := h.slots.form (by omega)
  obtain ⟨nv, ncap, hnv, _⟩ := h.nodes.slice
  have h0 := h.c0
  have h1 := h.c1
  rw [hnv] at h0
  rw [hsv] at h1
  have hp := h.lt
  obtain ⟨hH, hH2⟩ := hf_eq (l, b, k0, k1, k2, k3)
  have HE : Hid (hf (l, b, k0, k1, k2, k3) = hf (l, b, k0, k1, k2, k3)) := rfl
  obtain ⟨H, hHd⟩ : ∃ H, H = hf (l, b, k0, k1, k2, k3) := ⟨_, rfl⟩
  rw [← hHd] at hH hH2
  simp only [hashI] at hH
  have hwl : IntKind.u64.wrap (F.slots.length : Int) = F.slots.length := by rw [IntKind.wrap_u64]; omega
  have m1 : (0 : Int) ≤ (H : Int) % (F.slots.length : Int) := Int.emod_nonneg _ (by omega)
  have m2 : (H : Int) % (F.slots.length : Int) < (F.slots.length : Int) := Int.emod_lt_of_pos _ (by omega)
  have HHd := Lib.hid hHd
  have i0 : ∀ w, (Instr.index 81 (.agg #[.int .u32 k0, .int .u32 k1, .int .u32 k2, .int .u32 k3]) (.int .i64 0)).run Try.prog w = .ok (.int .u32 k0) w := fun _ => by kernel_rfl
  have i1 : ∀ w, (Instr.index 81 (.agg #[.int .u32 k0, .int .u32 k1, .int .u32 k2, .int .u32 k3]) (.int .i64 1)).run Try.prog w = .ok (.int .u32 k1) w := fun _ => by kernel_rfl
  have i2 : ∀ w, (Instr.index 81 (.agg #[.int .u32 k0, .int .u32 k1, .int .u32 k2, .int .u32 k3]) (.int .i64 2)).run Try.prog w = .ok (.int .u32 k2) w := fun _ => by kernel_rfl
  have i3 : ∀ w, (Instr.index 81 (.agg #[.int .u32 k0, .int .u32 k1, .int .u32 k2, .int .u32 k3]) (.int .i64 3)).run Try.prog w = .ok (.int .u32 k3) w := fun _ => by kernel_rfl
  have Hsv := Lib.hid hsv
  clear hHd hsv hnv
  go_enter Try.func75, Try.ntmps75
  unfold keyV
  go_wp2_with (go_at_call 87; refine (mix_any _ _ _).mono ?_; rintro e w' ⟨rfl, rfl⟩)
  refine wp_loop_rounds 5 ?_
  repeat (rw [rounds_succ]; go_wp2_with (go_at_call 87; refine (mix_any _ _ _).mono ?_; rintro e w' ⟨rfl, rfl⟩))
  go_loopg [8] (D + 1) (fun g v wr => ∃ d i : Nat, v = .int .i64 i ∧ i = (H + d) % F.slots.length ∧ D + 1 - d ≤ g ∧ Seek A F j (l, b, k0, k1, k2, k3) d ∧ Below w.heap.size w wr ∧
      wr.heap[w.heap.size]? = some (.cells #[.int .i64 l, .int .u32 b, .int .u32 k0, .int .u32 k1, .int .u32 k2, .int .u32 k3] 130 (0, 0)))
  case atStart =>
    exact ⟨0, H % F.slots.length, by rw [Int.natCast_emod], rfl, by omega, ⟨by omega, fun d' hd' => by omega⟩, (Below.refl _ _).alloc (Nat.le_refl _) _, heap_alloc_new _ _⟩
  case round =>
    obtain ⟨d, i, rfl, hi, hg, hs, hb, hkb⟩ := hrel
    have hil : i < F.slots.length := by rw [hi]; exact Nat.mod_lt _ (by omega)
    have Hi := Lib.hid hi
    have Hs := Lib.hid hs
    clear hi hs
    have hr := h.new hb
    have r0 := hr.c0
    have r1 := hr.c1
    have hsv' := Hsv.out
    have hw := lt_of_block hkb
    have hb2 := hb.size
    have HD := t.val i
    by_cases hv0 : at0 F.slots i = 0
    · have cs : wr.cell? ⟨sb, i, none⟩ = some (.int .u32 0) := by rw [hr.slot Hsv.out hil, hv0]; rfl
      rw [hsv'] at r1
      clear hsv'
      have hlook : Look hf A.nodes j F.slots (l, b, k0, k1, k2, k3) i := by
        have := t.look_free (k := (l, b, k0, k1, k2, k3)) (d := d) Hs.out.1 Hs.out.2
        rw [← HHd.out, ← Hi.out] at this
        exact this hv0
      clear hv0 hH hwl m1 m2 i0 i1 i2 i3 h0 h1 r0 hkb hb2
      go_wp2
      go_ret
      exact ⟨i, rfl, hlook, hb⟩
    · obtain ⟨u, hu⟩ : ∃ u, at0 F.slots i = u + 1 := ⟨at0 F.slots i - 1, by omega⟩
      have cs : wr.cell? ⟨sb, i, none⟩ = some (.int .u32 ((u : Int) + 1)) := by rw [hr.slot Hsv.out hil, hu]; rfl
      have huj : u < j := by omega
      have hun : u < A.nodes.length := by have := t.jle; omega
      obtain ⟨nb, ncap2, hnb, _, _, hnl⟩ := hr.nodes.form (by omega)
      have c0 := hr.nd hnb hun (j := 0) (by omega)
      have c1 := hr.nd hnb hun (j := 1) (by omega)
      have c2 := hr.nd hnb hun (j := 2) (by omega)
      have c3 := hr.nd hnb hun (j := 3) (by omega)
      have c4 := hr.nd hnb hun (j := 4) (by omega)
      have c5 := hr.nd hnb hun (j := 5) (by omega)
      have c6 := hr.nd hnb hun (j := 6) (by omega)
      simp only [Nd.cells, List.getElem?_cons_zero, List.getElem?_cons_succ, Nat.add_zero] at c0 c1 c2 c3 c4 c5 c6
      rw [hsv'] at r1
      rw [hnb] at r0
      obtain ⟨⟨l', b', x0, x1, x2, x3, cn⟩, hnd⟩ : ∃ x, ndAt A.nodes u = x := ⟨_, rfl⟩
      rw [hnd] at c0 c1 c2 c3 c4 c5 c6
      dsimp only at c0 c1 c2 c3 c4 c5 c6
      have heq := eq_key (l' : Int) b' x0 x1 x2 x3 l b k0 k1 k2 k3
      have kb0 : wr.cell? ⟨w.heap.size, 0, none⟩ = some (.int .i64 l) := by rw [cell_of_row _ _ _ _ _ _ hkb]; rfl
      have kb1 : wr.cell? ⟨w.heap.size, 1, none⟩ = some (.int .u32 b) := by rw [cell_of_row _ _ _ _ _ _ hkb]; rfl
      have kb2 : wr.cell? ⟨w.heap.size, 2, none⟩ = some (.int .u32 k0) := by rw [cell_of_row _ _ _ _ _ _ hkb]; rfl
      have kb3 : wr.cell? ⟨w.heap.size, 3, none⟩ = some (.int .u32 k1) := by rw [cell_of_row _ _ _ _ _ _ hkb]; rfl
      have kb4 : wr.cell? ⟨w.heap.size, 4, none⟩ = some (.int .u32 k2) := by rw [cell_of_row _ _ _ _ _ _ hkb]; rfl
      have kb5 : wr.cell? ⟨w.heap.size, 5, none⟩ = some (.int .u32 k3) := by rw [cell_of_row _ _ _ _ _ _ hkb]; rfl
      have Hu := Lib.hid hu
      have Hnd := Lib.hid hnd
      have Hkb := Lib.hid hkb
      have hpr := hr.lt
      have hsbr : sb < wr.heap.size := by omega
      have u1 : (u : Int) < (A.nodes.length : Int) := by omega
      have u2 : IntKind.u32.wrap ((u : Int) + 1 - 1) = u := by rw [Int.add_sub_cancel]; exact IntWalk.u32_in _ (by omega)
      have u3 : IntKind.u32.wrap (u : Int) = u := IntWalk.u32_in _ (by omega)
      have u4 : (0 : Int) ≤ (u : Int) := Int.natCast_nonneg _
      clear hu hnd hv0 hsv' hkb hnb hH hwl m1 m2 i0 i1 i2 i3 h0 h1
      by_cases hkey : (l', b', x0, x1, x2, x3) = (l, b, k0, k1, k2, k3)
      · have hq : ((l' : Int) == l && ((b' : Int) == b && ((x0 : Int) == k0 && ((x1 : Int) == k1 && ((x2 : Int) == k2 && (x3 : Int) == k3))))) = true := by
          simp only [Prod.mk.injEq] at hkey
          obtain ⟨rfl, rfl, rfl, rfl, rfl, rfl⟩ := hkey
          simp
        rw [hq] at heq
        have hlook : Look hf A.nodes j F.slots (l, b, k0, k1, k2, k3) i := t.look_hit hil (by rw [Hu.out]; omega) (by rw [Hu.out, Nat.add_sub_cancel, Hnd.out]; exact hkey)
        clear hq hkey
        go_wp2_with fail
        go_region_held3 (fun w' => w'.cell? ⟨p, 0, none⟩ = some (.slice (some ⟨nb, 0, none⟩) A.nodes.length ncap2) ∧ w'.cell? ⟨p, 1, none⟩ = some (.slice (some ⟨sb, 0, none⟩) F.slots.length scap) ∧ w'.cell? ⟨sb, i, none⟩ = some (.int .u32 ((u : Int) + 1)) ∧
            w'.cell? ⟨nb, u * 7, none⟩ = some (.int .i64 l') ∧ w'.cell? ⟨nb, u * 7 + 1, none⟩ = some (.int .u32 b') ∧ w'.cell? ⟨nb, u * 7 + 2, none⟩ = some (.int .u32 x0) ∧ w'.cell? ⟨nb, u * 7 + 3, none⟩ = some (.int .u32 x1) ∧
            w'.cell? ⟨nb, u * 7 + 4, none⟩ = some (.int .u32 x2) ∧ w'.cell? ⟨nb, u * 7 + 5, none⟩ = some (.int .u32 x3) ∧ w'.cell? ⟨nb, u * 7 + 6, none⟩ = some (.int .u64 cn)) (go_keep) (fail)
        go_wp2
        go_ret
        exact ⟨i, rfl, hlook, (hb.alloc hb2 _).drew⟩
      · have hq : ((l' : Int) == l && ((b' : Int) == b && ((x0 : Int) == k0 && ((x1 : Int) == k1 && ((x2 : Int) == k2 && (x3 : Int) == k3))))) = false := by
          rw [Bool.eq_false_iff]
          intro e
          simp only [Bool.and_eq_true, beq_iff_eq] at e
          obtain ⟨e0, e1, e2, e3, e4, e5⟩ := e
          exact hkey (by simp only [Prod.mk.injEq]; omega)
        rw [hq] at heq
        have hseek : d + 1 < F.slots.length ∧ ∀ d', d' < d + 1 → at0 F.slots ((hf (l, b, k0, k1, k2, k3) + d') % F.slots.length) ≠ 0 ∧ (ndAt A.nodes (at0 F.slots ((hf (l, b, k0, k1, k2, k3) + d') % F.slots.length) - 1)).key ≠ (l, b, k0, k1, k2, k3) := by
          have hall : ∀ d', d' < d + 1 → at0 F.slots ((hf (l, b, k0, k1, k2, k3) + d') % F.slots.length) ≠ 0 ∧ (ndAt A.nodes (at0 F.slots ((hf (l, b, k0, k1, k2, k3) + d') % F.slots.length) - 1)).key ≠ (l, b, k0, k1, k2, k3) := by
            intro d' hd'
            by_cases e : d' = d
            · subst e
              rw [← HHd.out, ← Hi.out, Hu.out, Nat.add_sub_cancel, Hnd.out]
              exact ⟨by omega, hkey⟩
            · exact Hs.out.2 d' (by omega)
          refine ⟨?_, hall⟩
          rcases Nat.lt_or_ge D (d + 1) with h9 | h9
          · exact absurd hD0 (hall D h9).1
          · omega
        have hdD : d + 1 ≤ D := by
          rcases Nat.lt_or_ge D (d + 1) with h9 | h9
          · exact absurd hD0 (hseek.2 D h9).1
          · exact h9
        have Hseek := Lib.hid hseek
        have n1 : (0 : Int) < (F.slots.length : Int) := by omega
        clear hq hkey hseek hD0
        go_wp2_with fail
        go_region_held3 (fun w' => w'.cell? ⟨p, 0, none⟩ = some (.slice (some ⟨nb, 0, none⟩) A.nodes.length ncap2) ∧ w'.cell? ⟨p, 1, none⟩ = some (.slice (some ⟨sb, 0, none⟩) F.slots.length scap) ∧ w'.cell? ⟨sb, i, none⟩ = some (.int .u32 ((u : Int) + 1)) ∧
            w'.cell? ⟨nb, u * 7, none⟩ = some (.int .i64 l') ∧ w'.cell? ⟨nb, u * 7 + 1, none⟩ = some (.int .u32 b') ∧ w'.cell? ⟨nb, u * 7 + 2, none⟩ = some (.int .u32 x0) ∧ w'.cell? ⟨nb, u * 7 + 3, none⟩ = some (.int .u32 x1) ∧
            w'.cell? ⟨nb, u * 7 + 4, none⟩ = some (.int .u32 x2) ∧ w'.cell? ⟨nb, u * 7 + 5, none⟩ = some (.int .u32 x3) ∧ w'.cell? ⟨nb, u * 7 + 6, none⟩ = some (.int .u64 cn)) (go_keep) (fail)
        go_wp2
        go_roundg (D + 1 - (d + 1))
        case measure => omega
        case rel =>
          refine ⟨d + 1, (i + 1) % F.slots.length, ?_, ?_, Nat.le_refl _, Hseek.out, (hb.alloc hb2 _).drew, ?_⟩
          · rw [Int.natCast_emod]; go_num
          · rw [Hi.out, Nat.mod_add_mod, Nat.add_assoc]
          · exact (Below.heap_alloc _ _ _ hw).trans Hkb.out
end Go.Proofs.Ytehmbhdapgkbcaa
