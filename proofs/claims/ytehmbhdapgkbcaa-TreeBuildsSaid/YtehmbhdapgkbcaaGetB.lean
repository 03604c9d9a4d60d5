/- Get at a cell inside. -/
import Derived.Test.YtehmbhdapgkbcaaGet
namespace Go.Proofs.Ytehmbhdapgkbcaa
open Go.RowKit

theorem belN {B : Nat} {w w' : World} (h : Below B w w') (n : Nat) : Below B w (w'.drewN n) := ⟨h.os, h.tape, h.output, h.size, h.block⟩

set_option maxHeartbeats 8000000 in
set_option maxRecDepth 100000 in
theorem get_in {w : World} {p : Nat} {F : Foot} {A : Ar} (h : ArS w p F A) (ok : A.Ok) {i : Nat} (hn : A.nodes.length < 4294967296) (hl : 3 ≤ A.lv i) {c : Cl} (hin : inside (A.lv i) c.a c.b = true) (h0 : 0 ≤ c.h) (h1 : c.h ≤ 1) :
    Calls Try.prog 25 #[.pointer (some ⟨p, 0, none⟩), .int .u32 i, clV c] w fun e w' => e = .returned (.bool (decide (c ∈ A.cells i))) ∧ Below w.heap.size w w' := by
  have hlt := lvl_lt hl
  have hpo := putOk ok hl hin h0 h1
  have h44 := (ok.wf.lv hlt).2
  have hlvl := fun W (hW : ArS W p F A) => hW.toArM.level (i := i) (by omega)
  rw [Ar.lvl_in hlt] at hlvl
  have horg := origin_any (A.lv i) (by omega) h44
  have hins := inside_any (A.lv i) (by omega) h44 c.a c.b
  rw [hin] at hins
  unfold Ar.cells
  clear hin
  unfold Ar.lv at *
  generalize hL : (ndAt A.nodes i).lv = L at *
  have Hpo := Lib.hid hpo
  clear hpo
  generalize half L = H at *
  obtain ⟨ca, cb, ch⟩ := c
  dsimp only at *
  have hL3 : ¬ (L : Int) < 3 := by omega
  have hc0 : ¬ ch < 0 := by omega
  have hc1 : ¬ 1 < ch := by omega
  go_enter Try.func25, Try.ntmps25
  go_wp2_with fail
  refine (hlvl _ (h.alloc _)).mono ?_
  rintro e w1 ⟨rfl, rfl⟩
  go_wp2_with fail
  refine (hins _).mono ?_
  rintro e w2 ⟨rfl, hb2⟩
  have hz2 := hb2.size
  simp only [World.size_alloc] at hz2
  have hS2 : ArS w2 p F A := (h.alloc _).new hb2
  have hB2 : Below w.heap.size w w2 := ((Below.refl _ _).alloc (Nat.le_refl _) _).trans (hb2.mono (by simp))
  have z0 : w2.cell? ⟨w.heap.size, 0, none⟩ = some (.int .i64 ca) := (hb2.cell (p := ⟨w.heap.size, 0, none⟩) (by simp)).trans (World.cell?_alloc_new _ _ _ _)
  have z1 : w2.cell? ⟨w.heap.size, 1, none⟩ = some (.int .i64 cb) := (hb2.cell (p := ⟨w.heap.size, 1, none⟩) (by simp)).trans (World.cell?_alloc_new _ _ _ _)
  have z2 : w2.cell? ⟨w.heap.size, 2, none⟩ = some (.int .i64 ch) := (hb2.cell (p := ⟨w.heap.size, 2, none⟩) (by simp)).trans (World.cell?_alloc_new _ _ _ _)
  clear hb2 hins hlvl
  go_wp2_with fail
  refine (horg _).mono ?_
  rintro e w3 ⟨rfl, hb3⟩
  have hB3 : Below w.heap.size w w3 := hB2.trans (hb3.mono hB2.size)
  have hS3 : ArS w3 p F A := hS2.new hb3
  have m : ∀ (j : Nat) v, w2.cell? ⟨w.heap.size, j, none⟩ = some v → w3.cell? ⟨w.heap.size, j, none⟩ = some v := fun j v hv => (hb3.cell (p := ⟨w.heap.size, j, none⟩) (show w.heap.size < w2.heap.size by omega)).trans hv
  replace z0 := m _ _ z0
  replace z1 := m _ _ z1
  replace z2 := m _ _ z2
  clear m
  have hz3 := hb3.size
  go_wp2_with fail
  have hblk : (w3.alloc (.cells #[.int .i64 (-H), .int .i64 (-H)] 38)).heap[w3.heap.size]? = some (.cells #[.int .i64 (-H), .int .i64 (-H)] 38 (0, 0)) := heap_alloc_new _ _
  go_loopg [1, 7] (L - 2) (fun g s1 s7 wr => ∃ (f k : Nat) (x y : Int), g = f ∧ s7 = .int .i64 ((f : Int) + 2) ∧ s1 = .int .u32 k ∧ f ≤ 42 ∧ PutOk A f k x y ⟨ca, cb, ch⟩ ∧
    ((⟨ca, cb, ch⟩ : Cl) ∈ cl A.nodes f k x y ↔ (⟨ca, cb, ch⟩ : Cl) ∈ cl A.nodes (L - 2) i (-H) (-H)) ∧ Below w.heap.size w wr ∧ w3.heap.size < wr.heap.size ∧ ArS wr p F A ∧
    wr.heap[w3.heap.size]? = some (.cells #[.int .i64 x, .int .i64 y] 38 (0, 0)) ∧ wr.cell? ⟨w.heap.size, 0, none⟩ = some (.int .i64 ca) ∧ wr.cell? ⟨w.heap.size, 1, none⟩ = some (.int .i64 cb) ∧ wr.cell? ⟨w.heap.size, 2, none⟩ = some (.int .i64 ch))
  case atStart =>
    refine ⟨L - 2, i, -H, -H, rfl, ?_, rfl, by omega, Hpo.out, Iff.rfl, hB3.alloc hB3.size _, by simp, hS3.alloc _, hblk, ?_, ?_, ?_⟩
    · congr 1; omega
    · exact (World.cell?_alloc_past _ _ _ (by omega)).trans z0
    · exact (World.cell?_alloc_past _ _ _ (by omega)).trans z1
    · exact (World.cell?_alloc_past _ _ _ (by omega)).trans z2
  case round =>
    obtain ⟨f, k, x, y, hgk, rfl, rfl, hf, hpk, hmem, hBr, hsz, hSr, hblr, y0, y1, y2⟩ := hrel
    clear z0 z1 z2 hblk hb3 horg hS2 hS3
    have v0 : wr.cell? ⟨w3.heap.size, 0, none⟩ = some (.int .i64 x) := by rw [cell_of_row _ _ _ _ _ _ hblr]; rfl
    have v1 : wr.cell? ⟨w3.heap.size, 1, none⟩ = some (.int .i64 y) := by rw [cell_of_row _ _ _ _ _ _ hblr]; rfl
    cases f with
    | zero =>
      have hbits := hSr.toArM.bits (i := k) (by have := hpk.lt; omega)
      have hsq := hpk.sq
      unfold InSq at hsq
      rw [show (2 : Int) ^ (0 + 2) = 4 from rfl] at hsq
      dsimp only at hsq
      obtain ⟨a, haa⟩ : ∃ a : Nat, (a : Int) = ca - x := ⟨(ca - x).toNat, by omega⟩
      obtain ⟨b, hbb⟩ : ∃ b : Nat, (b : Int) = cb - y := ⟨(cb - y).toNat, by omega⟩
      have hb32 := (ok.wf.leafOf hpk.lt hpk.lv).1
      have hst := state_any (ndAt A.nodes k).bits a b hb32 (by omega) (by omega)
      have wA : IntKind.i64.wrap (ca - x) = a := by rw [IntWalk.i64_in _ (by have := hpk.x0; have := hpk.x1; omega)]; omega
      have wB : IntKind.i64.wrap (cb - y) = b := by rw [IntWalk.i64_in _ (by have := hpk.y0; have := hpk.y1; omega)]; omega
      obtain ⟨d, hd⟩ : ∃ d : Nat, (d : Int) = ch := ⟨ch.toNat, by omega⟩
      have hx4 : (ndAt A.nodes k).bits / 2 ^ (2 * (4 * b + a)) % 4 < 4 := Nat.mod_lt _ (by omega)
      have hT : (ndAt A.nodes k).bits / 2 ^ (2 * (4 * b + a)) % 4 / 2 ^ d % 2 = ((ndAt A.nodes k).bits.testBit (2 * (4 * b + a) + d)).toNat := by
        rw [shiftbits]
        have : d = 0 ∨ d = 1 := by omega
        rcases this with rfl | rfl
        · simp only [Nat.add_zero]; cases (ndAt A.nodes k).bits.testBit (2 * (4 * b + a)) <;> cases (ndAt A.nodes k).bits.testBit (2 * (4 * b + a) + 1) <;> simp
        · cases (ndAt A.nodes k).bits.testBit (2 * (4 * b + a)) <;> cases (ndAt A.nodes k).bits.testBit (2 * (4 * b + a) + 1) <;> simp
      have hk : decide ((⟨ca, cb, ch⟩ : Cl) ∈ cl A.nodes (L - 2) i (-H) (-H)) = (ndAt A.nodes k).bits.testBit (2 * (4 * b + a) + d) := by
        rw [Bool.eq_iff_iff, decide_eq_true_eq, ← hmem]
        have hq : (⟨ca, cb, ch⟩ : Cl) = bitCl x y (2 * (4 * b + a) + d) := by apply Cl.eq <;> simp only [bitCl] <;> omega
        simp only [cl]
        rw [hq, mem_leafCl (by omega)]
      generalize (ndAt A.nodes k).bits.testBit (2 * (4 * b + a) + d) = bt at hT hk
      generalize hxx : (ndAt A.nodes k).bits / 2 ^ (2 * (4 * b + a)) % 4 = xx at hst hx4 hT
      have hdv := div_pow_i64 xx d (by omega)
      have hlt2 : xx / 2 ^ d < 4 := Nat.lt_of_le_of_lt (Nat.div_le_self _ _) hx4
      have han := and1_i64 (xx / 2 ^ d) (Nat.lt_trans hlt2 (by decide))
      rw [hT] at han
      have hcast : ((xx / 2 ^ d : Nat) : Int) = (xx : Int) / 2 ^ d := by rw [Int.natCast_ediv]; norm_cast
      rw [hcast] at han hdv
      have hM := hSr.toArM
      have hbits := fun W (hW : ArM W p F A) => hW.bits (i := k) (by have := hpk.lt; omega)
      subst hd
      have hd2 : (d : Int) < 2 := by omega
      have e3 : ((0 : Nat) : Int) + 2 = 2 := rfl
      rw [e3]
      have HK := Lib.hid hk
      clear e3 hT hlt2 hcast hk hmem hpk hxx hsq Hpo hx4 hb32 hc0 hc1 h0 h1 haa hbb
      generalize (ndAt A.nodes k).bits = bts at *
      cases bt
      all_goals
        simp only [Bool.toNat_true, Bool.toNat_false, Int.cast_ofNat_Int] at han
        go_wp2_with fail
        go_quiet ((first | (go_at_call 55; first | exact quiet_of_eq (hbits _ (by repeat (first | exact hM | refine ArM.drewN ?_ _))) | exact quiet_of_eq2 (hbits _ (by repeat (first | exact hM | refine ArM.drewN ?_ _)))) | (go_at_call 56; first | exact quiet_of_eq (hst _) | exact quiet_of_eq2 (hst _))))
        go_wp2
        go_ret
        exact ⟨by rw [HK.out]; rfl, belN hBr _⟩
    | succ f =>
      have hquart : ∀ W, Calls Try.prog 53 #[.int .i64 ((f : Int) + 3), .agg #[.int .i64 x, .int .i64 y], .agg #[.int .i64 ca, .int .i64 cb]] W fun e w' => e = .returned (.tuple #[.int .i64 (quad (f + 2) x y ca cb), .agg #[.int .i64 (quadA (f + 2) x ca), .int .i64 (quadA (f + 2) y cb)]]) ∧ Below W.heap.size W w' := fun W => by
        have p2 : (0 : Int) < 2 ^ (f + 1 + 2) := Int.pow_pos (by omega)
        have b1 := hpk.x0
        have b2 := hpk.x1
        have b3 := hpk.y0
        have b4 := hpk.y1
        have := quarter_any (f + 2) (by omega) x y ca cb ⟨b1, by omega⟩ ⟨b3, by omega⟩ W
        rwa [show ((f + 2 + 1 : Nat) : Int) = (f : Int) + 3 by omega] at this
      have hgt : (2 : Int) < (f : Int) + 3 := by omega
      have e3 : ((f + 1 : Nat) : Int) + 2 = (f : Int) + 3 := by omega
      rw [e3]
      clear e3
      go_wp2_with fail
      refine (hquart _).mono ?_
      rintro e w4 ⟨rfl, hb4⟩
      have hz4 := hb4.size
      have hS4 : ArS w4 p F A := hSr.new hb4
      have hB4 : Below w.heap.size w w4 := hBr.trans (hb4.mono hBr.size)
      have hbl4 : w4.heap[w3.heap.size]? = some (.cells #[.int .i64 x, .int .i64 y] 38 (0, 0)) := (hb4.block _ hsz).trans hblr
      have v0' : w4.cell? ⟨w3.heap.size, 0, none⟩ = some (.int .i64 x) := by rw [cell_of_row _ _ _ _ _ _ hbl4]; rfl
      have v1' : w4.cell? ⟨w3.heap.size, 1, none⟩ = some (.int .i64 y) := by rw [cell_of_row _ _ _ _ _ _ hbl4]; rfl
      have f0 : ∀ j, w4.frozen? ⟨w3.heap.size, j, none⟩ = false := fun j => frozen_of_row _ _ _ _ _ hbl4
      have hkids := fun W (hW : ArS W p F A) => hW.toArM.kids (i := k) (by have := hpk.lt; omega)
      have t0 : ∀ j v, wr.cell? ⟨w.heap.size, j, none⟩ = some v → w4.cell? ⟨w.heap.size, j, none⟩ = some v := fun j v hv => (hb4.cell (p := ⟨w.heap.size, j, none⟩) (World.block_lt_of_cell? _ _ hv)).trans hv
      replace y0 := t0 _ _ y0
      replace y1 := t0 _ _ y1
      replace y2 := t0 _ _ y2
      clear hquart v0 v1 t0 hb4
      go_wp2_with fail
      have hB3s := hB3.size
      have hbl5 : ((w4.setCell ⟨w3.heap.size, 0, none⟩ (.int .i64 (quadA (f + 2) x ca))).setCell ⟨w3.heap.size, 1, none⟩ (.int .i64 (quadA (f + 2) y cb))).heap[w3.heap.size]? = some (.cells #[.int .i64 (quadA (f + 2) x ca), .int .i64 (quadA (f + 2) y cb)] 38 (0, 0)) :=
        heap_setCell_same _ _ _ _ _ _ (heap_setCell_same w4 w3.heap.size 0 _ _ (.int .i64 (quadA (f + 2) x ca)) hbl4)
      have hT5 : Touch (fun k => k = w3.heap.size) w4 ((w4.setCell ⟨w3.heap.size, 0, none⟩ (.int .i64 (quadA (f + 2) x ca))).setCell ⟨w3.heap.size, 1, none⟩ (.int .i64 (quadA (f + 2) y cb))) := ((Touch.refl (fun k => k = w3.heap.size) w4).setCell (p := ⟨w3.heap.size, 0, none⟩) (fun _ => rfl) _).setCell (p := ⟨w3.heap.size, 1, none⟩) (fun _ => rfl) _
      have hS5 := hS4.move hT5 (fun k hk e => by have := h.toArM.foot_lt hk; omega)
      have hB5 : Below w.heap.size w ((w4.setCell ⟨w3.heap.size, 0, none⟩ (.int .i64 (quadA (f + 2) x ca))).setCell ⟨w3.heap.size, 1, none⟩ (.int .i64 (quadA (f + 2) y cb))) := (hB4.setCell hB3s _).setCell hB3s _
      generalize ((w4.setCell ⟨w3.heap.size, 0, none⟩ (.int .i64 (quadA (f + 2) x ca))).setCell ⟨w3.heap.size, 1, none⟩ (.int .i64 (quadA (f + 2) y cb))) = w5 at *
      refine (hkids _ hS5).mono ?_
      rintro e w6 ⟨rfl, hb6⟩
      have hix := kid_index (ndAt A.nodes k) (quad (f + 2) x y ca cb) (quad_lt _ _ _ _ _)
      have hB6 := hB5.trans (hb6.mono hB5.size)
      have hl5 : w3.heap.size < w5.heap.size := lt_of_block hbl5
      have hbl6 := (hb6.block _ hl5).trans hbl5
      have t0 : ∀ j v, w4.cell? ⟨w.heap.size, j, none⟩ = some v → w6.cell? ⟨w.heap.size, j, none⟩ = some v := fun j v hv => by
        have h5 := hT5.kept hv (show ¬ w.heap.size = w3.heap.size by omega)
        exact (hb6.cell (p := ⟨w.heap.size, j, none⟩) (World.block_lt_of_cell? _ _ h5)).trans h5
      replace y0 := t0 _ _ y0
      replace y1 := t0 _ _ y1
      replace y2 := t0 _ _ y2
      have hz6 := hb6.size
      clear t0 hkids
      go_wp2
      go_roundg f
      case measure => omega
      case rel => exact ⟨f, _, _, _, rfl, by go_num, rfl, by omega, hpk.kid, (mem_quad ok.wf hpk.lt hpk.lv hpk.sq).symm.trans hmem, hB6, by omega, hS5.new hb6, hbl6, y0, y1, y2⟩

end Go.Proofs.Ytehmbhdapgkbcaa
