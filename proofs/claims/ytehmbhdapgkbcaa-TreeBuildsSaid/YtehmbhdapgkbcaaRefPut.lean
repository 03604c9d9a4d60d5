/- The document's sets: Put: the walk. -/
import Derived.Test.YtehmbhdapgkbcaaRefs
namespace Go.Proofs.Ytehmbhdapgkbcaa
open Go.RowKit

/-- The frames that the loops below share: the cell c in a box, an own row behind it. -/
theorem keepB {w wr w3 : World} {o : Obj} {v : Value} {B : Nat} (hB : Below B (w.alloc o) wr) (hBw : B = w.heap.size + 1) (hn : ∀ j, v.ownBlock = some j → B ≤ j) {W : World} (hW : Below wr.heap.size wr W) (hT : Touch (fun j => v.ownBlock = some j) W w3) : Below B (w.alloc o) w3 := by
  subst hBw
  have hz := hB.size
  simp only [World.size_alloc] at hz
  have h2 := hB.trans (hW.mono (by omega))
  exact ⟨hT.os.trans h2.os, hT.tape.trans h2.tape, hT.output.trans h2.output, Nat.le_trans h2.size hT.size, fun j hj => (hT.block j (Nat.lt_of_lt_of_le (by simpa using hj) h2.size) (fun h => by have := hn j h; omega)).trans (h2.block j hj)⟩

set_option maxHeartbeats 16000000 in
set_option maxRecDepth 100000 in
theorem put_set {l : List Cl} {v : Value} {w : World} (h : RefRow w v l) (hl : l.length < 100000) (c : Cl) :
    Calls Try.prog 15 #[v, .agg #[.int .i64 c.a, .int .i64 c.b, .int .i64 c.h]] w (RowPost (putIn c false l) w) := by
  obtain ⟨va, vcap, rfl, _⟩ := h.slice
  have hform : 0 < l.length → ∃ g, va = some ⟨g, 0, none⟩ ∧ g < w.heap.size := fun hp => by
    obtain ⟨g, cap, he, _, _, hg⟩ := h.form hp
    cases he
    exact ⟨g, rfl, hg⟩
  have H := Lib.hid h
  have Hform := Lib.hid hform
  have Hne := Lib.hid (fun x => neq_rf x c)
  have Hah := Lib.hid (fun x => ahead_any x c)
  have Hple := Lib.hid (putIn_le c false l)
  clear h hform
  obtain ⟨ca, cb, ch⟩ := c
  have hmade := made_row (w.alloc (.cells #[.int .i64 ca, .int .i64 cb, .int .i64 ch] 32))
  rw [World.size_alloc] at hmade
  go_enter Try.func15, Try.ntmps15
  go_wp2_with fail
  have hBs : Below (w.heap.size + 1) (w.alloc (.cells #[.int .i64 ca, .int .i64 cb, .int .i64 ch] 32)) ((w.alloc (.cells #[.int .i64 ca, .int .i64 cb, .int .i64 ch] 32)).alloc (.cells #[] 32)) := (Below.refl _ _).alloc (by simp) _
  go_loopg [5, 6, 12] l.length (fun m s5 s6 s12 wr => ∃ (k : Nat) (done : Bool) (acc : List Cl), m = l.length - k ∧ k ≤ l.length ∧ s12 = .int .i64 k ∧ s6 = .bool done ∧ acc ++ putIn ⟨ca, cb, ch⟩ done (l.drop k) = putIn ⟨ca, cb, ch⟩ false l ∧ RefRow wr s5 acc ∧ (∀ j, s5.ownBlock = some j → w.heap.size + 1 ≤ j) ∧
    Below (w.heap.size + 1) (w.alloc (.cells #[.int .i64 ca, .int .i64 cb, .int .i64 ch] 32)) wr)
  case atStart => exact ⟨0, false, [], by omega, by omega, rfl, rfl, rfl, hmade, (fun j hj => by cases hj; exact Nat.le_refl _), hBs⟩
  case round =>
    clear hmade hBs
    obtain ⟨k, done, acc, hm, hk, rfl, rfl, hacc, hrow, hnw, hB⟩ := hrel
    have hz := hB.size
    simp only [World.size_alloc] at hz
    have hBw : Below w.heap.size w wr := ((Below.refl _ _).alloc (Nat.le_refl _) _).trans (hB.mono (by omega))
    have hal : acc.length ≤ 100000 := by
      have h1 := congrArg List.length hacc
      rw [List.length_append] at h1
      have := Hple.out
      omega
    have d0 : ∀ W, Below wr.heap.size wr W → W.cell? ⟨w.heap.size, 0, none⟩ = some (.int .i64 ca) := fun W hW => (hW.cell (p := ⟨w.heap.size, 0, none⟩) (by show w.heap.size < wr.heap.size; omega)).trans ((hB.cell (p := ⟨w.heap.size, 0, none⟩) (by simp)).trans (World.cell?_alloc_new _ _ _ _))
    have d1 : ∀ W, Below wr.heap.size wr W → W.cell? ⟨w.heap.size, 1, none⟩ = some (.int .i64 cb) := fun W hW => (hW.cell (p := ⟨w.heap.size, 1, none⟩) (by show w.heap.size < wr.heap.size; omega)).trans ((hB.cell (p := ⟨w.heap.size, 1, none⟩) (by simp)).trans (World.cell?_alloc_new _ _ _ _))
    have d2 : ∀ W, Below wr.heap.size wr W → W.cell? ⟨w.heap.size, 2, none⟩ = some (.int .i64 ch) := fun W hW => (hW.cell (p := ⟨w.heap.size, 2, none⟩) (by show w.heap.size < wr.heap.size; omega)).trans ((hB.cell (p := ⟨w.heap.size, 2, none⟩) (by simp)).trans (World.cell?_alloc_new _ _ _ _))
    have Hacc := Lib.hid hacc
    clear hacc
    by_cases hkn : k = l.length
    · have hge : ¬ ((k : Int) < (l.length : Int)) := by omega
      have Hkn := Lib.hid hkn
      clear hkn hm
      cases done
      · have q0 := d0 wr (Below.refl _ _)
        have q1 := d1 wr (Below.refl _ _)
        have q2 := d2 wr (Below.refl _ _)
        have hblk : (wr.alloc (.cells #[.int .i64 ca, .int .i64 cb, .int .i64 ch] 32)).heap[wr.heap.size]? = some (.cells #[.int .i64 ca, .int .i64 cb, .int .i64 ch] 32 (0, 0)) := heap_alloc_new _ _
        clear d0 d1 d2
        go_wp2_with (refine wpList_push rfl _ _ 22 rfl 32 Try.underlying22 infoRef rfl _ _ rfl (hrow.alloc _) (by omega) wr.heap.size ⟨ca, cb, ch⟩ 32 rfl hblk ?_; intro v3 w3 hrow3 hT3 hnew3)
        go_ret
        have e : acc ++ [⟨ca, cb, ch⟩] = putIn ⟨ca, cb, ch⟩ false l := by rw [← Hacc.out, Hkn.out, List.drop_length]; rfl
        rw [e] at hrow3
        have hB3 := keepB hB rfl hnw ((Below.refl _ _).alloc (Nat.le_refl _) _) hT3
        exact ⟨_, rfl, hrow3, ((Below.refl _ _).alloc (Nat.le_refl _) _).trans (hB3.mono (by omega)), fun j hj => by
          rcases hnew3 j hj with h | h
          · have := hnw j h; omega
          · simp at h; omega⟩
      · clear d0 d1 d2
        go_wp2
        go_ret
        have e : acc = putIn ⟨ca, cb, ch⟩ false l := by rw [← Hacc.out, Hkn.out, List.drop_length]; simp [putIn]
        rw [← e]
        exact ⟨_, rfl, hrow, hBw, fun j hj => by have := hnw j hj; omega⟩
    · have hlt : (k : Int) < (l.length : Int) := by omega
      obtain ⟨g, rfl, hg⟩ := Hform.out (by omega)
      have hr : RefRow wr (.slice (some ⟨g, 0, none⟩) l.length vcap) l := H.out.move (S := Only) (.of_new hBw) fun _ _ h => h
      obtain ⟨a0, a1, a2⟩ := row3 hr (i := k) (by omega)
      have hdk : l.drop k = l[k] :: l.drop (k + 1) := List.drop_eq_getElem_cons (by omega)
      generalize l[k] = x at a0 a1 a2 hdk
      have hxne := Hne.out x
      have hah := Hah.out x
      have hstep := Hacc.out
      rw [hdk] at hstep
      simp only [putIn] at hstep
      have e0 := d0 _ ((Below.refl _ _).alloc (Nat.le_refl _) (.cells #[.int .i64 x.a, .int .i64 x.b, .int .i64 x.h] 32))
      have e1 := d1 _ ((Below.refl _ _).alloc (Nat.le_refl _) (.cells #[.int .i64 x.a, .int .i64 x.b, .int .i64 x.h] 32))
      have e2 := d2 _ ((Below.refl _ _).alloc (Nat.le_refl _) (.cells #[.int .i64 x.a, .int .i64 x.b, .int .i64 x.h] 32))
      have hBx : Below wr.heap.size wr (wr.alloc (.cells #[.int .i64 x.a, .int .i64 x.b, .int .i64 x.h] 32)) := (Below.refl _ _).alloc (Nat.le_refl _) _
      have hxc : ∀ W, Below (wr.alloc (.cells #[.int .i64 x.a, .int .i64 x.b, .int .i64 x.h] 32)).heap.size (wr.alloc (.cells #[.int .i64 x.a, .int .i64 x.b, .int .i64 x.h] 32)) W → W.heap[wr.heap.size]? = some (.cells #[.int .i64 x.a, .int .i64 x.b, .int .i64 x.h] 32 (0, 0)) := fun W hW => (hW.block _ (by simp)).trans (heap_alloc_new _ _)
      cases done
      · cases hlt2 : x.lt ⟨ca, cb, ch⟩
        · rw [hlt2] at hah hstep
          have hcb : ∀ W, Below wr.heap.size wr W → W.heap[w.heap.size]? = some (.cells #[.int .i64 ca, .int .i64 cb, .int .i64 ch] 32 (0, 0)) := fun W hW => ((hW.block _ (by omega)).trans (hB.block _ (by simp))).trans (heap_alloc_new _ _)
          by_cases hx : x = ⟨ca, cb, ch⟩
          · rw [decide_eq_true hx] at hxne
            simp only [Bool.not_false, Bool.and_self, if_true, Bool.or_true, if_pos hx, List.append_nil, List.nil_append, ← List.append_assoc] at hstep
            have Hstep := Lib.hid hstep
            clear hstep hdk hr hlt2 hx
            obtain ⟨xa, xb, xh⟩ := x
            dsimp only at *
            go_wp2_with fail
            refine (hah _).mono ?_
            rintro e w2 ⟨rfl, hb2⟩
            have hxb := hxc w2 hb2
            have hB2 : Below wr.heap.size wr w2 := hBx.trans (hb2.mono (by simp))
            have hz2 := hB2.size
            have hcb2 := hcb w2 hB2
            have y0 := d0 w2 hB2
            have y1 := d1 w2 hB2
            have y2 := d2 w2 hB2
            have hrow2 : RefRow w2 u5 acc := hrow.move (S := Only) (.of_new hB2) fun _ _ h => h
            have hblk : (w2.alloc (.cells #[.int .i64 ca, .int .i64 cb, .int .i64 ch] 32)).heap[w2.heap.size]? = some (.cells #[.int .i64 ca, .int .i64 cb, .int .i64 ch] 32 (0, 0)) := heap_alloc_new _ _
            have hw2 : wr.heap.size < w2.heap.size := by have := hb2.size; simp at this; omega
            have hlow : ∀ j, u5.ownBlock = some j → w.heap.size < j ∧ j < wr.heap.size := fun j hj => ⟨hnw j hj, hrow.lt hj⟩
            have hal2 : (w2.alloc (.cells #[.int .i64 ca, .int .i64 cb, .int .i64 ch] 32)).heap.size = w2.heap.size + 1 := World.size_alloc _ _
            have hkeep2 : ∀ j, j < w2.heap.size → (w2.alloc (.cells #[.int .i64 ca, .int .i64 cb, .int .i64 ch] 32)).heap[j]? = w2.heap[j]? := fun j hj => ((Below.refl w2.heap.size w2).alloc (Nat.le_refl _) _).block j hj
            clear e0 e1 e2 a0 a1 a2 hb2 d0 d1 d2 hxc hah hcb
            go_wp2_with (
              refine wpList_push rfl _ _ 22 rfl 32 Try.underlying22 infoRef rfl _ _ rfl (hrow2.alloc _) (by omega) (w2.heap.size) ⟨ca, cb, ch⟩ 32 rfl hblk ?_
              intro v3 w3 hrow3 hT3 hnew3
              have hx3 : w3.heap[wr.heap.size]? = some (.cells #[.int .i64 xa, .int .i64 xb, .int .i64 xh] 32 (0, 0)) := (hT3.block _ (by rw [hal2]; omega) (fun h => by have := hlow _ h; omega)).trans ((hkeep2 _ hw2).trans hxb)
              have hc3 : w3.heap[w.heap.size]? = some (.cells #[.int .i64 ca, .int .i64 cb, .int .i64 ch] 32 (0, 0)) := (hT3.block _ (by rw [hal2]; omega) (fun h => by have := hlow _ h; omega)).trans ((hkeep2 _ (by omega)).trans hcb2)
              have x0 : w3.cell? ⟨wr.heap.size, 0, none⟩ = some (.int .i64 xa) := by rw [cell_of_row _ _ _ _ _ _ hx3]; rfl
              have x1 : w3.cell? ⟨wr.heap.size, 1, none⟩ = some (.int .i64 xb) := by rw [cell_of_row _ _ _ _ _ _ hx3]; rfl
              have x2 : w3.cell? ⟨wr.heap.size, 2, none⟩ = some (.int .i64 xh) := by rw [cell_of_row _ _ _ _ _ _ hx3]; rfl
              have c0 : w3.cell? ⟨w.heap.size, 0, none⟩ = some (.int .i64 ca) := by rw [cell_of_row _ _ _ _ _ _ hc3]; rfl
              have c1 : w3.cell? ⟨w.heap.size, 1, none⟩ = some (.int .i64 cb) := by rw [cell_of_row _ _ _ _ _ _ hc3]; rfl
              have c2 : w3.cell? ⟨w.heap.size, 2, none⟩ = some (.int .i64 ch) := by rw [cell_of_row _ _ _ _ _ _ hc3]; rfl)
            go_roundg (l.length - (k + 1))
            case measure => omega
            case rel =>
              refine ⟨k + 1, true, _, rfl, by omega, by go_num, rfl, Hstep.out, hrow3, fun j hj => ?_, keepB hB rfl hnw (hB2.alloc hB2.size _) hT3⟩
              rcases hnew3 j hj with h | h
              · exact hnw j h
              · rw [hal2] at h; omega
          · rw [decide_eq_false hx] at hxne
            simp only [Bool.not_false, Bool.and_self, if_true, Bool.or_true, if_neg hx, ← List.append_assoc] at hstep
            have Hstep := Lib.hid hstep
            clear hstep hdk hr hlt2 hx
            obtain ⟨xa, xb, xh⟩ := x
            dsimp only at *
            go_wp2_with fail
            refine (hah _).mono ?_
            rintro e w2 ⟨rfl, hb2⟩
            have hxb := hxc w2 hb2
            have hB2 : Below wr.heap.size wr w2 := hBx.trans (hb2.mono (by simp))
            have hz2 := hB2.size
            have hcb2 := hcb w2 hB2
            have y0 := d0 w2 hB2
            have y1 := d1 w2 hB2
            have y2 := d2 w2 hB2
            have hrow2 : RefRow w2 u5 acc := hrow.move (S := Only) (.of_new hB2) fun _ _ h => h
            have hblk : (w2.alloc (.cells #[.int .i64 ca, .int .i64 cb, .int .i64 ch] 32)).heap[w2.heap.size]? = some (.cells #[.int .i64 ca, .int .i64 cb, .int .i64 ch] 32 (0, 0)) := heap_alloc_new _ _
            have hw2 : wr.heap.size < w2.heap.size := by have := hb2.size; simp at this; omega
            have hlow : ∀ j, u5.ownBlock = some j → w.heap.size < j ∧ j < wr.heap.size := fun j hj => ⟨hnw j hj, hrow.lt hj⟩
            have hal2 : (w2.alloc (.cells #[.int .i64 ca, .int .i64 cb, .int .i64 ch] 32)).heap.size = w2.heap.size + 1 := World.size_alloc _ _
            have hkeep2 : ∀ j, j < w2.heap.size → (w2.alloc (.cells #[.int .i64 ca, .int .i64 cb, .int .i64 ch] 32)).heap[j]? = w2.heap[j]? := fun j hj => ((Below.refl w2.heap.size w2).alloc (Nat.le_refl _) _).block j hj
            clear e0 e1 e2 a0 a1 a2 hb2 d0 d1 d2 hxc hah hcb
            go_wp2_with (first
              | (
                  refine wpList_push rfl _ _ 22 rfl 32 Try.underlying22 infoRef rfl _ _ rfl (hrow2.alloc _) (by omega) (w2.heap.size) ⟨ca, cb, ch⟩ 32 rfl hblk ?_
                  intro v3 w3 hrow3 hT3 hnew3
                  have hx3 : w3.heap[wr.heap.size]? = some (.cells #[.int .i64 xa, .int .i64 xb, .int .i64 xh] 32 (0, 0)) := (hT3.block _ (by rw [hal2]; omega) (fun h => by have := hlow _ h; omega)).trans ((hkeep2 _ hw2).trans hxb)
                  have hc3 : w3.heap[w.heap.size]? = some (.cells #[.int .i64 ca, .int .i64 cb, .int .i64 ch] 32 (0, 0)) := (hT3.block _ (by rw [hal2]; omega) (fun h => by have := hlow _ h; omega)).trans ((hkeep2 _ (by omega)).trans hcb2)
                  have x0 : w3.cell? ⟨wr.heap.size, 0, none⟩ = some (.int .i64 xa) := by rw [cell_of_row _ _ _ _ _ _ hx3]; rfl
                  have x1 : w3.cell? ⟨wr.heap.size, 1, none⟩ = some (.int .i64 xb) := by rw [cell_of_row _ _ _ _ _ _ hx3]; rfl
                  have x2 : w3.cell? ⟨wr.heap.size, 2, none⟩ = some (.int .i64 xh) := by rw [cell_of_row _ _ _ _ _ _ hx3]; rfl
                  have c0 : w3.cell? ⟨w.heap.size, 0, none⟩ = some (.int .i64 ca) := by rw [cell_of_row _ _ _ _ _ _ hc3]; rfl
                  have c1 : w3.cell? ⟨w.heap.size, 1, none⟩ = some (.int .i64 cb) := by rw [cell_of_row _ _ _ _ _ _ hc3]; rfl
                  have c2 : w3.cell? ⟨w.heap.size, 2, none⟩ = some (.int .i64 ch) := by rw [cell_of_row _ _ _ _ _ _ hc3]; rfl
                  have hB3 := keepB hB rfl hnw (hB2.alloc hB2.size _) hT3
                  have hn3 : ∀ j, v3.ownBlock = some j → w.heap.size + 1 ≤ j := fun j hj => (hnew3 j hj).elim (hnw j) (fun h => by rw [hal2] at h; omega)
                  have hblk3 : (w3.alloc (.cells #[.int .i64 xa, .int .i64 xb, .int .i64 xh] 32)).heap[w3.heap.size]? = some (.cells #[.int .i64 xa, .int .i64 xb, .int .i64 xh] 32 (0, 0)) := heap_alloc_new _ _
                  have hl3 : (acc ++ [(⟨ca, cb, ch⟩ : Cl)]).length < 1000000 := by simp; omega
                  clear hnew3 hT3 hx3 hc3 hblk hxb hcb2 y0 y1 y2 hkeep2)
              | (refine wpList_push rfl _ _ 22 rfl 32 Try.underlying22 infoRef rfl _ _ rfl (hrow3.alloc _) hl3 (w3.heap.size) ⟨xa, xb, xh⟩ 32 rfl hblk3 ?_; intro v4 w4 hrow4 hT4 hnew4))
            go_roundg (l.length - (k + 1))
            case measure => omega
            case rel =>
              refine ⟨k + 1, true, _, rfl, by omega, by go_num, rfl, Hstep.out, hrow4, fun j hj => ?_, keepB hB3 rfl hn3 ((Below.refl _ _).alloc (Nat.le_refl _) _) hT4⟩
              rcases hnew4 j hj with h | h
              · exact hn3 j h
              · have h3 := hB3.size; simp at h h3; omega
        · rw [hlt2] at hah hstep
          have hxn : ¬ x = ⟨ca, cb, ch⟩ := Cl.lt_ne hlt2
          rw [decide_eq_false hxn] at hxne
          simp only [Bool.not_false, Bool.not_true, Bool.and_false, Bool.false_eq_true, if_false, if_neg hxn, List.nil_append, Bool.or_false, ← List.append_assoc] at hstep
          have Hstep := Lib.hid hstep
          clear hstep hdk hr hlt2 hxn
          obtain ⟨xa, xb, xh⟩ := x
          dsimp only at *
          go_wp2_with fail
          refine (hah _).mono ?_
          rintro e w2 ⟨rfl, hb2⟩
          have hxb := hxc w2 hb2
          have x0 : w2.cell? ⟨wr.heap.size, 0, none⟩ = some (.int .i64 xa) := by rw [cell_of_row _ _ _ _ _ _ hxb]; rfl
          have x1 : w2.cell? ⟨wr.heap.size, 1, none⟩ = some (.int .i64 xb) := by rw [cell_of_row _ _ _ _ _ _ hxb]; rfl
          have x2 : w2.cell? ⟨wr.heap.size, 2, none⟩ = some (.int .i64 xh) := by rw [cell_of_row _ _ _ _ _ _ hxb]; rfl
          have hB2 : Below wr.heap.size wr w2 := hBx.trans (hb2.mono (by simp))
          have y0 := d0 w2 hB2
          have y1 := d1 w2 hB2
          have y2 := d2 w2 hB2
          have hrow2 : RefRow w2 u5 acc := hrow.move (S := Only) (.of_new hB2) fun _ _ h => h
          have hblk : (w2.alloc (.cells #[.int .i64 xa, .int .i64 xb, .int .i64 xh] 32)).heap[w2.heap.size]? = some (.cells #[.int .i64 xa, .int .i64 xb, .int .i64 xh] 32 (0, 0)) := heap_alloc_new _ _
          clear e0 e1 e2 a0 a1 a2 hxb hb2 d0 d1 d2 hxc hah
          go_wp2_with (refine wpList_push rfl _ _ 22 rfl 32 Try.underlying22 infoRef rfl _ _ rfl (hrow2.alloc _) (by omega) (w2.heap.size) ⟨xa, xb, xh⟩ 32 rfl hblk ?_; intro v3 w3 hrow3 hT3 hnew3)
          go_roundg (l.length - (k + 1))
          case measure => omega
          case rel =>
            refine ⟨k + 1, false, _, rfl, by omega, by go_num, rfl, Hstep.out, hrow3, fun j hj => ?_, keepB hB rfl hnw (hB2.alloc hB2.size _) hT3⟩
            rcases hnew3 j hj with h | h
            · exact hnw j h
            · have := hB2.size; simp at h; omega
      · simp only [Bool.not_true, Bool.false_and, Bool.false_eq_true, if_false, List.nil_append, Bool.true_or] at hstep
        by_cases hx : x = ⟨ca, cb, ch⟩
        · rw [if_pos hx, List.nil_append] at hstep
          rw [decide_eq_true hx] at hxne
          have Hstep := Lib.hid hstep
          clear hstep hdk hr hx hah
          obtain ⟨xa, xb, xh⟩ := x
          dsimp only at *
          clear d0 d1 d2 hxc
          go_wp2
          go_roundg (l.length - (k + 1))
          case measure => omega
          case rel => exact ⟨k + 1, true, acc, rfl, by omega, by go_num, rfl, Hstep.out, hrow.alloc _, hnw, hB.alloc (by omega) _⟩
        · rw [if_neg hx, ← List.append_assoc] at hstep
          rw [decide_eq_false hx] at hxne
          have Hstep := Lib.hid hstep
          clear hstep hdk hr hx hah
          obtain ⟨xa, xb, xh⟩ := x
          dsimp only at *
          have hblk : ((wr.alloc (.cells #[.int .i64 xa, .int .i64 xb, .int .i64 xh] 32)).alloc (.cells #[.int .i64 xa, .int .i64 xb, .int .i64 xh] 32)).heap[wr.heap.size + 1]? = some (.cells #[.int .i64 xa, .int .i64 xb, .int .i64 xh] 32 (0, 0)) := by
            rw [← World.size_alloc wr (.cells #[.int .i64 xa, .int .i64 xb, .int .i64 xh] 32)]; exact heap_alloc_new _ _
          clear d0 d1 d2 hxc
          go_wp2_with (refine wpList_push rfl _ _ 22 rfl 32 Try.underlying22 infoRef rfl _ _ rfl ((hrow.alloc _).alloc _) (by omega) (wr.heap.size + 1) ⟨xa, xb, xh⟩ 32 rfl hblk ?_; intro v3 w3 hrow3 hT3 hnew3)
          go_roundg (l.length - (k + 1))
          case measure => omega
          case rel =>
            refine ⟨k + 1, true, _, rfl, by omega, by go_num, rfl, Hstep.out, hrow3, fun j hj => ?_, keepB hB rfl hnw (hBx.alloc hBx.size _) hT3⟩
            rcases hnew3 j hj with h | h
            · exact hnw j h
            · simp at h; omega

end Go.Proofs.Ytehmbhdapgkbcaa
