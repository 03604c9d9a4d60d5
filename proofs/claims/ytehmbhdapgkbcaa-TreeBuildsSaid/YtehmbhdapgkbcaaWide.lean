/- Wide: the walk. -/
import Derived.Test.YtehmbhdapgkbcaaRefAre
namespace Go.Proofs.Ytehmbhdapgkbcaa
open Go.RowKit

theorem addBlock (a : Addr) (n : Nat) : (a.add n).block = a.block := by unfold Addr.add; split <;> rfl
theorem addAt (a : Addr) (m n : Nat) (hn : n ≠ 0) : a.add (m + n) = ⟨(a.add m).block, (a.add m).off + n, none⟩ := by
  unfold Addr.add
  by_cases h : m = 0
  · subst h; simp [hn]
  · simp [h, hn, Nat.add_assoc]

/-- A slice of cells that came in: each cell where it lies. -/
structure CellsAt (w : World) (v : Value) (l : List Cl) : Prop where
  form : (v = .slice none 0 0 ∧ l = []) ∨ ∃ (a : Addr) (cap : Nat), v = .slice (some a) l.length cap ∧ (0 < l.length → a.block < w.heap.size) ∧ l.length ≤ cap ∧ cap ≤ maxLen ∧
    ∀ i (h : i < l.length), w.cell? (a.add (i * 3)) = some (.int .i64 l[i].a) ∧ w.cell? (a.add (i * 3 + 1)) = some (.int .i64 l[i].b) ∧ w.cell? (a.add (i * 3 + 2)) = some (.int .i64 l[i].h)
  fit : ∀ c ∈ l, I64 c.a ∧ I64 c.b ∧ I64 c.h
theorem CellsAt.move {w w' : World} {v : Value} {l : List Cl} (h : CellsAt w v l) (hb : Below w.heap.size w w') : CellsAt w' v l := by
  refine ⟨?_, h.fit⟩
  rcases h.form with h1 | ⟨a, cap, h1, h2, h3, h4, h5⟩
  · exact .inl h1
  · refine .inr ⟨a, cap, h1, fun hp => Nat.lt_of_lt_of_le (h2 hp) hb.size, h3, h4, fun i hi => ?_⟩
    obtain ⟨x, y, z⟩ := h5 i hi
    exact ⟨(hb.cell (p := a.add (i * 3)) (by rw [addBlock]; exact h2 (by omega))).trans x, (hb.cell (p := a.add (i * 3 + 1)) (by rw [addBlock]; exact h2 (by omega))).trans y, (hb.cell (p := a.add (i * 3 + 2)) (by rw [addBlock]; exact h2 (by omega))).trans z⟩
theorem CellsAt.slice {w : World} {v : Value} {l : List Cl} (h : CellsAt w v l) : ∃ va cap, v = .slice va l.length cap ∧ l.length ≤ maxLen := by
  rcases h.form with ⟨rfl, rfl⟩ | ⟨a, cap, h1, h2, h3, h4, h5⟩
  · exact ⟨none, 0, rfl, Nat.zero_le _⟩
  · exact ⟨some a, cap, h1, by omega⟩

theorem and1_small (x : Int) : 0 ≤ bits .and .i64 x 1 ∧ bits .and .i64 x 1 ≤ 1 := by
  have e : bits .and .i64 x 1 = IntKind.i64.wrap ((BitVec.ofInt 64 x &&& BitVec.ofInt 64 1).toNat : Int) := rfl
  rw [e, BitVec.toNat_and, show (BitVec.ofInt 64 1).toNat = 2 ^ 1 - 1 from rfl, Nat.and_two_pow_sub_one_eq_mod, IntWalk.i64_in]
  · omega
  · omega

/-- A cell, wide. -/
def wideCl (c : Cl) : Cl := ⟨c.a.tmod 2199023255552, c.b.tmod 2199023255552, bits .and .i64 c.h 1⟩
def wideL (l : List Cl) : List Cl := ofL ((l.take 30).map wideCl)
theorem tmod_small (x : Int) : -2199023255552 < x.tmod 2199023255552 ∧ x.tmod 2199023255552 < 2199023255552 := by
  have h1 := Int.tmod_lt_of_pos x (show (0 : Int) < 2199023255552 by decide)
  have h2 := Int.tmod_lt_of_pos (-x) (show (0 : Int) < 2199023255552 by decide)
  rw [Int.neg_tmod] at h2
  omega
theorem wideL_le (l : List Cl) : (wideL l).length ≤ 30 := by
  unfold wideL
  have := ofL_le ((l.take 30).map wideCl)
  have h2 := List.length_take_le 30 l
  rw [List.length_map] at this
  omega
theorem wideL_mem {l : List Cl} {d : Cl} (h : d ∈ wideL l) : -2199023255552 < d.a ∧ d.a < 2199023255552 ∧ -2199023255552 < d.b ∧ d.b < 2199023255552 ∧ 0 ≤ d.h ∧ d.h ≤ 1 := by
  unfold wideL at h
  rw [mem_ofL, List.mem_map] at h
  obtain ⟨c, _, rfl⟩ := h
  exact ⟨(tmod_small c.a).1, (tmod_small c.a).2, (tmod_small c.b).1, (tmod_small c.b).2, and1_small c.h⟩
theorem wideL_rise (l : List Cl) : Rise (wideL l) := rise_ofL _

set_option maxHeartbeats 4000000 in
set_option maxRecDepth 100000 in
theorem wide_any {l : List Cl} {v : Value} {w : World} (h : CellsAt w v l) :
    Calls Try.prog 9 #[v] w (RowPost (wideL l) w) := by
  obtain ⟨va, vcap, rfl, hmax⟩ := h.slice
  have hform : 0 < l.length → ∃ a : Addr, va = some a ∧ a.block < w.heap.size ∧ ∀ i (h : i < l.length), w.cell? (a.add (i * 3)) = some (.int .i64 l[i].a) ∧ w.cell? ⟨(a.add (i * 3)).block, (a.add (i * 3)).off + 1, none⟩ = some (.int .i64 l[i].b) ∧ w.cell? ⟨(a.add (i * 3)).block, (a.add (i * 3)).off + 2, none⟩ = some (.int .i64 l[i].h) := fun hp => by
    rcases h.form with ⟨_, rfl⟩ | ⟨a, cap, h1, h2, h3, h4, h5⟩
    · simp at hp
    · cases h1
      exact ⟨a, rfl, h2 hp, fun i hi => by rw [← addAt a _ 1 (by decide), ← addAt a _ 2 (by decide)]; exact h5 i hi⟩
  have Hform := Lib.hid hform
  have Hfit := Lib.hid h.fit
  clear h hform
  unfold maxLen at hmax
  have hmade := made_row w
  have hBs : Below w.heap.size w (w.alloc (.cells #[] 32)) := (Below.refl _ _).alloc (Nat.le_refl _) _
  go_enter Try.func9, Try.ntmps9
  go_wp2_with fail
  go_loopg [3, 4] l.length (fun m s3 s4 wr => ∃ k : Nat, m = l.length - k ∧ k ≤ l.length ∧ k ≤ 30 ∧ s4 = .int .i64 k ∧ RefRow wr s3 ((l.take k).map wideCl) ∧ (∀ j, s3.ownBlock = some j → w.heap.size ≤ j) ∧ Below w.heap.size w wr)
  case atStart => exact ⟨0, by omega, by omega, by omega, rfl, hmade, (fun j hj => by cases hj; exact Nat.le_refl _), hBs⟩
  case round =>
    clear hmade hBs
    obtain ⟨k, hm, hk, hk30, rfl, hrow, hnw, hB⟩ := hrel
    have hz := hB.size
    by_cases hkn : k = l.length
    · have hge : ¬ ((k : Int) < (l.length : Int)) := by omega
      have hmap : ((l.take k).map wideCl) = ((l.take 30).map wideCl) := by
        rw [hkn, List.take_length, List.take_of_length_le (by omega)]
      rw [hmap] at hrow
      have hlen : ((l.take 30).map wideCl).length < 100000 := by
        have h2 := List.length_take_le 30 l
        rw [List.length_map]; omega
      have hof := of_ref hrow hlen
      have Hlen := Lib.hid hlen
      clear hmap hlen hm hkn
      go_wp2_with fail
      refine hof.mono ?_
      rintro e w2 ⟨v2, rfl, hrow2, hB2, hnew2⟩
      clear hof
      go_wp2
      go_ret
      exact ⟨_, rfl, hrow2, hB.trans (hB2.mono hz), fun j hj => Nat.le_trans hz (hnew2 j hj)⟩
    · have hlt : (k : Int) < (l.length : Int) := by omega
      by_cases hk3 : k = 30
      · have hge : ¬ ((k : Int) < 30) := by omega
        have hmap : ((l.take k).map wideCl) = ((l.take 30).map wideCl) := by
          rw [hk3]
        rw [hmap] at hrow
        have hlen : ((l.take 30).map wideCl).length < 100000 := by
          have h2 := List.length_take_le 30 l
          rw [List.length_map]; omega
        have hof := of_ref hrow hlen
        have Hlen := Lib.hid hlen
        clear hmap hlen hm hk3
        go_wp2_with fail
        refine hof.mono ?_
        rintro e w2 ⟨v2, rfl, hrow2, hB2, hnew2⟩
        clear hof
        go_wp2
        go_ret
        exact ⟨_, rfl, hrow2, hB.trans (hB2.mono hz), fun j hj => Nat.le_trans hz (hnew2 j hj)⟩
      · have hlt2 : (k : Int) < 30 := by omega
        obtain ⟨a, rfl, hg, hcell⟩ := Hform.out (by omega)
        obtain ⟨a0, a1, a2⟩ := hcell k (by omega)
        have hfit := Hfit.out l[k] (List.getElem_mem _)
        have htk : l.take (k + 1) = l.take k ++ [l[k]] := List.take_succ_eq_append_getElem (by omega)
        generalize l[k] = x at a0 a1 a2 htk hfit
        have Htk := Lib.hid htk
        clear htk hcell
        replace a0 := (hB.cell (p := a.add (k * 3)) (by rw [addBlock]; exact hg)).trans a0
        replace a1 := (hB.cell (p := ⟨(a.add (k * 3)).block, (a.add (k * 3)).off + 1, none⟩) (by show (a.add (k * 3)).block < _; rw [addBlock]; exact hg)).trans a1
        replace a2 := (hB.cell (p := ⟨(a.add (k * 3)).block, (a.add (k * 3)).off + 2, none⟩) (by show (a.add (k * 3)).block < _; rw [addBlock]; exact hg)).trans a2
        obtain ⟨xa, xb, xh⟩ := x
        dsimp only at a0 a1 a2 hfit
        unfold I64 at hfit
        have hblk : ((wr.alloc (.cells #[.int .i64 xa, .int .i64 xb, .int .i64 xh] 32)).alloc (.cells #[.int .i64 (xa.tmod 2199023255552), .int .i64 (xb.tmod 2199023255552), .int .i64 (bits .and .i64 xh 1)] 32)).heap[wr.heap.size + 1]? = some (.cells #[.int .i64 (xa.tmod 2199023255552), .int .i64 (xb.tmod 2199023255552), .int .i64 (bits .and .i64 xh 1)] 32 (0, 0)) := by
          rw [← World.size_alloc wr (.cells #[.int .i64 xa, .int .i64 xb, .int .i64 xh] 32)]; exact heap_alloc_new _ _
        have hll : ((l.take k).map wideCl).length < 1000000 := by
          have h2 := List.length_take_le k l
          rw [List.length_map]; omega
        go_wp2_with (refine wpList_push rfl _ _ 22 rfl 32 Try.underlying22 infoRef rfl _ _ rfl ((hrow.alloc _).alloc _) hll (wr.heap.size + 1) ⟨xa.tmod 2199023255552, xb.tmod 2199023255552, bits .and .i64 xh 1⟩ 32 rfl hblk ?_; intro v3 w3 hrow3 hT3 hnew3)
        go_roundg (l.length - (k + 1))
        case measure => omega
        case rel =>
          have hB4 := (hB.alloc hB.size (.cells #[.int .i64 xa, .int .i64 xb, .int .i64 xh] 32)).alloc (by simp; omega) (.cells #[.int .i64 (xa.tmod 2199023255552), .int .i64 (xb.tmod 2199023255552), .int .i64 (bits .and .i64 xh 1)] 32)
          refine ⟨k + 1, rfl, by omega, by omega, by go_num, by rw [Htk.out, List.map_append]; exact hrow3, fun j hj => ?_, ?_⟩
          · rcases hnew3 j hj with h | h
            · exact hnw j h
            · simp at h; omega
          · exact ⟨hT3.os.trans hB4.os, hT3.tape.trans hB4.tape, hT3.output.trans hB4.output, Nat.le_trans hB4.size hT3.size, fun j hj => (hT3.block j (Nat.lt_of_lt_of_le hj hB4.size) (fun h => by have := hnw j h; omega)).trans (hB4.block j hj)⟩

end Go.Proofs.Ytehmbhdapgkbcaa
