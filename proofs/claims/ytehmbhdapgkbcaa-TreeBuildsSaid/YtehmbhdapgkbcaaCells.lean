/- Cells: all that live. -/
import Derived.Test.YtehmbhdapgkbcaaVisit
namespace Go.Proofs.Ytehmbhdapgkbcaa
open Go.RowKit

/-- A refusal of Cells: no slice, the error. -/
def RefusedS (code : Nat) (w : World) (e : Ending) (w' : World) : Prop := e = .returned (.tuple #[.slice none 0 0, errV (some code)]) ∧ Below w.heap.size w w'

theorem cells_small {w : World} {p : Nat} {F : Foot} {A : Ar} (h : ArS w p F A) {i : Nat} (hi : i < 4294967296) (hl : A.lv i < 3) (most : Int) :
    Calls Try.prog 17 #[.pointer (some ⟨p, 0, none⟩), .int .u32 i, .int .i64 most] w (RefusedS 4 w) := by
  have hlvl := h.toArM.level (i := i) hi
  have hsm := lvl_small hl
  clear hl
  generalize A.lvl i = l at *
  go_enter Try.func17, Try.ntmps17
  go_wp2_with fail
  refine hlvl.mono ?_
  rintro e w1 ⟨rfl, rfl⟩
  go_wp2
  go_ret2
  exact ⟨rfl, Below.refl _ _⟩

theorem cells_big {w : World} {p : Nat} {F : Foot} {A : Ar} (h : ArS w p F A) (ok : A.Ok) {i : Nat} (hi : i < 4294967296) (hl : 3 ≤ A.lv i) {most : Int} (hm : most < 0 ∨ most < (ndAt A.nodes i).cnt) (hm2 : most ≤ 9223372036854775807) :
    Calls Try.prog 17 #[.pointer (some ⟨p, 0, none⟩), .int .u32 i, .int .i64 most] w (RefusedS 3 w) := by
  have hlt := lvl_lt hl
  have hlvl := h.toArM.level (i := i) hi
  rw [Ar.lvl_in hlt] at hlvl
  have hcount := h.toArM.count (i := i) hi
  unfold Ar.lv at hl
  generalize (ndAt A.nodes i).lv = L at *
  generalize (ndAt A.nodes i).cnt = cn at *
  have hL3 : ¬ (L : Int) < 3 := by omega
  clear h ok
  by_cases h0 : most < 0
  · clear hm
    go_enter Try.func17, Try.ntmps17
    go_wp2_with fail
    refine hlvl.mono ?_
    rintro e w1 ⟨rfl, rfl⟩
    go_wp2
    go_ret2
    exact ⟨rfl, Below.refl _ _⟩
  · have h1 : most < (cn : Int) := hm.resolve_left h0
    have hw : IntKind.u64.wrap most = most := IntWalk.u64_in _ (by omega)
    clear hm
    go_enter Try.func17, Try.ntmps17
    go_wp2_with fail
    refine hlvl.mono ?_
    rintro e w1 ⟨rfl, rfl⟩
    go_wp2_with fail
    refine hcount.mono ?_
    rintro e w1 ⟨rfl, rfl⟩
    go_wp2
    go_ret2
    exact ⟨rfl, Below.refl _ _⟩

/-- What Cells hands back. -/
def CellsR (l : List Cl) (w : World) (e : Ending) (w' : World) : Prop :=
  ∃ v l', e = .returned (.tuple #[v, errV none]) ∧ CellRow w' v l' ∧ Rise l' ∧ (∀ c, c ∈ l' ↔ c ∈ l) ∧ l'.length = l.length ∧ Below w.heap.size w w' ∧ ∀ k, v.ownBlock = some k → w.heap.size ≤ k

set_option maxHeartbeats 4000000 in
set_option maxRecDepth 100000 in
theorem cells_good {w : World} {p : Nat} {F : Foot} {A : Ar} (h : ArS w p F A) (ok : A.Ok) {i : Nat} (hn : A.nodes.length < 4294967296) (hl : 3 ≤ A.lv i) (hlen : (A.cells i).length < 1000000) {most : Int} (hm : ((A.cells i).length : Int) ≤ most) (hm2 : most ≤ 9223372036854775807) :
    Calls Try.prog 17 #[.pointer (some ⟨p, 0, none⟩), .int .u32 i, .int .i64 most] w (CellsR (A.cells i) w) := by
  have hlt := lvl_lt hl
  have h44 := (ok.wf.lv hlt).2
  have hlvl := h.toArM.level (i := i) (by omega)
  rw [Ar.lvl_in hlt] at hlvl
  have hcount := h.toArM.count (i := i) (by omega)
  have hfl : A.lv i - 2 + 2 = A.lv i := by omega
  have hcnt := cl_cnt ok.wf (A.lv i - 2) i (-half (A.lv i)) (-half (A.lv i)) hlt hfl.symm
  have hnd := cl_nodup ok.wf (A.lv i - 2) i (-half (A.lv i)) (-half (A.lv i)) hlt hfl.symm
  have hhb := half_bounds (L := A.lv i) (by unfold Ar.lv; omega)
  have hp2 : (2 : Int) ^ (A.lv i - 2 + 2) = 2 * half (A.lv i) := by rw [hfl]; exact half_two (by omega)
  have horg := origin_any (A.lv i) (by omega) h44
  have hvis : ∀ W bw, ArS W p F A → bw < W.heap.size → (∀ k, F.at p k → k ≠ bw) → W.heap[bw]? = some (.cells #[.slice none 0 0] 45 (0, 0)) →
      Calls Try.prog 42 #[.pointer (some ⟨p, 0, none⟩), .int .u32 i, .int .i64 (A.lv i), ptV (-half (A.lv i)) (-half (A.lv i)), cloV bw] W (VisitPost bw (.slice none 0 0) [] (A.cells i) W) := fun W bw hW hb hF hblk =>
    visit_any (A.lv i - 2) (by unfold Ar.lv; omega) W (.slice none 0 0) [] i _ _ ⟨hW, ok, (fun k hk h => by
        rcases fo_at.1 h with h | h
        · exact hF k hk h
        · cases h), ⟨hblk, World.ownsRow_nil _ _ _ _, fun e => by cases e⟩, hlt, hfl.symm, by omega, by rw [hp2]; omega, by omega, by rw [hp2]; omega, by simpa [Ar.cells] using hlen, hn⟩ (A.lv i) hfl.symm
  have hcl : A.cells i = cl A.nodes (A.lv i - 2) i (-half (A.lv i)) (-half (A.lv i)) := rfl
  rw [← hcl] at hcnt hnd
  clear hcl hp2 hfl
  generalize A.cells i = cls at *
  unfold Ar.lv at *
  generalize (ndAt A.nodes i).lv = L at *
  generalize half L = H at *
  have hcm : ¬ most < ((ndAt A.nodes i).cnt : Int) := by rw [hcnt]; unfold MC; omega
  clear hcnt
  generalize (ndAt A.nodes i).cnt = cn at *
  have hL3 : ¬ (L : Int) < 3 := by omega
  have hm0 : ¬ most < 0 := by omega
  have hw : IntKind.u64.wrap most = most := IntWalk.u64_in _ (by omega)
  go_enter Try.func17, Try.ntmps17
  go_wp2_with fail
  refine hlvl.mono ?_
  rintro e w1 ⟨rfl, rfl⟩
  go_wp2_with fail
  refine hcount.mono ?_
  rintro e w1 ⟨rfl, rfl⟩
  clear hcount hlvl
  go_wp2_with fail
  have hb1 : (w.alloc (.cells #[.slice none 0 0] 45)).heap[w.heap.size]? = some (.cells #[.slice none 0 0] 45 (0, 0)) := heap_alloc_new _ _
  have hB1 : Below w.heap.size w (w.alloc (.cells #[.slice none 0 0] 45)) := (Below.refl _ _).alloc (Nat.le_refl _) _
  have hS1 := h.alloc (.cells #[.slice none 0 0] 45)
  generalize w.alloc (.cells #[.slice none 0 0] 45) = W1 at *
  refine (horg _).mono ?_
  rintro e w2 ⟨rfl, hb2⟩
  have hlt1 := lt_of_block hb1
  have hblk2 := (hb2.block _ hlt1).trans hb1
  have hB2 := hB1.trans (hb2.mono hB1.size)
  go_wp2_with fail
  refine (hvis w2 w.heap.size (hS1.new hb2) (by have := hb2.size; omega) (fun k hk e => by have := h.toArM.foot_lt hk; omega) hblk2).mono ?_
  rintro e w3 ⟨rfl, v3, hacc3, hst3⟩
  rw [List.nil_append] at hacc3
  have hB3 : Below w.heap.size w w3 := by
    have ht : Touch (fun k => k = w.heap.size) w2 w3 := hst3.touch.mono fun k _ hk => by
      rcases fo_at.1 hk with hk | hk
      · exact hk
      · cases hk
    have := (Touch.of_new (S := Only) hB2).trans (S'' := fun k => k = w.heap.size) ht (fun _ _ h => h.elim) (fun _ _ h => h)
    exact this.below fun k hk h => by omega
  have c3 : w3.cell? ⟨w.heap.size, 0, none⟩ = some v3 := by rw [cell_of_row _ _ _ _ _ _ hacc3.blk]; rfl
  have hof := of_any hacc3.row (by omega) hnd
  clear hvis horg hb1 hB1 hS1 hb2 hblk2
  go_wp2_with fail
  refine hof.mono ?_
  rintro e w4 ⟨v4, l4, rfl, hrow, hrise, hmem, hlen4, hb4, hnew⟩
  go_wp2
  go_ret2
  exact ⟨v4, l4, rfl, hrow, hrise, hmem, hlen4, hB3.trans (hb4.mono hB3.size), fun k hk => Nat.le_trans hB3.size (hnew k hk)⟩

end Go.Proofs.Ytehmbhdapgkbcaa
