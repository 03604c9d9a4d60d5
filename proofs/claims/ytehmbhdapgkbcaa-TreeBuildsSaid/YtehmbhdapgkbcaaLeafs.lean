/- The cells of a leaf: Leaf.Cells. -/
import Derived.Test.YtehmbhdapgkbcaaSiteW
namespace Go.Proofs.Ytehmbhdapgkbcaa
open Go.RowKit

def Cl.cells (c : Cl) : List Value := [.int .i64 c.a, .int .i64 c.b, .int .i64 c.h]
theorem Cl.cells_length (c : Cl) : c.cells.length = 3 := rfl
/-- A slice of cells that owns its row. -/
abbrev CellRow (w : World) (v : Value) (l : List Cl) : Prop := Own w 40 3 v l.length (l.flatMap Cl.cells)
/-- What comes back: a slice of just these cells, in new memory. -/
def CellsPost (l : List Cl) (w : World) (e : Ending) (w' : World) : Prop :=
  ∃ v, e = .returned v ∧ CellRow w' v l ∧ Below w.heap.size w w' ∧ ∀ k, v.ownBlock = some k → w.heap.size ≤ k

theorem infoCell : (Try.prog.info? 40).map (fun i => (i.zero, i.size, i.bytes)) = some (some (.agg #[.int .i64 0, .int .i64 0, .int .i64 0]), 3, 24) := by kernel_rfl

/-- The cells of the first k bits. -/
def upto (f k : Nat) (a b : Int) : List Cl := ((List.range k).filter (fun i => f.testBit i)).map (bitCl a b)
theorem upto_zero (f : Nat) (a b : Int) : upto f 0 a b = [] := rfl
theorem upto_more {f k : Nat} (a b : Int) (h : f.testBit k = true) : upto f (k + 1) a b = upto f k a b ++ [bitCl a b k] := by simp [upto, List.range_succ, h]
theorem upto_same {f k : Nat} (a b : Int) (h : f.testBit k = false) : upto f (k + 1) a b = upto f k a b := by simp [upto, List.range_succ, h]
theorem upto_all (f : Nat) (a b : Int) : upto f 32 a b = leafCl f a b := rfl
theorem upto_le (f k : Nat) (a b : Int) : (upto f k a b).length ≤ k := by
  have := List.length_filter_le (fun i => f.testBit i) (List.range k)
  simp only [List.length_range] at this
  simpa [upto] using this

/-- The loops' relation: k bits were read. -/
def LC (w : World) (f : Nat) (a b : Int) (wr : World) (k : Nat) (v : Value) : Prop :=
  CellRow wr v (upto f k a b) ∧ Below (w.heap.size + 1) (w.alloc (.cells #[.int .i64 a, .int .i64 b] 38)) wr ∧ ∀ j, v.ownBlock = some j → w.heap.size + 1 ≤ j

set_option maxHeartbeats 8000000 in
set_option maxRecDepth 100000 in
theorem cells_any (f : Nat) (hf : f < 4294967296) (a b : Int) (ha : -4611686018427387904 ≤ a ∧ a ≤ 4611686018427387904) (hb : -4611686018427387904 ≤ b ∧ b ≤ 4611686018427387904) (w : World) :
    Calls Try.prog 44 #[.int .u32 f, .agg #[.int .i64 a, .int .i64 b]] w (CellsPost (leafCl f a b) w) := by
  obtain ⟨i0, hi0, hz0, hz1, hz2⟩ := info_parts infoCell
  go_enter Try.func44, Try.ntmps44
  go_wp2_with fail
  go_loopg [5, 9] 4 (fun g s5 s9 wr => ∃ B : Nat, B ≤ 4 ∧ g = 4 - B ∧ s9 = .int .i64 B ∧ LC w f a b wr (8 * B) s5)
  case atStart => exact ⟨0, by omega, by omega, rfl, World.ownsRow_nil _ _ _ _, Below.refl _ _, fun j h => by cases h⟩
  case round =>
    obtain ⟨B, hB, hg, rfl, hLC⟩ := hrel
    by_cases hB4 : B = 4
    · subst hB4
      go_wp2
      go_ret
      obtain ⟨h1, h2, h3⟩ := hLC
      exact ⟨_, rfl, h1, ((Below.refl _ _).alloc (Nat.le_refl _) _).trans (h2.mono (by omega)), fun k hk => by have := h3 k hk; omega⟩
    have hB5 : (B : Int) < 4 := by omega
    go_wp2_with fail
    go_loopg [5, 12] 4 (fun g s5 s12 wr => ∃ A : Nat, A ≤ 4 ∧ g = 4 - A ∧ s12 = .int .i64 A ∧ LC w f a b wr (8 * B + 2 * A) s5)
    case atStart => exact ⟨0, by omega, by omega, rfl, hLC⟩
    case round =>
      clear hLC
      obtain ⟨A, hA, hg, rfl, hLC⟩ := hrel
      by_cases hA4 : A = 4
      · subst hA4
        go_wp2
        go_roundg (4 - (B + 1))
        case measure => omega
        case rel => exact ⟨B + 1, by omega, by omega, by go_num, by rw [show 8 * (B + 1) = 8 * B + 2 * 4 by omega]; exact hLC⟩
      have hA5 : (A : Int) < 4 := by omega
      go_wp2_with fail
      go_loopg [5, 15] 2 (fun g s5 s15 wr => ∃ h : Nat, h ≤ 2 ∧ g = 2 - h ∧ s15 = .int .i64 h ∧ LC w f a b wr (8 * B + 2 * A + h) s5)
      case atStart => exact ⟨0, by omega, by omega, rfl, hLC⟩
      case round =>
        clear hLC
        obtain ⟨h, hh, hg, rfl, hLC⟩ := hrel
        by_cases hh2 : h = 2
        · subst hh2
          go_wp2
          go_roundg (4 - (A + 1))
          case measure => omega
          case rel => exact ⟨A + 1, by omega, by omega, by go_num, by rw [show 8 * B + 2 * (A + 1) = 8 * B + 2 * A + 2 by omega]; exact hLC⟩
        have hh5 : (h : Int) < 2 := by omega
        have hst := state_any f A B hf (by omega) (by omega)
        have hx4 : f / 2 ^ (2 * (4 * B + A)) % 4 < 4 := Nat.mod_lt _ (by omega)
        have hT : f / 2 ^ (2 * (4 * B + A)) % 4 / 2 ^ h % 2 = (f.testBit (8 * B + 2 * A + h)).toNat := by
          rw [shiftbits, show 2 * (4 * B + A) = 8 * B + 2 * A by omega]
          have : h = 0 ∨ h = 1 := by omega
          rcases this with rfl | rfl
          · simp only [Nat.add_zero]; cases f.testBit (8 * B + 2 * A) <;> cases f.testBit (8 * B + 2 * A + 1) <;> simp
          · cases f.testBit (8 * B + 2 * A) <;> cases f.testBit (8 * B + 2 * A + 1) <;> simp
        generalize f / 2 ^ (2 * (4 * B + A)) % 4 = x at hst hx4 hT
        have hdv := div_pow_i64 x h (by omega)
        have hlt : x / 2 ^ h < 4 := Nat.lt_of_le_of_lt (Nat.div_le_self _ _) hx4
        have han := and1_i64 (x / 2 ^ h) (Nat.lt_trans hlt (by decide))
        rw [hT] at han
        have hcast : ((x / 2 ^ h : Nat) : Int) = (x : Int) / 2 ^ h := by rw [Int.natCast_ediv]; norm_cast
        rw [hcast] at han hdv
        clear hT hlt hcast
        cases hbit : f.testBit (8 * B + 2 * A + h)
        · rw [hbit] at han
          replace han : bits .and .i64 ((x : Int) / 2 ^ h) 1 = 0 := han
          have Hbit := Lib.hid hbit
          clear hbit
          go_wp2_with fail
          refine (hst _).mono ?_
          rintro e w1 ⟨rfl, rfl⟩
          go_wp2
          go_roundg (2 - (h + 1))
          case measure => omega
          case rel => exact ⟨h + 1, by omega, by omega, by go_num, by rw [← Nat.add_assoc]; unfold LC; rw [upto_same a b Hbit.out]; exact hLC⟩
        · rw [hbit] at han
          replace han : bits .and .i64 ((x : Int) / 2 ^ h) 1 = 1 := han
          have hcl : bitCl a b (8 * B + 2 * A + h) = ⟨a + A, b + B, h⟩ := by apply Cl.eq <;> simp only [bitCl] <;> omega
          have hmore := upto_more a b hbit
          rw [hcl] at hmore
          have Hmore := Lib.hid hmore
          have hle := upto_le f (8 * B + 2 * A + h) a b
          clear hbit hcl hmore
          obtain ⟨h1, h2, h3⟩ := hLC
          have hz := h2.size
          simp only [World.size_alloc] at hz
          have c0 : wr.cell? ⟨w.heap.size, 0, none⟩ = some (.int .i64 a) := (h2.cell (p := ⟨w.heap.size, 0, none⟩) (by simp)).trans (World.cell?_alloc_new _ _ _ _)
          have c1 : wr.cell? ⟨w.heap.size, 1, none⟩ = some (.int .i64 b) := (h2.cell (p := ⟨w.heap.size, 1, none⟩) (by simp)).trans (World.cell?_alloc_new _ _ _ _)
          obtain ⟨oa, ocap, rfl, hmx⟩ := h1.slice
          have wA : IntKind.i64.wrap (a + A) = a + A := IntWalk.i64_in _ (by omega)
          have wB : IntKind.i64.wrap (b + B) = b + B := IntWalk.i64_in _ (by omega)
          go_wp2_with fail
          refine (hst _).mono ?_
          rintro e w1 ⟨rfl, rfl⟩
          go_wp2_with (refine wpList_append_lies _ rfl _ _ 45 rfl 0 40 i0 _ 3 24 Try.underlying45 hi0 hz0 hz1 hz2 rfl (by omega) (.slice oa (upto f (8 * B + 2 * A + h) a b).length ocap) (upto f (8 * B + 2 * A + h) a b).length ((upto f (8 * B + 2 * A + h) a b).flatMap Cl.cells) rfl (h1.alloc _) ⟨wr.heap.size, 0, none⟩ 1 1 [.int .i64 (a + A), .int .i64 (b + B), .int .i64 h] rfl rfl (World.news_of_block (cs := #[.int .i64 (a + A), .int .i64 (b + B), .int .i64 h]) (t := 40) (fr := (0, 0)) (heap_alloc_new wr _)) (by simp [Value.oneCell']) (by omega) (by unfold maxLen; omega) (by omega) (Nat.zero_le _) (wr.heap.size + 1) (by simp) ?_; intro gg cap w3 hown3 hgrow hat hlt3)
          go_roundg (2 - (h + 1))
          case measure => omega
          case rel =>
            refine ⟨h + 1, by omega, by omega, by go_num, ?_, ?_, ?_⟩
            · rw [← Nat.add_assoc, Hmore.out]
              simpa [CellRow, Cl.cells] using hown3
            · exact (h2.alloc (by omega) _).grown hgrow (by simp; omega) (fun k hk => h3 k hk)
            · intro k hk
              have hk' : gg = k := Option.some.inj hk
              subst hk'
              rcases hat with hat | hat
              · exact h3 _ hat
              · omega

end Go.Proofs.Ytehmbhdapgkbcaa
