/- Maps keyed by node numbers (uint32), whatever they hold. -/
import Derived.Test.YtehmbhdapgkbcaaMap
namespace Go.Proofs.Ytehmbhdapgkbcaa
open Go.RowKit

theorem lawU : Go.Maps.Keyed Try.prog 27 := Go.Maps.int_keyed Try.underlying27

theorem u32_wf {k : Nat} (h : k < 4294967296) : (Lit.int .u32 k).wf = true := by
  simp [Lit.wf, IntKind.min, IntKind.max, IntKind.bits, IntKind.signed]; omega

theorem keyOf_u {k : Nat} (h : k < 4294967296) : keyOf Try.prog 27 (.int .u32 k) = some (.int .u32 k) := Go.Maps.keyOf_int_mk Try.underlying27 (u32_wf h)

/-- An element reads as itself. -/
def selfElem (v : Value) : Option (DataW Value × List MemPlace) := some (.held v, [])

/-- A map of at most n entries: at each number what it holds. -/
def UMap (w : World) (b n : Nat) (g : Nat → Option Value) : Prop :=
  ∃ D : DataW Value, w.ownsMap Try.prog 27 selfElem b n D ∧ ∀ k : Nat, k < 4294967296 → (Maps.has D (.int .u32 k) = (g k).isSome) ∧ ∀ z, D.atKey (.int .u32 k) (.held z) = .held ((g k).getD z)

theorem UMap.made (w : World) : UMap (w.alloc (.map #[] 0)) w.heap.size 0 (fun _ => none) := ⟨_, World.ownsMap_made _ _ _ _, fun k _ => ⟨rfl, fun _ => rfl⟩⟩
theorem UMap.lt {w : World} {b n : Nat} {g : Nat → Option Value} (h : UMap w b n g) : b < w.heap.size := h.choose_spec.1.lt
theorem UMap.move {w w' : World} {b n : Nat} {g : Nat → Option Value} (h : UMap w b n g) {S : Nat → Prop} (ht : Touch S w w') (hn : ¬ S b) : UMap w' b n g := by
  obtain ⟨D, ⟨es, clock, hb, rest⟩, hg⟩ := h
  exact ⟨D, ⟨es, clock, (ht.block b (lt_of_block hb) hn).trans hb, rest⟩, hg⟩
theorem UMap.new {w w' : World} {b n : Nat} {g : Nat → Option Value} (h : UMap w b n g) (hb : Below w.heap.size w w') : UMap w' b n g := h.move (S := Only) (.of_new hb) fun h => h
theorem UMap.mono {w : World} {b n m : Nat} {g : Nat → Option Value} (h : UMap w b n g) (hm : n ≤ m) : UMap w b m g := by
  obtain ⟨D, h1, h2⟩ := h
  exact ⟨D, h1.mono hm, h2⟩
theorem UMap.block {w : World} {b n : Nat} {g : Nat → Option Value} (h : UMap w b n g) : ∃ es clock, w.heap[b]? = some (.map es clock) := by
  obtain ⟨D, ⟨es, clock, hb, _⟩, _⟩ := h
  exact ⟨es, clock, hb⟩

theorem UMap.look_ok {w : World} {b n : Nat} {g : Nat → Option Value} (h : UMap w b n g) {t e : TypeId} (ht : Try.prog.underlying t = some (.map 27 e)) {z : Value} (hz : (zeroValue e).run Try.prog w = .ok z w) {k : Nat} (hk : k < 4294967296) :
    (Instr.lookup t (.map (some b)) (.int .u32 k) true).run Try.prog w = .ok (.tuple #[(g k).getD z, .bool (g k).isSome]) w := by
  obtain ⟨D, hown, hg⟩ := h
  obtain ⟨v, ps, hrun, hv⟩ := hown.look_ok lawU ht hz (R := selfElem) (zd := .held z) (zp := []) rfl (keyOf_u hk)
  obtain ⟨h1, h2⟩ := hg k hk
  rw [hrun, h1]
  rw [h2 z] at hv
  unfold selfElem at hv
  simp only [Option.some.injEq, Prod.mk.injEq, DataW.held.injEq] at hv
  rw [hv.1]

theorem UMap.look {w : World} {b n : Nat} {g : Nat → Option Value} (h : UMap w b n g) {t e : TypeId} (ht : Try.prog.underlying t = some (.map 27 e)) {z : Value} (hz : (zeroValue e).run Try.prog w = .ok z w) {k : Nat} (hk : k < 4294967296) :
    (Instr.lookup t (.map (some b)) (.int .u32 k) false).run Try.prog w = .ok ((g k).getD z) w := by
  obtain ⟨D, hown, hg⟩ := h
  obtain ⟨v, ps, hrun, hv⟩ := hown.lookup lawU ht hz (R := selfElem) (zd := .held z) (zp := []) rfl (keyOf_u hk)
  obtain ⟨h1, h2⟩ := hg k hk
  rw [hrun]
  rw [h2 z] at hv
  unfold selfElem at hv
  simp only [Option.some.injEq, Prod.mk.injEq, DataW.held.injEq] at hv
  rw [hv.1]

theorem UMap.put {w : World} {b n : Nat} {g : Nat → Option Value} (h : UMap w b n g) (hn : n < 100000000) {t e : TypeId} (ht : Try.prog.underlying t = some (.map 27 e)) {k : Nat} (hk : k < 4294967296) (v : Value) :
    ∃ w', (Instr.mapUpdate t (.map (some b)) (.int .u32 k) v).run Try.prog w = .ok () w' ∧ UMap w' b (n + 1) (fun j => if j = k then some v else g j) ∧ w.grownBy w' (some b) := by
  obtain ⟨D, hown, hg⟩ := h
  obtain ⟨w', hrun, hown', hgrow⟩ := hown.update lawU ht (by unfold maxLen; omega) (keyOf_u hk) (show selfElem v = some (.held v, []) from rfl)
  refine ⟨w', hrun, ⟨_, hown', fun j hj => ?_⟩, hgrow⟩
  dsimp only
  by_cases e : j = k
  · subst e
    rw [if_pos rfl]
    exact ⟨Maps.has_put_same hown.isMap (lawU.key (keyOf_u hj)) _, fun z => Maps.atKey_put_same hown.isMap (lawU.key (keyOf_u hj)) _ _⟩
  · rw [if_neg e]
    have hne : (Lit.int .u32 j) ≠ .int .u32 k := fun h => by simp at h; omega
    rw [Maps.has_put_other hne]
    exact ⟨(hg j hj).1, fun z => by rw [Maps.atKey_put_other hne]; exact (hg j hj).2 z⟩

end Go.Proofs.Ytehmbhdapgkbcaa
