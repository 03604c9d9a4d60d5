/- A map from points to leaves. -/
import Derived.Test.YtehmbhdapgkbcaaCells
import Derived.Maps.RangeWalk
import Derived.Maps.OwnSet
import Derived.Maps.OwnOps
import Derived.Maps.Views
import Derived.DeepKeys4
namespace Go.Proofs.Ytehmbhdapgkbcaa
open Go.RowKit

theorem lawPt : Go.Maps.Keyed Try.prog 38 := .of_law (deep_law_laid (by kernel_rfl) (m := 2) (by omega) (of_decide_eq_true (by kernel_rfl)) (by kernel_rfl) (by kernel_rfl))

/-- What a point reads as. -/
def klp (a b : Int) : Lit := .string (keyBytes [.int .i64 a, .int .i64 b])

theorem ptFields : ∃ f0 f1, (Try.prog.fieldsOf 38).toList = [f0, f1] ∧ f0.name = "A" ∧ f0.type = 2 ∧ f0.offset = 0 ∧ f1.name = "B" ∧ f1.type = 2 ∧ f1.offset = 1 := by
  have hf : (Try.prog.fieldsOf 38).toList.map (fun f => (f.name, f.type, f.offset)) = [("A", 2, 0), ("B", 2, 1)] := by kernel_rfl
  generalize (Try.prog.fieldsOf 38).toList = fs at hf
  rcases fs with _ | ⟨f0, _ | ⟨f1, _ | ⟨f2, fs⟩⟩⟩ <;> simp only [List.map_cons, List.map_nil, List.cons.injEq, Prod.mk.injEq, and_true, List.cons_ne_nil, reduceCtorEq, and_false] at hf
  exact ⟨f0, f1, rfl, hf.1.1, hf.1.2.1, hf.1.2.2, hf.2.1, hf.2.2.1, hf.2.2.2⟩

theorem i64_wf {a : Int} : (Lit.int .i64 a).wf = true ↔ I64 a := by
  unfold Lit.wf I64
  simp [IntKind.min, IntKind.max, IntKind.bits, IntKind.signed]

theorem lits_pt (D : Nat) (u v : Value) : Try.prog.keyLits (D + 2) 38 [u, v] = (Try.prog.keyLits (D + 1) 2 [u]).bind fun l => (Try.prog.keyLits (D + 1) 2 [v]).map fun m => l ++ m := by
  have ht : Try.prog.underlying 38 = some (.struct (Try.prog.fieldsOf 38)) := by kernel_rfl
  have hc : Try.prog.cellsOf 38 = 2 := by kernel_rfl
  have hc2 : Try.prog.cellsOf 2 = 1 := by kernel_rfl
  obtain ⟨f0, f1, hl, n0, t0, o0, n1, t1, o1⟩ := ptFields
  have hall : (Try.prog.fieldsOf 38).all (fun f => f.name != "_") = true := by
    rw [← Array.all_toList, hl]
    simp [n0, n1]
  generalize hu : Try.prog.keyLits (D + 1) 2 [u] = lu
  generalize hv : Try.prog.keyLits (D + 1) 2 [v] = lv
  unfold Program.keyLits
  rw [ht]
  dsimp only
  simp only [hc, List.length_cons, List.length_nil, hall, and_self, if_true, hl]
  simp only [List.mapM_cons, List.mapM_nil, t0, o0, t1, o1, hc2, List.drop_zero, List.take_succ_cons, List.take_zero, List.drop_succ_cons, hu, hv]
  cases lu <;> cases lv <;> simp

theorem lits_int (D : Nat) (u : Value) (l : List Lit) : Try.prog.keyLits (D + 1) 2 [u] = some l ↔ ∃ a, u = .int .i64 a ∧ I64 a ∧ l = [.int .i64 a] := by
  unfold Program.keyLits
  rw [Try.underlying2]
  constructor
  · intro h
    cases u <;> simp at h
    obtain ⟨⟨rfl, hw⟩, rfl⟩ := h
    exact ⟨_, rfl, i64_wf.1 hw, rfl⟩
  · rintro ⟨a, rfl, ha, rfl⟩
    simp [i64_wf.2 ha]

theorem types_pos : ∃ D, Try.prog.types.size + 1 = D + 2 := by
  refine ⟨Try.prog.types.size - 1, ?_⟩
  have : 0 < Try.prog.types.size := of_decide_eq_true (by kernel_rfl)
  omega

theorem keyOf_pt {a b : Int} (ha : I64 a) (hb : I64 b) : keyOf Try.prog 38 (ptV a b) = some (klp a b) := by
  have ht : Try.prog.underlying 38 = some (.struct (Try.prog.fieldsOf 38)) := by kernel_rfl
  have hk : Try.prog.keyType 38 = true := by kernel_rfl
  have hc : Try.prog.cellsOf 38 = 2 := by kernel_rfl
  have hf : (ptV a b).formed Try.prog 38 = true := by simp [Value.formed, ht, hc]
  obtain ⟨D, hD⟩ := types_pos
  unfold keyOf
  rw [ht]
  simp only [hk, hf, Bool.and_self, if_true, hD]
  show ((Try.prog.keyLits (D + 2) 38 [.int .i64 a, .int .i64 b]).map fun ls => Lit.string (keyBytes ls)) = _
  rw [lits_pt, (lits_int D _ [.int .i64 a]).2 ⟨a, rfl, ha, rfl⟩, (lits_int D _ [.int .i64 b]).2 ⟨b, rfl, hb, rfl⟩]
  rfl

theorem keyOf_pt_inv {v : Value} {kl : Lit} (h : keyOf Try.prog 38 v = some kl) : ∃ a b : Int, v = ptV a b ∧ I64 a ∧ I64 b ∧ kl = klp a b := by
  have ht : Try.prog.underlying 38 = some (.struct (Try.prog.fieldsOf 38)) := by kernel_rfl
  have hc : Try.prog.cellsOf 38 = 2 := by kernel_rfl
  obtain ⟨D, hD⟩ := types_pos
  unfold keyOf at h
  rw [ht] at h
  dsimp only at h
  split at h
  · rename_i hcond
    simp only [Bool.and_eq_true] at hcond
    have hf := hcond.2
    cases v <;> simp [Value.formed, ht] at hf
    rename_i xs
    rw [hc] at hf
    obtain ⟨l⟩ := xs
    rcases l with _ | ⟨u, _ | ⟨z, _ | ⟨y, l⟩⟩⟩ <;> simp at hf
    rw [hD] at h
    have h' : ((Try.prog.keyLits (D + 2) 38 [u, z]).map fun ls => Lit.string (keyBytes ls)) = some kl := h
    rw [lits_pt] at h'
    cases h1 : Try.prog.keyLits (D + 1) 2 [u] with
    | none => rw [h1] at h'; cases h'
    | some l1 =>
      cases h2 : Try.prog.keyLits (D + 1) 2 [z] with
      | none => rw [h1, h2] at h'; cases h'
      | some l2 =>
        obtain ⟨a, rfl, ha, rfl⟩ := (lits_int D _ _).1 h1
        obtain ⟨b, rfl, hb, rfl⟩ := (lits_int D _ _).1 h2
        rw [h1, h2] at h'
        exact ⟨a, b, rfl, ha, hb, (Option.some.inj h').symm⟩
  · cases h

theorem klp_inj {a b a' b' : Int} (ha : I64 a) (hb : I64 b) (ha' : I64 a') (hb' : I64 b') (h : klp a b = klp a' b') : a = a' ∧ b = b' := by
  have := lawPt.inj (keyOf_pt ha hb) (by rw [h]; exact keyOf_pt ha' hb')
  simp at this
  exact this

/-- A map of at most n leaves, by their least points. -/
def PtMap (w : World) (b n : Nat) (g : Int → Int → Option Nat) : Prop :=
  ∃ D : DataW Unit, w.ownsMap Try.prog 38 (plainElem Try.prog 80) b n D ∧
    ∀ x y, I64 x → I64 y → (Maps.has D (klp x y) = (g x y).isSome) ∧ D.atKey (klp x y) (.lit (.int .u32 0)) = .lit (.int .u32 ((g x y).getD 0))

theorem PtMap.made (w : World) : PtMap (w.alloc (.map #[] 0)) w.heap.size 0 (fun _ _ => none) :=
  ⟨_, World.ownsMap_made _ _ _ _, fun x y _ _ => ⟨rfl, rfl⟩⟩
theorem PtMap.lt {w : World} {b n : Nat} {g : Int → Int → Option Nat} (h : PtMap w b n g) : b < w.heap.size := h.choose_spec.1.lt
theorem PtMap.move {w w' : World} {b n : Nat} {g : Int → Int → Option Nat} (h : PtMap w b n g) {S : Nat → Prop} (ht : Touch S w w') (hn : ¬ S b) : PtMap w' b n g := by
  obtain ⟨D, ⟨es, clock, hb, rest⟩, hg⟩ := h
  exact ⟨D, ⟨es, clock, (ht.block b (lt_of_block hb) hn).trans hb, rest⟩, hg⟩
theorem PtMap.new {w w' : World} {b n : Nat} {g : Int → Int → Option Nat} (h : PtMap w b n g) (hb : Below w.heap.size w w') : PtMap w' b n g := h.move (S := Only) (.of_new hb) fun h => h
theorem PtMap.mono {w : World} {b n m : Nat} {g : Int → Int → Option Nat} (h : PtMap w b n g) (hm : n ≤ m) : PtMap w b m g := by
  obtain ⟨D, h1, h2⟩ := h
  exact ⟨D, h1.mono hm, h2⟩

theorem zeroLeaf (w : World) : (zeroValue 80).run Try.prog w = .ok (.int .u32 0) w := by kernel_rfl

theorem PtMap.look {w : World} {b n : Nat} {g : Int → Int → Option Nat} (h : PtMap w b n g) {x y : Int} (hx : I64 x) (hy : I64 y) :
    (Instr.lookup 99 (.map (some b)) (ptV x y) false).run Try.prog w = .ok (.int .u32 ((g x y).getD 0 : Nat)) w := by
  obtain ⟨D, hown, hg⟩ := h
  obtain ⟨c, hrun, hat, _⟩ := hown.lookup_int lawPt Try.underlying99 Try.underlying80 (zeroLeaf _) (keyOf_pt hx hy)
  rw [hrun]
  have := (hg x y hx hy).2
  rw [hat] at this
  have hc : c = ((g x y).getD 0 : Nat) := by simpa using this
  rw [hc]

theorem PtMap.put {w : World} {b n : Nat} {g : Int → Int → Option Nat} (h : PtMap w b n g) (hn : n < 1000000) {x y : Int} (hx : I64 x) (hy : I64 y) {f : Nat} (hf : f < 4294967296) :
    ∃ w', (Instr.mapUpdate 99 (.map (some b)) (ptV x y) (.int .u32 f)).run Try.prog w = .ok () w' ∧ PtMap w' b (n + 1) (fun x' y' => if x' = x ∧ y' = y then some f else g x' y') ∧ w.grownBy w' (some b) := by
  obtain ⟨D, hown, hg⟩ := h
  have hwf : (Lit.int .u32 f).wf = true := by simp [Lit.wf, IntKind.min, IntKind.max, IntKind.bits, IntKind.signed]; omega
  obtain ⟨w', hrun, hown', hgrow⟩ := hown.update lawPt Try.underlying99 (by unfold maxLen; omega) (keyOf_pt hx hy) (plainElem_int Try.underlying80 hwf)
  refine ⟨w', hrun, ⟨_, hown', fun x' y' hx' hy' => ?_⟩, hgrow⟩
  dsimp only
  by_cases e : x' = x ∧ y' = y
  · obtain ⟨rfl, rfl⟩ := e
    rw [if_pos ⟨rfl, rfl⟩]
    exact ⟨Maps.has_put_same hown.isMap (lawPt.key (keyOf_pt hx hy)) _, Maps.atKey_put_same hown.isMap (lawPt.key (keyOf_pt hx hy)) _ _⟩
  · rw [if_neg e]
    have hne : klp x' y' ≠ klp x y := fun h => e (klp_inj hx' hy' hx hy h)
    rw [Maps.has_put_other hne, Maps.atKey_put_other hne]
    exact hg x' y' hx' hy'

theorem wp_mapUpdate {P : Program} {w w' : World} {o : Oper} {a : Act} {K : Act → World → Prop} {Q : Exit → Act → World → Prop} {t : TypeId} {m x v : Operand} {vm key val : Value} (hop : o.op = Op.mapUpdate t m x v)
    (hm : a.eval m = vm) (hx : a.eval x = key) (hv : a.eval v = val) (hrun : (Instr.mapUpdate t vm key val).run P w = .ok () w') (h : K (a.put o.dst undef) w') : o.wp P a w K Q := by
  unfold Oper.wp
  simp [execOp, hop, hm, hx, hv, hrun, Result.andThen]
  exact h

end Go.Proofs.Ytehmbhdapgkbcaa
