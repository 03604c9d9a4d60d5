/- Cells compared: '==' of points and of cells; Point.Less, cell.Compare; the document's cells: Ahead; Own, Told. -/
import Derived.Test.YtehmbhdapgkbcaaRise
import Derived.Test.YtehmbhdapgkbcaaGetB
import Derived.Sort.Grow
namespace Go.Proofs.Ytehmbhdapgkbcaa
open Go.RowKit

theorem eqf2 {P : Program} {w : World} (t : TypeId) (d : Nat) (x y x' y' : Int) (ht : P.underlying t = some (.struct (P.fieldsOf t))) (hs : P.stoodInHeld t = false) (tx ty : TypeId) (kx ky : IntKind) (nx ny : String)
    (hx : P.underlying tx = some (.int kx)) (hy : P.underlying ty = some (.int ky)) (h1 : nx ≠ "_") (h2 : ny ≠ "_")
    (hf : (P.fieldsOf t).toList.map (fun f => (f.name, f.type, f.offset)) = [(nx, tx, 0), (ny, ty, 1)])
    (p0 : ∀ (u v : Value) w, (part tx #[u, v] 0).run P w = .ok u w) (p1 : ∀ (u v : Value) w, (part ty #[u, v] 1).run P w = .ok v w) :
    (Op.equalIn (d + 2) t (.agg #[.int kx x, .int ky y]) (.agg #[.int kx x', .int ky y'])).run P w = .ok (x == x' && y == y') w := by
  rw [run_equalIn_agg w (d + 1) t _ _ ht hs]
  generalize (P.fieldsOf t).toList = fs at hf
  have hi := fun (x y : Int) (w : World) => run_equalIn_int (P := P) w d tx kx kx x y hx
  have hj := fun (x y : Int) (w : World) => run_equalIn_int (P := P) w d ty ky ky x y hy
  rcases fs with _ | ⟨f0, _ | ⟨f1, _ | ⟨f2, fs⟩⟩⟩ <;> simp only [List.map_cons, List.map_nil, List.cons.injEq, Prod.mk.injEq, and_true, List.cons_ne_nil, reduceCtorEq, and_false] at hf
  obtain ⟨⟨n0, t0, o0⟩, ⟨n1, t1, o1⟩⟩ := hf
  simp only [Op.eqFields, n0, t0, o0, n1, t1, o1, ne_eq, h1, h2, not_false_iff, if_true, p0, Sem.run_bind, Result.andThen_ok, hi]
  generalize (x == x') = b
  cases b
  · simp
  simp only [Bool.not_true, Bool.false_eq_true, if_false, p1, Sem.run_bind, Result.andThen_ok, hj, Bool.true_and]
  generalize (y == y') = b
  cases b <;> simp

theorem eq_pt (d : Nat) (a b a' b' : Int) (w : World) : (Op.equalIn (d + 2) 38 (.agg #[.int .i64 a, .int .i64 b]) (.agg #[.int .i64 a', .int .i64 b'])).run Try.prog w = .ok (a == a' && b == b') w :=
  eqf2 38 d a b a' b' (by kernel_rfl) (by kernel_rfl) 2 2 .i64 .i64 "A" "B" Try.underlying2 Try.underlying2 (by decide) (by decide) (by kernel_rfl) (fun _ _ _ => by kernel_rfl) (fun _ _ _ => by kernel_rfl)
theorem eql_pt (a b a' b' : Int) (w : World) : (binOp .eql 38 (.agg #[.int .i64 a, .int .i64 b]) (.agg #[.int .i64 a', .int .i64 b'])).run Try.prog w = .ok (.bool (a == a' && b == b')) w := by
  rw [run_eql_struct, eq_pt 9998]; rfl

theorem eq_cl (c d : Cl) (w : World) : (Op.equalIn 10000 40 (.agg #[.int .i64 c.a, .int .i64 c.b, .int .i64 c.h]) (.agg #[.int .i64 d.a, .int .i64 d.b, .int .i64 d.h])).run Try.prog w = .ok (decide (c = d)) w := by
  have ht : Try.prog.underlying 40 = some (.struct (Try.prog.fieldsOf 40)) := by kernel_rfl
  have hs : Try.prog.stoodInHeld 40 = false := by kernel_rfl
  have hf : (Try.prog.fieldsOf 40).toList.map (fun f => (f.name, f.type, f.offset)) = [("At", 38, 0), ("Half", 3, 2)] := by kernel_rfl
  have p0 : ∀ (u v z : Value) w, (part 38 #[u, v, z] 0).run Try.prog w = .ok (.agg #[u, v]) w := fun _ _ _ _ => by kernel_rfl
  have p1 : ∀ (u v z : Value) w, (part 3 #[u, v, z] 2).run Try.prog w = .ok z w := fun _ _ _ _ => by kernel_rfl
  have hi := fun (x y : Int) (w : World) => run_equalIn_int (P := Try.prog) w 9998 3 .i64 .i64 x y Try.underlying3
  have hp := eq_pt 9997
  have e : decide (c = d) = ((c.a == d.a && c.b == d.b) && c.h == d.h) := by
    rw [Bool.eq_iff_iff]; cases c; cases d; simp [and_assoc]
  rw [run_equalIn_agg w 9999 40 _ _ ht hs, e]
  generalize (Try.prog.fieldsOf 40).toList = fs at hf
  rcases fs with _ | ⟨f0, _ | ⟨f1, _ | ⟨f2, fs⟩⟩⟩ <;> simp only [List.map_cons, List.map_nil, List.cons.injEq, Prod.mk.injEq, and_true, List.cons_ne_nil, reduceCtorEq, and_false] at hf
  obtain ⟨⟨n0, t0, o0⟩, ⟨n1, t1, o1⟩⟩ := hf
  simp only [Op.eqFields, n0, t0, o0, n1, t1, o1, ne_eq, String.reduceEq, not_false_iff, if_true, p0, Sem.run_bind, Result.andThen_ok, hp]
  generalize (c.a == d.a && c.b == d.b) = b
  cases b
  · simp
  simp only [Bool.not_true, Bool.false_eq_true, if_false, p1, Sem.run_bind, Result.andThen_ok, hi, Bool.true_and]
  generalize (c.h == d.h) = b
  cases b <;> simp
theorem eql_cl (c d : Cl) (w : World) : (binOp .eql 40 (.agg #[.int .i64 c.a, .int .i64 c.b, .int .i64 c.h]) (.agg #[.int .i64 d.a, .int .i64 d.b, .int .i64 d.h])).run Try.prog w = .ok (.bool (decide (c = d))) w := by
  rw [run_eql_struct, eq_cl]; rfl
theorem neq_cl (c d : Cl) (w : World) : (binOp .neq 40 (.agg #[.int .i64 c.a, .int .i64 c.b, .int .i64 c.h]) (.agg #[.int .i64 d.a, .int .i64 d.b, .int .i64 d.h])).run Try.prog w = .ok (.bool (!decide (c = d))) w := by
  rw [run_neq_struct, eq_cl]; rfl

theorem eq_rf (c d : Cl) (w : World) : (Op.equalIn 10000 32 (.agg #[.int .i64 c.a, .int .i64 c.b, .int .i64 c.h]) (.agg #[.int .i64 d.a, .int .i64 d.b, .int .i64 d.h])).run Try.prog w = .ok (decide (c = d)) w := by
  have ht : Try.prog.underlying 32 = some (.struct (Try.prog.fieldsOf 32)) := by kernel_rfl
  have hs : Try.prog.stoodInHeld 32 = false := by kernel_rfl
  have hf : (Try.prog.fieldsOf 32).toList.map (fun f => (f.name, f.type, f.offset)) = [("A", 2, 0), ("B", 2, 1), ("Half", 3, 2)] := by kernel_rfl
  have p0 : ∀ (u v z : Value) w, (part 2 #[u, v, z] 0).run Try.prog w = .ok u w := fun _ _ _ _ => by kernel_rfl
  have p1 : ∀ (u v z : Value) w, (part 2 #[u, v, z] 1).run Try.prog w = .ok v w := fun _ _ _ _ => by kernel_rfl
  have p2 : ∀ (u v z : Value) w, (part 3 #[u, v, z] 2).run Try.prog w = .ok z w := fun _ _ _ _ => by kernel_rfl
  have hi := fun (x y : Int) (w : World) => run_equalIn_int (P := Try.prog) w 9998 3 .i64 .i64 x y Try.underlying3
  have hj := fun (x y : Int) (w : World) => run_equalIn_int (P := Try.prog) w 9998 2 .i64 .i64 x y Try.underlying2
  have e : decide (c = d) = (c.a == d.a && (c.b == d.b && c.h == d.h)) := by
    rw [Bool.eq_iff_iff]; cases c; cases d; simp
  rw [run_equalIn_agg w 9999 32 _ _ ht hs, e]
  generalize (Try.prog.fieldsOf 32).toList = fs at hf
  rcases fs with _ | ⟨f0, _ | ⟨f1, _ | ⟨f2, _ | ⟨f3, fs⟩⟩⟩⟩ <;> simp only [List.map_cons, List.map_nil, List.cons.injEq, Prod.mk.injEq, and_true, List.cons_ne_nil, reduceCtorEq, and_false] at hf
  obtain ⟨⟨n0, t0, o0⟩, ⟨n1, t1, o1⟩, ⟨n2, t2, o2⟩⟩ := hf
  simp only [Op.eqFields, n0, t0, o0, n1, t1, o1, n2, t2, o2, ne_eq, String.reduceEq, not_false_iff, if_true, p0, Sem.run_bind, Result.andThen_ok, hj]
  generalize (c.a == d.a) = b
  cases b
  · simp
  simp only [Bool.not_true, Bool.false_eq_true, if_false, p1, Sem.run_bind, Result.andThen_ok, hj, Bool.true_and]
  generalize (c.b == d.b) = b
  cases b
  · simp
  simp only [Bool.not_true, Bool.false_eq_true, if_false, p2, Sem.run_bind, Result.andThen_ok, hi, Bool.true_and]
  generalize (c.h == d.h) = b
  cases b <;> simp
theorem eql_rf (c d : Cl) (w : World) : (binOp .eql 32 (.agg #[.int .i64 c.a, .int .i64 c.b, .int .i64 c.h]) (.agg #[.int .i64 d.a, .int .i64 d.b, .int .i64 d.h])).run Try.prog w = .ok (.bool (decide (c = d))) w := by
  rw [run_eql_struct, eq_rf]; rfl
theorem neq_rf (c d : Cl) (w : World) : (binOp .neq 32 (.agg #[.int .i64 c.a, .int .i64 c.b, .int .i64 c.h]) (.agg #[.int .i64 d.a, .int .i64 d.b, .int .i64 d.h])).run Try.prog w = .ok (.bool (!decide (c = d))) w := by
  rw [run_neq_struct, eq_rf]; rfl

/-- Is a point ahead of another one? -/
def ptLt (a b a' b' : Int) : Bool := decide (b < b') || (decide (b = b') && decide (a < a'))

/-- What a call that compares leaves: its blocks. -/
def Grown (r : Value) (w : World) (e : Ending) (w' : World) : Prop := e = .returned r ∧ ∃ q os, w' = Sort.grow (w.drewN q) os
theorem Grown.two {w : World} {r : Value} {e : Ending} {w' : World} {o o' : Obj} (h : e = .returned r) (h' : w' = (w.alloc o).alloc o') : Grown r w e w' :=
  ⟨h, 0, _, by rw [h', Sort.alloc_eq_grow, Sort.alloc_eq_grow, Sort.grow_grow]; rfl⟩
theorem Grown.back {w : World} {r : Value} {e : Ending} {w' : World} {o o' : Obj} (h : Grown r ((w.alloc o).alloc o') e w') : Grown r w e w' := by
  obtain ⟨he, q, os, rfl⟩ := h
  refine ⟨he, q, #[o, o'] ++ os, ?_⟩
  rw [Sort.alloc_eq_grow, Sort.alloc_eq_grow, Sort.grow_grow, ← Sort.grow_grow (w.drewN q)]
  rfl
theorem Grown.below {w : World} {r : Value} {e : Ending} {w' : World} (h : Grown r w e w') : e = .returned r ∧ Below w.heap.size w w' := by
  obtain ⟨he, q, os, rfl⟩ := h
  refine ⟨he, ⟨rfl, rfl, rfl, ?_, fun k hk => ?_⟩⟩
  · simp [Sort.grow]
  · show (w.heap ++ os)[k]? = _
    rw [Array.getElem?_append_left hk]

set_option maxHeartbeats 1000000 in
theorem less_any (a b a' b' : Int) (w : World) :
    Calls Try.prog 74 #[.agg #[.int .i64 a, .int .i64 b], .agg #[.int .i64 a', .int .i64 b']] w (Grown (.bool (ptLt a b a' b')) w) := by
  unfold ptLt
  by_cases c1 : b < b'
  · have d1 : decide (b < b') = true := by simpa using c1
    rw [d1]
    go_enter Try.func74, Try.ntmps74
    go_wp2
    go_ret
    exact .two rfl rfl
  · have d1 : decide (b < b') = false := by simpa using c1
    rw [d1]
    by_cases c2 : b = b'
    · subst c2
      have e2 : (b == b) = true := by simp
      simp only [decide_true, Bool.true_and, Bool.false_or]
      go_enter Try.func74, Try.ntmps74
      go_wp2
      go_ret
      exact .two rfl rfl
    · have d2 : decide (b = b') = false := by simpa using c2
      have e2 : (b == b') = false := by simpa using c2
      rw [d2]
      simp only [Bool.false_and, Bool.or_false]
      go_enter Try.func74, Try.ntmps74
      go_wp2
      go_ret
      exact .two rfl rfl

/-- -1, 0, 1. -/
def cmpI (c d : Cl) : Int := if c.lt d = true then -1 else if c = d then 0 else 1

theorem boxes {w w1 : World} {a b c d e f : Value} {T T' : TypeId} (hb : Below ((w.alloc (.cells #[a, b, c] T)).alloc (.cells #[d, e, f] T')).heap.size ((w.alloc (.cells #[a, b, c] T)).alloc (.cells #[d, e, f] T')) w1) :
    (w1.cell? ⟨w.heap.size, 0, none⟩ = some a ∧ w1.cell? ⟨w.heap.size, 1, none⟩ = some b ∧ w1.cell? ⟨w.heap.size, 2, none⟩ = some c) ∧
    (w1.cell? ⟨w.heap.size + 1, 0, none⟩ = some d ∧ w1.cell? ⟨w.heap.size + 1, 1, none⟩ = some e ∧ w1.cell? ⟨w.heap.size + 1, 2, none⟩ = some f) := by
  have h1 : w1.heap[w.heap.size]? = some (.cells #[a, b, c] T (0, 0)) := (hb.block _ (by simp; omega)).trans ((Below.heap_alloc _ _ _ (by simp)).trans (heap_alloc_new _ _))
  have h2 : w1.heap[w.heap.size + 1]? = some (.cells #[d, e, f] T' (0, 0)) := (hb.block _ (by simp)).trans (by rw [← World.size_alloc w (.cells #[a, b, c] T)]; exact heap_alloc_new _ _)
  refine ⟨⟨?_, ?_, ?_⟩, ⟨?_, ?_, ?_⟩⟩
  · rw [cell_of_row _ _ _ _ _ _ h1]; rfl
  · rw [cell_of_row _ _ _ _ _ _ h1]; rfl
  · rw [cell_of_row _ _ _ _ _ _ h1]; rfl
  · rw [cell_of_row _ _ _ _ _ _ h2]; rfl
  · rw [cell_of_row _ _ _ _ _ _ h2]; rfl
  · rw [cell_of_row _ _ _ _ _ _ h2]; rfl

theorem ptLt_false {a b a' b' : Int} (h : ptLt a b a' b' = false) : ¬ (b < b' ∨ (b = b' ∧ a < a')) := by
  intro h'
  unfold ptLt at h
  simp at h
  omega

set_option maxHeartbeats 2000000 in
theorem compare_any (c d : Cl) (w : World) :
    Calls Try.prog 65 #[.agg #[.int .i64 c.a, .int .i64 c.b, .int .i64 c.h], .agg #[.int .i64 d.a, .int .i64 d.b, .int .i64 d.h]] w (Grown (.int .i64 (cmpI c d)) w) := by
  have hl := less_any c.a c.b d.a d.b
  have hpt := eql_pt c.a c.b d.a d.b
  have hcl := eql_cl c d
  cases h1 : ptLt c.a c.b d.a d.b
  · rw [h1] at hl
    have h1' := ptLt_false h1
    by_cases h2 : c.a = d.a ∧ c.b = d.b
    · have e2 : (c.a == d.a && c.b == d.b) = true := by simp [h2.1, h2.2]
      rw [e2] at hpt
      by_cases h3 : c.h < d.h
      · have e : cmpI c d = -1 := by unfold cmpI; rw [if_pos (Cl.lt_iff.2 (.inr ⟨h2.2, .inr ⟨h2.1, h3⟩⟩))]
        rw [e]
        clear e h1 h1' hcl e2 h2
        obtain ⟨ca, cb, ch⟩ := c; obtain ⟨da, db, dh⟩ := d; dsimp only at *
        go_enter Try.func65, Try.ntmps65
        go_wp2_with fail
        refine (hl _).mono ?_
        rintro e w1 hg
        obtain ⟨rfl, hb⟩ := hg.below
        obtain ⟨⟨x0, x1, x2⟩, ⟨y0, y1, y2⟩⟩ := boxes hb
        clear hb hl
        go_wp2
        go_ret
        exact Grown.back ⟨rfl, hg.2⟩
      · have hn : ¬ c.lt d = true := fun h => by rw [Cl.lt_iff] at h; omega
        by_cases h4 : c = d
        · have e : cmpI c d = 0 := by unfold cmpI; rw [if_neg hn, if_pos h4]
          rw [e]
          rw [decide_eq_true h4] at hcl
          clear e h1 h1' e2 h2 hn h4
          obtain ⟨ca, cb, ch⟩ := c; obtain ⟨da, db, dh⟩ := d; dsimp only at *
          go_enter Try.func65, Try.ntmps65
          go_wp2_with fail
          refine (hl _).mono ?_
          rintro e w1 hg
          obtain ⟨rfl, hb⟩ := hg.below
          obtain ⟨⟨x0, x1, x2⟩, ⟨y0, y1, y2⟩⟩ := boxes hb
          clear hb hl
          go_wp2
          go_ret
          exact Grown.back ⟨rfl, hg.2⟩
        · have e : cmpI c d = 1 := by unfold cmpI; rw [if_neg hn, if_neg h4]
          rw [e]
          rw [decide_eq_false h4] at hcl
          clear e h1 h1' e2 h2 hn h4
          obtain ⟨ca, cb, ch⟩ := c; obtain ⟨da, db, dh⟩ := d; dsimp only at *
          go_enter Try.func65, Try.ntmps65
          go_wp2_with fail
          refine (hl _).mono ?_
          rintro e w1 hg
          obtain ⟨rfl, hb⟩ := hg.below
          obtain ⟨⟨x0, x1, x2⟩, ⟨y0, y1, y2⟩⟩ := boxes hb
          clear hb hl
          go_wp2
          go_ret
          exact Grown.back ⟨rfl, hg.2⟩
    · have e2 : (c.a == d.a && c.b == d.b) = false := by
        rw [Bool.eq_false_iff]
        intro h
        simp at h
        exact h2 h
      rw [e2] at hpt
      have hn : ¬ c.lt d = true := fun h => by rw [Cl.lt_iff] at h; omega
      have h4 : ¬ c = d := fun h => h2 (by rw [h]; exact ⟨rfl, rfl⟩)
      have e : cmpI c d = 1 := by unfold cmpI; rw [if_neg hn, if_neg h4]
      rw [e]
      rw [decide_eq_false h4] at hcl
      clear e h1 h1' e2 h2 hn h4
      obtain ⟨ca, cb, ch⟩ := c; obtain ⟨da, db, dh⟩ := d; dsimp only at *
      go_enter Try.func65, Try.ntmps65
      go_wp2_with fail
      refine (hl _).mono ?_
      rintro e w1 hg
      obtain ⟨rfl, hb⟩ := hg.below
      obtain ⟨⟨x0, x1, x2⟩, ⟨y0, y1, y2⟩⟩ := boxes hb
      clear hb hl
      go_wp2
      go_ret
      exact Grown.back ⟨rfl, hg.2⟩
  · rw [h1] at hl
    have e : cmpI c d = -1 := by
      unfold cmpI
      rw [if_pos]
      unfold ptLt at h1
      rw [Cl.lt_iff]
      simp at h1
      omega
    rw [e]
    clear e h1 hcl hpt
    obtain ⟨ca, cb, ch⟩ := c; obtain ⟨da, db, dh⟩ := d; dsimp only at *
    go_enter Try.func65, Try.ntmps65
    go_wp2_with fail
    refine (hl _).mono ?_
    rintro e w1 hg
    obtain ⟨rfl, hb⟩ := hg.below
    clear hb hl
    go_wp2
    go_ret
    exact Grown.back ⟨rfl, hg.2⟩

/-! ### The document's cells -/
def AheadPost (r : Bool) (w : World) (e : Ending) (w' : World) : Prop := e = .returned (.bool r) ∧ Below w.heap.size w w'

set_option maxHeartbeats 1000000 in
theorem ahead_any (c d : Cl) (w : World) :
    Calls Try.prog 41 #[.agg #[.int .i64 c.a, .int .i64 c.b, .int .i64 c.h], .agg #[.int .i64 d.a, .int .i64 d.b, .int .i64 d.h]] w (AheadPost (c.lt d) w) := by
  have hB := fun (o o' : Obj) => ((Below.refl w.heap.size w).alloc (Nat.le_refl _) o).alloc (by simp) o'
  by_cases h1 : c.b = d.b
  · by_cases h2 : c.a = d.a
    · have e : c.lt d = decide (c.h < d.h) := by unfold Cl.lt; simp [h1, h2]
      rw [e]
      obtain ⟨ca, cb, ch⟩ := c; obtain ⟨da, db, dh⟩ := d; dsimp only at *
      subst h1 h2
      have q1 : (cb != cb) = false := by simp
      have q2 : (ca != ca) = false := by simp
      clear e
      go_enter Try.func41, Try.ntmps41
      go_wp2
      go_ret
      exact ⟨rfl, hB _ _⟩
    · have e : c.lt d = decide (c.a < d.a) := by unfold Cl.lt; simp [h1, h2]
      rw [e]
      obtain ⟨ca, cb, ch⟩ := c; obtain ⟨da, db, dh⟩ := d; dsimp only at *
      subst h1
      have q1 : (cb != cb) = false := by simp
      have q2 : (ca != da) = true := by simpa using h2
      clear e h2
      go_enter Try.func41, Try.ntmps41
      go_wp2
      go_ret
      exact ⟨rfl, hB _ _⟩
  · have e : c.lt d = decide (c.b < d.b) := by unfold Cl.lt; simp [h1]
    rw [e]
    obtain ⟨ca, cb, ch⟩ := c; obtain ⟨da, db, dh⟩ := d; dsimp only at *
    have q1 : (cb != db) = true := by simpa using h1
    clear e h1
    go_enter Try.func41, Try.ntmps41
    go_wp2
    go_ret
    exact ⟨rfl, hB _ _⟩

theorem own_any (c : Cl) (w : World) :
    Calls Try.prog 13 #[.agg #[.int .i64 c.a, .int .i64 c.b, .int .i64 c.h]] w fun e w' => e = .returned (.agg #[.int .i64 c.a, .int .i64 c.b, .int .i64 c.h]) ∧ Below w.heap.size w w' := by
  obtain ⟨ca, cb, ch⟩ := c; dsimp only
  go_enter Try.func13, Try.ntmps13
  go_wp2
  exact bodyPost_ret (v := .agg #[.int .i64 ca, .int .i64 cb, .int .i64 ch]) (by simp [results, Try.results13, go_sem]) rfl ⟨rfl, ((Below.refl _ _).alloc (Nat.le_refl _) _).alloc (by simp) _⟩
theorem told_any (c : Cl) (w : World) :
    Calls Try.prog 46 #[.agg #[.int .i64 c.a, .int .i64 c.b, .int .i64 c.h]] w fun e w' => e = .returned (.agg #[.int .i64 c.a, .int .i64 c.b, .int .i64 c.h]) ∧ Below w.heap.size w w' := by
  obtain ⟨ca, cb, ch⟩ := c; dsimp only
  go_enter Try.func46, Try.ntmps46
  go_wp2
  exact bodyPost_ret (v := .agg #[.int .i64 ca, .int .i64 cb, .int .i64 ch]) (by simp [results, Try.results46, go_sem]) rfl ⟨rfl, ((Below.refl _ _).alloc (Nat.le_refl _) _).alloc (by simp) _⟩

end Go.Proofs.Ytehmbhdapgkbcaa
