/- What a call may have changed in memory: 'Touch'; slices that own a row of cells; an arena in memory. -/
import Derived.WalkKit
import Derived.Deep.Draws
import Derived.Test.YtehmbhdapgkbcaaTab
namespace Go.Proofs.Ytehmbhdapgkbcaa
open Go.RowKit

/-- Nothing but blocks of S, and new ones, has changed. -/
structure Touch (S : Nat → Prop) (w w' : World) : Prop where
  os : w'.os = w.os
  tape : w'.tape = w.tape
  output : w'.output = w.output
  size : w.heap.size ≤ w'.heap.size
  block : ∀ k, k < w.heap.size → ¬ S k → w'.heap[k]? = w.heap[k]?

/-- No block at all. -/
abbrev Only (_ : Nat) : Prop := False

theorem Touch.refl (S : Nat → Prop) (w : World) : Touch S w w := ⟨rfl, rfl, rfl, Nat.le_refl _, fun _ _ _ => rfl⟩
theorem Touch.trans {S S' S'' : Nat → Prop} {a b c : World} (h : Touch S a b) (k : Touch S' b c) (h1 : ∀ x, x < a.heap.size → S x → S'' x) (h2 : ∀ x, x < a.heap.size → S' x → S'' x) : Touch S'' a c :=
  ⟨k.os.trans h.os, k.tape.trans h.tape, k.output.trans h.output, Nat.le_trans h.size k.size, fun i hi hn =>
    (k.block i (Nat.lt_of_lt_of_le hi h.size) (fun e => hn (h2 i hi e))).trans (h.block i hi (fun e => hn (h1 i hi e)))⟩
theorem Touch.mono {S S' : Nat → Prop} {a b : World} (h : Touch S a b) (hs : ∀ x, x < a.heap.size → S x → S' x) : Touch S' a b :=
  ⟨h.os, h.tape, h.output, h.size, fun i hi hn => h.block i hi fun e => hn (hs i hi e)⟩
theorem Touch.drew {S : Nat → Prop} {a w : World} (h : Touch S a w) : Touch S a w.drew := ⟨h.os, h.tape, h.output, h.size, h.block⟩
theorem Touch.drewN {S : Nat → Prop} {a w : World} (h : Touch S a w) (n : Nat) : Touch S a (w.drewN n) := ⟨h.os, h.tape, h.output, h.size, h.block⟩
theorem Touch.alloc {S : Nat → Prop} {a w : World} (h : Touch S a w) (o : Obj) : Touch S a (w.alloc o) :=
  ⟨h.os, h.tape, h.output, by rw [World.size_alloc]; have := h.size; omega, fun k hk hn => by
    rw [Below.heap_alloc _ _ _ (Nat.lt_of_lt_of_le hk h.size)]; exact h.block k hk hn⟩
theorem Touch.setCell {S : Nat → Prop} {a w : World} (h : Touch S a w) {p : Addr} (hp : p.block < a.heap.size → S p.block) (u : Value) : Touch S a (w.setCell p u) :=
  ⟨h.os, h.tape, h.output, by rw [World.size_setCell]; exact h.size, fun k hk hn => by
    rw [Below.heap_setCell _ _ _ _ (fun e => hn (by rw [e]; exact hp (by rw [← e]; exact hk)))]; exact h.block k hk hn⟩
theorem Touch.grown {S : Nat → Prop} {a w w' : World} {row : Option Nat} (h : Touch S a w) (hg : w.grownBy w' row) (hr : ∀ k, row = some k → k < a.heap.size → S k) : Touch S a w' :=
  ⟨hg.os.trans h.os, hg.tape.trans h.tape, hg.output.trans h.output, Nat.le_trans h.size hg.size, fun k hk hn =>
    (hg.block k (Nat.lt_of_lt_of_le hk h.size) (fun e => hn (hr k e.symm hk))).trans (h.block k hk hn)⟩
theorem Touch.of_below {B : Nat} {w w' : World} (h : Below B w w') : Touch (fun k => B ≤ k) w w' :=
  ⟨h.os, h.tape, h.output, h.size, fun k _ hn => h.block k (by omega)⟩
theorem Touch.of_new {S : Nat → Prop} {w w' : World} (h : Below w.heap.size w w') : Touch S w w' :=
  ⟨h.os, h.tape, h.output, h.size, fun k hk _ => h.block k hk⟩
theorem Touch.below {S : Nat → Prop} {w w' : World} (h : Touch S w w') (hn : ∀ k, k < w.heap.size → ¬ S k) : Below w.heap.size w w' :=
  ⟨h.os, h.tape, h.output, h.size, fun k hk => h.block k hk (hn k hk)⟩
theorem Touch.then_below {S : Nat → Prop} {a b c : World} (h : Touch S a b) (k : Below b.heap.size b c) : Touch S a c :=
  h.trans (S' := S) (.of_new k) (fun _ _ h => h) (fun _ _ h => h)
theorem Touch.cell {S : Nat → Prop} {w w' : World} (h : Touch S w w') {p : Addr} (hp : p.block < w.heap.size) (hn : ¬ S p.block) : w'.cell? p = w.cell? p := World.cell?_of_block (w := w) (h.block p.block hp hn)
theorem Touch.frozen {S : Nat → Prop} {w w' : World} (h : Touch S w w') {p : Addr} (hp : p.block < w.heap.size) (hn : ¬ S p.block) : w'.frozen? p = w.frozen? p := World.frozen?_of_block (w := w) (h.block p.block hp hn)
theorem Touch.kept {S : Nat → Prop} {w w' : World} (h : Touch S w w') {p : Addr} {v : Value} (hc : w.cell? p = some v) (hn : ¬ S p.block) : w'.cell? p = some v :=
  (h.cell (World.block_lt_of_cell? w p hc) hn).trans hc

/-! ### Rows -/
/-- A slice that owns its row (or is nil): 'ownsRow' from block 0 on. -/
abbrev Own (w : World) (e size : Nat) (v : Value) (n : Nat) (xs : List Value) : Prop := w.ownsRow 0 e size v n xs

theorem Own.move {w w' : World} {S : Nat → Prop} {e size : Nat} {v : Value} {n : Nat} {xs : List Value} (h : Own w e size v n xs) (ht : Touch S w w') (hn : ∀ k, v.ownBlock = some k → ¬ S k) : Own w' e size v n xs := by
  refine ⟨h.1, ?_⟩
  rcases h.2 with h2 | ⟨g, cap, cur, rfl, hb, hg, rest⟩
  · exact .inl h2
  · exact .inr ⟨g, cap, cur, rfl, hb, by rw [ht.block g (lt_of_block hg) (hn g rfl)]; exact hg, rest⟩

theorem Own.form {w : World} {e size : Nat} {v : Value} {n : Nat} {xs : List Value} (h : Own w e size v n xs) (hn : 0 < n) : ∃ g cap, v = .slice (some ⟨g, 0, none⟩) n cap ∧ n ≤ cap ∧ cap ≤ maxLen ∧ g < w.heap.size := by
  rcases h.2 with ⟨_, h0⟩ | ⟨g, cap, cur, rfl, hb, hg, h1, h2, _⟩
  · omega
  · exact ⟨g, cap, rfl, h1, h2, lt_of_block hg⟩

theorem Own.slice {w : World} {e size : Nat} {v : Value} {n : Nat} {xs : List Value} (h : Own w e size v n xs) : ∃ a cap, v = .slice a n cap ∧ n ≤ maxLen := by
  rcases h.2 with ⟨rfl, rfl⟩ | ⟨g, cap, cur, rfl, hb, hg, h1, h2, _⟩
  · exact ⟨none, 0, rfl, Nat.zero_le _⟩
  · exact ⟨_, _, rfl, by omega⟩

theorem Own.lt {w : World} {e size : Nat} {v : Value} {n : Nat} {xs : List Value} (h : Own w e size v n xs) {k : Nat} (hk : v.ownBlock = some k) : k < w.heap.size := (World.ownsRow.lt h k hk).2

theorem Own.heap {w : World} {e size : Nat} {v : Value} {n : Nat} {xs : List Value} (h : Own w e size v n xs) {k : Nat} (hk : v.ownBlock = some k) : ∃ cur, w.heap[k]? = some (.cells cur e (0, 0)) := by
  rcases h.2 with ⟨rfl, _⟩ | ⟨g, cap, cur, rfl, hb, hg, _⟩
  · cases hk
  · cases hk; exact ⟨cur, hg⟩

/-- Two rows of unlike elements lie in unlike blocks. -/
theorem Own.apart {w : World} {e size e' size' : Nat} {v v' : Value} {n n' : Nat} {xs xs' : List Value} (h : Own w e size v n xs) (h' : Own w e' size' v' n' xs') (he : e ≠ e') {k : Nat} (hk : v.ownBlock = some k) : v'.ownBlock ≠ some k := by
  intro hk'
  obtain ⟨c, hc⟩ := h.heap hk
  obtain ⟨c', hc'⟩ := h'.heap hk'
  rw [hc] at hc'
  simp at hc'
  exact he hc'.2

theorem flatMap_get {α β : Type} (f : α → List β) (m : Nat) (hm : ∀ a, (f a).length = m) : ∀ (l : List α) (i j : Nat) (h : i < l.length), j < m → (l.flatMap f)[i * m + j]? = (f l[i])[j]?
  | [], i, j, h, _ => by simp at h
  | a :: l, 0, j, _, hj => by simp only [List.flatMap_cons, Nat.zero_mul, Nat.zero_add, List.getElem_cons_zero]; rw [List.getElem?_append_left (by rw [hm]; exact hj)]
  | a :: l, i + 1, j, h, hj => by
    simp only [List.flatMap_cons, List.getElem_cons_succ]
    rw [List.getElem?_append_right (by rw [hm, Nat.add_mul]; omega), hm, show (i + 1) * m + j - m = i * m + j by rw [Nat.add_mul]; omega]
    exact flatMap_get f m hm l i j (by simpa using h) hj

/-! ### An arena in memory -/
def Nd.cells (n : Nd) : List Value := [.int .i64 n.lv, .int .u32 n.bits, .int .u32 n.k0, .int .u32 n.k1, .int .u32 n.k2, .int .u32 n.k3, .int .u64 n.cnt]
theorem Nd.cells_length (n : Nd) : n.cells.length = 7 := rfl
abbrev U32 (n : Nat) : Value := .int .u32 n

/-- The three slices of an arena, and what is in its slots. -/
structure Foot where
  nv : Value
  sv : Value
  ev : Value
  slots : List Nat

/-- An arena: its nodes, the empty ones by level, how many there may be. -/
structure Ar where
  nodes : List Nd
  empty : List Nat
  most : Int

/-- The blocks that are the arena's. -/
def Foot.at (F : Foot) (p : Nat) (k : Nat) : Prop := k = p ∨ F.nv.ownBlock = some k ∨ F.sv.ownBlock = some k ∨ F.ev.ownBlock = some k

structure ArM (w : World) (p : Nat) (F : Foot) (A : Ar) : Prop where
  obj : w.heap[p]? = some (.cells #[F.nv, F.sv, F.ev, .int .i64 A.most] 86 (0, 0))
  nodes : Own w 83 7 F.nv A.nodes.length (A.nodes.flatMap Nd.cells)
  slots : Own w 27 1 F.sv F.slots.length (F.slots.map U32)
  empty : Own w 27 1 F.ev A.empty.length (A.empty.map U32)
  apart : ∀ k, F.sv.ownBlock = some k → F.ev.ownBlock ≠ some k

section
variable {w w' : World} {p : Nat} {F : Foot} {A : Ar}

theorem ArM.lt (h : ArM w p F A) : p < w.heap.size := lt_of_block h.obj
theorem ArM.foot_lt (h : ArM w p F A) {k : Nat} (hk : F.at p k) : k < w.heap.size := by
  rcases hk with rfl | hk | hk | hk
  · exact h.lt
  · exact h.nodes.lt hk
  · exact h.slots.lt hk
  · exact h.empty.lt hk
theorem ArM.move (h : ArM w p F A) {S : Nat → Prop} (ht : Touch S w w') (hn : ∀ k, F.at p k → ¬ S k) : ArM w' p F A :=
  ⟨by rw [ht.block p h.lt (hn p (.inl rfl))]; exact h.obj, h.nodes.move ht fun k hk => hn k (.inr (.inl hk)), h.slots.move ht fun k hk => hn k (.inr (.inr (.inl hk))), h.empty.move ht fun k hk => hn k (.inr (.inr (.inr hk))), h.apart⟩
theorem ArM.new (h : ArM w p F A) (ht : Below w.heap.size w w') : ArM w' p F A := h.move (S := Only) (.of_new ht) fun _ _ h => h
theorem ArM.alloc (h : ArM w p F A) (o : Obj) : ArM (w.alloc o) p F A := h.move (S := Only) ((Touch.refl _ _).alloc o) fun _ _ h => h
theorem ArM.drew (h : ArM w p F A) : ArM w.drew p F A := h.move (S := Only) ((Touch.refl _ _).drew) fun _ _ h => h
theorem ArM.drewN (h : ArM w p F A) (n : Nat) : ArM (w.drewN n) p F A := h.move (S := Only) ((Touch.refl _ _).drewN n) fun _ _ h => h
theorem ArM.c0 (h : ArM w p F A) : w.cell? ⟨p, 0, none⟩ = some F.nv := by rw [cell_of_row _ _ _ _ _ _ h.obj]; rfl
theorem ArM.c1 (h : ArM w p F A) : w.cell? ⟨p, 1, none⟩ = some F.sv := by rw [cell_of_row _ _ _ _ _ _ h.obj]; rfl
theorem ArM.c2 (h : ArM w p F A) : w.cell? ⟨p, 2, none⟩ = some F.ev := by rw [cell_of_row _ _ _ _ _ _ h.obj]; rfl
theorem ArM.c3 (h : ArM w p F A) : w.cell? ⟨p, 3, none⟩ = some (.int .i64 A.most) := by rw [cell_of_row _ _ _ _ _ _ h.obj]; rfl
theorem ArM.free (h : ArM w p F A) (j : Nat) : w.frozen? ⟨p, j, none⟩ = false := frozen_of_row _ _ _ _ _ h.obj
theorem ArM.nd (h : ArM w p F A) {g cap : Nat} (hv : F.nv = .slice (some ⟨g, 0, none⟩) A.nodes.length cap) {i : Nat} (hi : i < A.nodes.length) {j : Nat} (hj : j < 7) : w.cell? ⟨g, i * 7 + j, none⟩ = (ndAt A.nodes i).cells[j]? := by
  have h1 := h.nodes
  rw [hv] at h1
  rw [World.ownsRow.cellAt h1 _ (by omega), flatMap_get _ _ Nd.cells_length _ _ _ hi hj]
  simp [ndAt, hi]
theorem ArM.slot (h : ArM w p F A) {g cap : Nat} (hv : F.sv = .slice (some ⟨g, 0, none⟩) F.slots.length cap) {i : Nat} (hi : i < F.slots.length) : w.cell? ⟨g, i, none⟩ = some (U32 (at0 F.slots i)) := by
  have h1 := h.slots
  rw [hv] at h1
  rw [World.ownsRow.cellAt h1 _ (by omega), List.getElem?_map]
  simp [at0, hi]
theorem ArM.emp (h : ArM w p F A) {g cap : Nat} (hv : F.ev = .slice (some ⟨g, 0, none⟩) A.empty.length cap) {i : Nat} (hi : i < A.empty.length) : w.cell? ⟨g, i, none⟩ = some (U32 (at0 A.empty i)) := by
  have h1 := h.empty
  rw [hv] at h1
  rw [World.ownsRow.cellAt h1 _ (by omega), List.getElem?_map]
  simp [at0, hi]
end

theorem ArM.own_ne {w : World} {p : Nat} {F : Foot} {A : Ar} (h : ArM w p F A) {e size : Nat} {v : Value} {n : Nat} {xs : List Value} (ho : Own w e size v n xs) (he : e ≠ 86) {k : Nat} (hk : v.ownBlock = some k) : k ≠ p := by
  rintro rfl
  obtain ⟨c, hc⟩ := ho.heap hk
  rw [h.obj] at hc
  simp at hc
  exact he hc.2.symm

/-- From one state of an arena to a later one: nothing else has changed, and what it took is new. -/
structure Step (p : Nat) (F : Foot) (w : World) (F' : Foot) (w' : World) : Prop where
  touch : Touch (F.at p) w w'
  foot : ∀ k, k < w.heap.size → F'.at p k → F.at p k

theorem Step.refl (p : Nat) (F : Foot) (w : World) : Step p F w F w := ⟨.refl _ _, fun _ _ h => h⟩
theorem Step.trans {p : Nat} {F F' F'' : Foot} {a b c : World} (h : Step p F a F' b) (k : Step p F' b F'' c) : Step p F a F'' c :=
  ⟨h.touch.trans k.touch (fun _ _ h => h) (fun x hx hk => h.foot x hx hk), fun x hx hk => h.foot x hx (k.foot x (Nat.lt_of_lt_of_le hx h.touch.size) hk)⟩
theorem Step.new {p : Nat} {F F' : Foot} {a b c : World} (h : Step p F a F' b) (k : Below b.heap.size b c) : Step p F a F' c := ⟨h.touch.then_below k, h.foot⟩
theorem Step.alloc {p : Nat} {F F' : Foot} {a b : World} (h : Step p F a F' b) (o : Obj) : Step p F a F' (b.alloc o) := ⟨h.touch.alloc o, h.foot⟩
theorem Step.drew {p : Nat} {F F' : Foot} {a b : World} (h : Step p F a F' b) : Step p F a F' b.drew := ⟨h.touch.drew, h.foot⟩
theorem Step.drewN {p : Nat} {F F' : Foot} {a b : World} (h : Step p F a F' b) (n : Nat) : Step p F a F' (b.drewN n) := ⟨h.touch.drewN n, h.foot⟩
/-- A store into one of the arena's own blocks. -/
theorem Step.cell {p : Nat} {F F' : Foot} {a b : World} (h : Step p F a F' b) {x : Addr} (hx : F'.at p x.block) (u : Value) : Step p F a F' (b.setCell x u) := ⟨h.touch.setCell (fun hl => h.foot _ hl hx) u, h.foot⟩
theorem Step.slots {p : Nat} {F F' : Foot} {a b : World} (h : Step p F a F' b) (sl : List Nat) : Step p F a { F' with slots := sl } b := ⟨h.touch, h.foot⟩
/-- What is new from a step on in front. -/
theorem Step.from_new {p : Nat} {F F' : Foot} {a b c : World} (k : Below a.heap.size a b) (h : Step p F b F' c) : Step p F a F' c :=
  ⟨(Touch.of_new (S := F.at p) k).trans h.touch (fun _ _ h => h) (fun _ _ h => h), fun x hx hk => h.foot x (Nat.lt_of_lt_of_le hx k.size) hk⟩
theorem Step.from_alloc {p : Nat} {F F' : Foot} {a c : World} {o : Obj} (h : Step p F (a.alloc o) F' c) : Step p F a F' c := .from_new ((Below.refl _ _).alloc (Nat.le_refl _) o) h
theorem Step.from_drew {p : Nat} {F F' : Foot} {a c : World} (h : Step p F a.drew F' c) : Step p F a F' c := .from_new (Below.refl _ _).drew h
theorem Step.from_drewN {p : Nat} {F F' : Foot} {a c : World} {n : Nat} (h : Step p F (a.drewN n) F' c) : Step p F a F' c := ⟨⟨h.touch.os, h.touch.tape, h.touch.output, h.touch.size, h.touch.block⟩, h.foot⟩
theorem Step.size {p : Nat} {F F' : Foot} {a b : World} (h : Step p F a F' b) : a.heap.size ≤ b.heap.size := h.touch.size
/-- A block that is none of the arena's is as it was, and is none of it. -/
theorem Step.apart {p : Nat} {F F' : Foot} {a b : World} (h : Step p F a F' b) {k : Nat} (hk : k < a.heap.size) (hn : ¬ F.at p k) : ¬ F'.at p k := fun e => hn (h.foot k hk e)

end Go.Proofs.Ytehmbhdapgkbcaa
