/- The cells of a tree: visit, and the closure that collects. -/
import Derived.Test.YtehmbhdapgkbcaaBox
import Derived.Test.YtehmbhdapgkbcaaGetB
namespace Go.Proofs.Ytehmbhdapgkbcaa
open Go.RowKit

/-- The footprint of a variable that holds a slice: its block, its row. -/
def fo (v : Value) : Foot := ⟨v, .slice none 0 0, .slice none 0 0, []⟩
theorem fo_at {v : Value} {p k : Nat} : (fo v).at p k ↔ k = p ∨ v.ownBlock = some k := by
  unfold Foot.at fo
  simp [Value.ownBlock]

/-- A variable that holds a slice of just these cells. -/
structure AccV (w : World) (bw : Nat) (v : Value) (l : List Cl) : Prop where
  blk : w.heap[bw]? = some (.cells #[v] 45 (0, 0))
  row : CellRow w v l
  ne : v.ownBlock ≠ some bw

theorem AccV.move {w w' : World} {bw : Nat} {v : Value} {l : List Cl} (h : AccV w bw v l) {S : Nat → Prop} (ht : Touch S w w') (hn : ∀ k, (fo v).at bw k → ¬ S k) : AccV w' bw v l :=
  ⟨by rw [ht.block bw (lt_of_block h.blk) (hn bw (fo_at.2 (.inl rfl)))]; exact h.blk, h.row.move ht fun k hk => hn k (fo_at.2 (.inr hk)), h.ne⟩
theorem AccV.new {w w' : World} {bw : Nat} {v : Value} {l : List Cl} (h : AccV w bw v l) (hb : Below w.heap.size w w') : AccV w' bw v l := h.move (S := Only) (.of_new hb) fun _ _ h => h
theorem AccV.foot_lt {w : World} {bw : Nat} {v : Value} {l : List Cl} (h : AccV w bw v l) {k : Nat} (hk : (fo v).at bw k) : k < w.heap.size := by
  rcases fo_at.1 hk with rfl | hk
  · exact lt_of_block h.blk
  · exact h.row.lt hk

def VisitPost (bw : Nat) (v : Value) (l m : List Cl) (w : World) (e : Ending) (w' : World) : Prop :=
  e = .returned (.tuple #[]) ∧ ∃ v', AccV w' bw v' (l ++ m) ∧ Step bw (fo v) w (fo v') w'

/-- The closure's value. -/
abbrev cloV (bw : Nat) : Value := .func (.func 43) #[] #[.pointer (some ⟨bw, 0, none⟩)]

set_option maxHeartbeats 4000000 in
set_option maxRecDepth 100000 in
theorem add_any (f : Nat) (hf : f < 4294967296) (x y : Int) (hx : -4611686018427387904 ≤ x ∧ x ≤ 4611686018427387904) (hy : -4611686018427387904 ≤ y ∧ y ≤ 4611686018427387904) {w : World} {bw : Nat} {v : Value} {l : List Cl}
    (h : AccV w bw v l) (hl : l.length < 1000000) (hne : leafCl f x y ≠ []) :
    Calls Try.prog 43 #[.int .u32 f, ptV x y, .pointer (some ⟨bw, 0, none⟩)] w (VisitPost bw v l (leafCl f x y) w) := by
  obtain ⟨i0, hi0, hz0, hz1, hz2⟩ := info_parts infoCell
  have hle : (leafCl f x y).length ≤ 32 := by rw [← upto_all]; exact upto_le f 32 x y
  have hpos : 0 < (leafCl f x y).length := List.length_pos_iff.2 hne
  have hcells := cells_any f hf x y hx hy
  have hlt := lt_of_block h.blk
  have c0 : (w.alloc (.cells #[.int .i64 x, .int .i64 y] 38)).cell? ⟨bw, 0, none⟩ = some v := (World.cell?_alloc_past _ _ _ hlt).trans (by rw [cell_of_row _ _ _ _ _ _ h.blk]; rfl)
  have c1 : (w.alloc (.cells #[.int .i64 x, .int .i64 y] 38)).cell? ⟨w.heap.size, 0, none⟩ = some (.int .i64 x) := World.cell?_alloc_new _ _ _ _
  have c2 : (w.alloc (.cells #[.int .i64 x, .int .i64 y] 38)).cell? ⟨w.heap.size, 1, none⟩ = some (.int .i64 y) := World.cell?_alloc_new _ _ _ _
  have hB1 : Below w.heap.size w (w.alloc (.cells #[.int .i64 x, .int .i64 y] 38)) := (Below.refl _ _).alloc (Nat.le_refl _) _
  have hz : (w.alloc (.cells #[.int .i64 x, .int .i64 y] 38)).heap.size = w.heap.size + 1 := World.size_alloc _ _
  go_enter Try.func43, Try.ntmps43
  go_wp2_with fail
  generalize w.alloc (.cells #[.int .i64 x, .int .i64 y] 38) = W1 at *
  refine wp_region_planN 4 (fun w' => w'.cell? ⟨bw, 0, none⟩ = some v ∧ w'.cell? ⟨w.heap.size, 0, none⟩ = some (.int .i64 x) ∧ w'.cell? ⟨w.heap.size, 1, none⟩ = some (.int .i64 y))
    [3, 4, 5] [] [0, 1, 2, 3, 4, 5] (by kernel_rfl) (by kernel_rfl) (fun _ _ d _ _ h => by cases d <;> exact h) ⟨c0, c1, c2⟩ ?_
  repeat ((first | (refine' wpPlan_q rfl rfl rfl ?_ ?_; rotate_left; (focus (intro _ hSw; (try dsimp only at hSw); go_simp; (try with_reducible rfl); done))) | (refine' wpPlan_p rfl rfl rfl ?_ ?_; rotate_left; (focus (intro _; go_simp; (try with_reducible rfl); done)))); (try simp only [Act.put, List.setIfInBounds_toArray, List.set_cons_zero, List.set_cons_succ]))
  refine wpPlan_x rfl rfl (fun K hK => ?_)
  go_simp
  refine (hcells _).mono ?_
  rintro e w2 ⟨v2, rfl, h2, hb2, hn2⟩
  have k0 : w2.cell? ⟨bw, 0, none⟩ = some v := (hb2.cell (p := ⟨bw, 0, none⟩) (show bw < W1.heap.size by omega)).trans c0
  refine hK _ _ (fun _ => ⟨k0, (hb2.cell (p := ⟨w.heap.size, 0, none⟩) (show w.heap.size < W1.heap.size by omega)).trans c1, (hb2.cell (p := ⟨w.heap.size, 1, none⟩) (show w.heap.size < W1.heap.size by omega)).trans c2⟩) ?_
  clear hK K
  (try simp only [Act.put, List.setIfInBounds_toArray, List.set_cons_zero, List.set_cons_succ])
  have hB2 : Below w.heap.size w w2 := hB1.drew.trans (hb2.mono hB1.size)
  have hacc2 : AccV w2 bw v l := h.new hB2
  obtain ⟨g2, cap2, hv2, _, _, hg2⟩ := h2.form hpos
  subst hv2
  have hne3 : some bw ≠ v.ownBlock := fun e => h.ne e.symm
  have hlt2 := lt_of_block hacc2.blk
  refine wpPlan_x rfl rfl (fun K hK => ?_)
  refine wp_append_lies _ _ _ _ rfl 0 40 i0 _ 3 24 Try.underlying45 hi0 hz0 hz1 hz2 rfl (by omega) v l.length (l.flatMap Cl.cells) rfl hacc2.row ⟨g2, 0, none⟩ (leafCl f x y).length cap2 ((leafCl f x y).flatMap Cl.cells) rfl (cells_len _)
    (fun j u hj => by
      have hjl : j < (leafCl f x y).length * 3 := by rw [← cells_len]; exact (List.getElem?_eq_some_iff.1 hj).1
      rw [Addr.add_lit, Nat.zero_add, World.ownsRow.cellAt h2 _ (by omega)]; exact hj)
    (fun u hu => by
      obtain ⟨c, _, hc⟩ := List.mem_flatMap.1 hu
      simp [Cl.cells] at hc
      rcases hc with rfl | rfl | rfl <;> rfl) hpos (by unfold maxLen; omega) (by omega) (Nat.zero_le _) w2.heap.size rfl ?_
  intro gg cap w3 hown3 hgrow hat hlt3
  have hcz : w3.cell? ⟨bw, 0, none⟩ = some v := (hgrow.cell_far _ hlt2 hne3).trans k0
  have hfz : w3.frozen? ⟨bw, 0, none⟩ = false := (hgrow.frozen_far _ hlt2 hne3).trans (frozen_of_row _ _ _ _ _ hacc2.blk)
  refine hK _ _ (fun h => absurd h (by decide)) ?_
  clear hK K
  (try simp only [Act.put, List.setIfInBounds_toArray, List.set_cons_zero, List.set_cons_succ])
  refine wpPlan_x rfl rfl (fun K hK => ?_)
  go_simp
  refine hK _ _ (fun h => absurd h (by decide)) (wpPlan_nil ?_)
  clear hK K
  have hblk3 : w3.heap[bw]? = some (.cells #[v] 45 (0, 0)) := (hgrow.block bw hlt2 hne3).trans hacc2.blk
  have hgb : gg ≠ bw := by
    rcases hat with hat | hat
    · intro e; exact h.ne (by rw [hat, e])
    · omega
  have hT4 : Touch (fun k => k = bw) w3 (w3.setCell ⟨bw, 0, none⟩ (.slice (some ⟨gg, 0, none⟩) (l.length + (leafCl f x y).length) cap)) := (Touch.refl (fun k => k = bw) w3).setCell (p := ⟨bw, 0, none⟩) (fun _ => rfl) _
  have hrow3 : CellRow w3 (.slice (some ⟨gg, 0, none⟩) (l.length + (leafCl f x y).length) cap) (l ++ leafCl f x y) := by
    simpa [CellRow] using hown3
  have hfin : AccV (w3.setCell ⟨bw, 0, none⟩ (.slice (some ⟨gg, 0, none⟩) (l.length + (leafCl f x y).length) cap)) bw (.slice (some ⟨gg, 0, none⟩) (l.length + (leafCl f x y).length) cap) (l ++ leafCl f x y) :=
    ⟨heap_setCell_same w3 bw 0 _ _ _ hblk3, hrow3.move hT4 fun k hk e => by cases hk; exact hgb e, fun e => by cases e; exact hgb rfl⟩
  have hTw : Touch ((fo v).at bw) w w3 := (Touch.of_new (S := Only) hB2).trans ((Touch.refl (fun k => v.ownBlock = some k) w2).grown hgrow (fun k hk _ => hk)) (fun _ _ h => h.elim) (fun k _ hk => fo_at.2 (.inr hk))
  have hst : Step bw (fo v) w (fo (.slice (some ⟨gg, 0, none⟩) (l.length + (leafCl f x y).length) cap)) (w3.setCell ⟨bw, 0, none⟩ (.slice (some ⟨gg, 0, none⟩) (l.length + (leafCl f x y).length) cap)) := by
    refine ⟨hTw.setCell (p := ⟨bw, 0, none⟩) (fun _ => fo_at.2 (.inl rfl)) _, fun k hk hk2 => ?_⟩
    rcases fo_at.1 hk2 with hk2 | hk2
    · exact fo_at.2 (.inl hk2)
    · cases hk2
      rcases hat with hat | hat
      · exact fo_at.2 (.inr hat)
      · exact absurd hk (by have := hB2.size; show ¬ gg < w.heap.size; omega)
  clear hat hgrow hT4 hTw hown3 hrow3 hcz hfz hblk3
  generalize w3.setCell ⟨bw, 0, none⟩ (.slice (some ⟨gg, 0, none⟩) (l.length + (leafCl f x y).length) cap) = w4 at *
  (try simp only [Act.put, List.setIfInBounds_toArray, List.set_cons_zero, List.set_cons_succ])
  go_wp2
  go_end0
  exact ⟨rfl, _, hfin, hst⟩


theorem cl_nil {ns : List Nd} (w : WF ns) {f i : Nat} {a b : Int} (hi : i < ns.length) (hl : (ndAt ns i).lv = f + 2) : (ndAt ns i).cnt = 0 ↔ cl ns f i a b = [] := by
  rw [cl_cnt w f i a b hi hl, ← List.length_eq_zero_iff]
  unfold MC
  omega

/-- What visit asks. -/
structure VisOk (w : World) (p : Nat) (F : Foot) (A : Ar) (bw : Nat) (v : Value) (l : List Cl) (f i : Nat) (x y : Int) : Prop where
  ar : ArS w p F A
  ok : A.Ok
  dis : ∀ k, F.at p k → ¬ (fo v).at bw k
  acc : AccV w bw v l
  lt : i < A.nodes.length
  lv : (ndAt A.nodes i).lv = f + 2
  x0 : -8796093022208 ≤ x
  x1 : x + 2 ^ (f + 2) ≤ 8796093022208
  y0 : -8796093022208 ≤ y
  y1 : y + 2 ^ (f + 2) ≤ 8796093022208
  len : l.length + (cl A.nodes f i x y).length < 1000000
  n : A.nodes.length < 4294967296

theorem visit_nil {w : World} {p : Nat} {F : Foot} {A : Ar} {bw : Nat} {v : Value} {l : List Cl} {f i : Nat} {x y : Int} (h : VisOk w p F A bw v l f i x y) (hc : (ndAt A.nodes i).cnt = 0) (L : Int) :
    Calls Try.prog 42 #[.pointer (some ⟨p, 0, none⟩), .int .u32 i, .int .i64 L, ptV x y, cloV bw] w (VisitPost bw v l (cl A.nodes f i x y) w) := by
  have hcount := fun W (hW : ArS W p F A) => hW.toArM.count (i := i) (by have := h.n; have := h.lt; omega)
  have hnil := (cl_nil h.ok.wf (a := x) (b := y) h.lt h.lv).1 hc
  rw [hnil]
  rw [hc] at hcount
  have hA := h.ar
  have hacc := h.acc
  clear h hnil hc
  go_enter Try.func42, Try.ntmps42
  go_wp2_with fail
  refine (hcount _ (hA.alloc _)).mono ?_
  rintro e w1 ⟨rfl, rfl⟩
  go_wp2
  go_end0
  exact ⟨rfl, v, by rw [List.append_nil]; exact hacc.new ((Below.refl _ _).alloc (Nat.le_refl _) _), (Step.refl _ _ _).alloc _⟩

set_option maxHeartbeats 4000000 in
set_option maxRecDepth 100000 in
theorem visit_leaf {w : World} {p : Nat} {F : Foot} {A : Ar} {bw : Nat} {v : Value} {l : List Cl} {i : Nat} {x y : Int} (h : VisOk w p F A bw v l 0 i x y) (hc : (ndAt A.nodes i).cnt ≠ 0) :
    Calls Try.prog 42 #[.pointer (some ⟨p, 0, none⟩), .int .u32 i, .int .i64 2, ptV x y, cloV bw] w (VisitPost bw v l (leafCl (ndAt A.nodes i).bits x y) w) := by
  obtain ⟨hA, ok, hd, hacc, hi, hlv, x0, x1, y0, y1, hlen, hn⟩ := h
  have hnn : leafCl (ndAt A.nodes i).bits x y ≠ [] := fun e => hc ((cl_nil ok.wf (f := 0) hi hlv).2 e)
  have hb32 := (ok.wf.leafOf hi hlv).1
  have hq : ((((ndAt A.nodes i).cnt : Nat) : Int) == 0) = false := by rw [beq_eq_false_iff_ne]; omega
  rw [show (2 : Int) ^ (0 + 2) = 4 from rfl] at x1 y1
  have hcount := fun W (hW : ArS W p F A) => hW.toArM.count (i := i) (by omega)
  have hadd := fun W (hW : AccV W bw v l) => add_any (ndAt A.nodes i).bits hb32 x y (by omega) (by omega) hW (by omega) hnn
  have hbits := fun W (hW : ArS W p F A) => hW.toArM.bits (i := i) (by omega)
  have hA1 := hA.alloc (.cells #[.int .i64 x, .int .i64 y] 38)
  have hacc1 := hacc.new ((Below.refl _ _).alloc (Nat.le_refl _) (.cells #[.int .i64 x, .int .i64 y] 38))
  have c1 : (w.alloc (.cells #[.int .i64 x, .int .i64 y] 38)).cell? ⟨w.heap.size, 0, none⟩ = some (.int .i64 x) := World.cell?_alloc_new _ _ _ _
  have c2 : (w.alloc (.cells #[.int .i64 x, .int .i64 y] 38)).cell? ⟨w.heap.size, 1, none⟩ = some (.int .i64 y) := World.cell?_alloc_new _ _ _ _
  have hback : ∀ W' v', Step bw (fo v) (w.alloc (.cells #[.int .i64 x, .int .i64 y] 38)).drew (fo v') W' → Step bw (fo v) w (fo v') W' := fun W' v' h => Step.from_alloc (Step.from_drew h)
  generalize (ndAt A.nodes i).cnt = cn at hcount hq
  generalize (ndAt A.nodes i).bits = bt at hbits hadd ⊢
  clear hlen hc hnn hlv hb32 hacc
  go_enter Try.func42, Try.ntmps42
  go_wp2_with fail
  refine (hcount _ (hA.alloc _)).mono ?_
  rintro e w1 ⟨rfl, rfl⟩
  clear hcount
  go_wp2_with fail
  generalize w.alloc (.cells #[.int .i64 x, .int .i64 y] 38) = W1 at *
  refine wp_region_plan (fun w' => w'.cell? ⟨w.heap.size, 0, none⟩ = some (.int .i64 x) ∧ w'.cell? ⟨w.heap.size, 1, none⟩ = some (.int .i64 y))
    [3, 5] [0, 1, 2, 4, 3, 5] (by kernel_rfl) (by kernel_rfl) (fun _ _ d _ _ h => by cases d <;> exact h) ⟨c1, c2⟩ ?_
  repeat ((first | (refine' wpPlan_q rfl rfl rfl ?_ ?_; rotate_left; (focus (intro _ hSw; (try dsimp only at hSw); go_simp; (try with_reducible rfl); done))) | (refine' wpPlan_p rfl rfl rfl ?_ ?_; rotate_left; (focus (intro _; go_simp; (try with_reducible rfl); done)))); (try simp only [Act.put, List.setIfInBounds_toArray, List.set_cons_zero, List.set_cons_succ]))
  refine wpPlan_x rfl rfl (fun K hK => ?_)
  go_simp
  refine (hbits _ hA1.drew).mono ?_
  rintro e w2 ⟨rfl, rfl⟩
  refine hK _ _ (fun _ => ⟨c1, c2⟩) ?_
  clear hK K
  (try simp only [Act.put, List.setIfInBounds_toArray, List.set_cons_zero, List.set_cons_succ])
  refine wpPlan_x rfl rfl (fun K hK => ?_)
  go_simp
  refine (hadd _ (hacc1.new (Below.refl _ _).drew)).mono ?_
  rintro e w3 ⟨rfl, v', hacc', hst⟩
  refine hK _ _ (fun h => absurd h (by decide)) (wpPlan_nil ?_)
  clear hK K
  (try simp only [Act.put, List.setIfInBounds_toArray, List.set_cons_zero, List.set_cons_succ])
  go_wp2
  go_end0
  exact ⟨rfl, v', hacc', hback _ _ hst⟩


/-- The cells below one kid. -/
def kidCl (ns : List Nd) (f : Nat) (n : Nd) (x y z : Int) (q : Nat) : List Cl := cl ns f (n.kid q) (x + z * (q % 2 : Nat)) (y + z * (q / 2 : Nat))
theorem kidCl_all (ns : List Nd) (f i : Nat) (x y : Int) : (List.range 4).flatMap (kidCl ns f (ndAt ns i) x y (2 ^ (f + 2))) = cl ns (f + 1) i x y := by
  simp only [List.range_succ, List.range_zero, List.nil_append, List.cons_append, List.flatMap_cons, List.flatMap_nil, kidCl, Nd.kid, cl]
  simp
theorem kidCl_le (ns : List Nd) (f : Nat) (n : Nd) (x y z : Int) (q : Nat) (h : q < 4) : ((List.range q).flatMap (kidCl ns f n x y z)).length + (kidCl ns f n x y z q).length ≤ ((List.range 4).flatMap (kidCl ns f n x y z)).length := by
  have h4 : q = 0 ∨ q = 1 ∨ q = 2 ∨ q = 3 := by omega
  rcases h4 with rfl | rfl | rfl | rfl <;> simp [List.range_succ] <;> omega

set_option maxHeartbeats 16000000 in
set_option maxRecDepth 100000 in
theorem visit_join {p : Nat} {F : Foot} {A : Ar} {bw f : Nat} (hf : f ≤ 41)
    (ih : ∀ (w : World) (v : Value) (l : List Cl) (i : Nat) (x y : Int), VisOk w p F A bw v l f i x y → ∀ L : Nat, L = f + 2 →
      Calls Try.prog 42 #[.pointer (some ⟨p, 0, none⟩), .int .u32 i, .int .i64 L, ptV x y, cloV bw] w (VisitPost bw v l (cl A.nodes f i x y) w))
    {w : World} {v : Value} {l : List Cl} {i : Nat} {x y : Int} (h : VisOk w p F A bw v l (f + 1) i x y) (hc : (ndAt A.nodes i).cnt ≠ 0) (L' : Nat) (hL' : L' = f + 2) :
    Calls Try.prog 42 #[.pointer (some ⟨p, 0, none⟩), .int .u32 i, .int .i64 ((L' : Int) + 1), ptV x y, cloV bw] w (VisitPost bw v l (cl A.nodes (f + 1) i x y) w) := by
  obtain ⟨hA, ok, hd, hacc, hi, hlv, x0, x1, y0, y1, hlen, hn⟩ := h
  have hq : ((((ndAt A.nodes i).cnt : Nat) : Int) == 0) = false := by
    rw [beq_eq_false_iff_ne]
    exact fun e => hc (Int.ofNat_eq_zero.1 e)
  have hkl := kid_lt ok.wf hi hlv
  have hpw := pow_bounds (L := f + 2) (by omega)
  have hpm := pow_more (f + 2)
  rw [show f + 1 + 2 = f + 2 + 1 from rfl, hpm] at x1 y1
  rw [← kidCl_all] at hlen ⊢
  have hsh0 : RowKit.wrap64 ((2 : Int) ^ L') = RowKit.wrap64 ((2 : Int) ^ (f + 2)) := by rw [hL']
  clear hpm hc hlv
  generalize hz : (2 : Int) ^ (f + 2) = z at x1 y1 hlen hpw hsh0 ⊢
  have Hz := Lib.hid hz
  clear hz
  have hsh : RowKit.wrap64 ((2 : Int) ^ L') = z := by rw [hsh0, RowKit.wrap64]; omega
  clear hsh0
  have hsh2 := Lib.hid hsh
  clear hsh
  have hcount := fun W (hW : ArS W p F A) => hW.toArM.count (i := i) (by omega)
  have hkids := fun W (hW : ArS W p F A) => hW.toArM.kids (i := i) (by omega)
  have hL2 : ((L' : Int) + 1 == 2) = false := by rw [beq_eq_false_iff_ne]; omega
  have hL44 : (L' : Int) ≤ 44 := by omega
  generalize (ndAt A.nodes i).cnt = cn at hcount hq
  have hidx := fun q h => kid_index (ndAt A.nodes i) q h
  generalize ndAt A.nodes i = nd at hkl hidx hkids hlen ⊢
  have Ih := Lib.hid ih
  clear ih
  have Hkl := Lib.hid hkl
  have Hidx := Lib.hid hidx
  have HL' := Lib.hid hL'
  clear hkl hidx hL'
  have hsh := hsh2.out
  go_enter Try.func42, Try.ntmps42
  go_wp2_with fail
  refine (hcount _ (hA.alloc _)).mono ?_
  rintro e w1 ⟨rfl, rfl⟩
  clear hcount
  go_wp2_with fail
  refine (hkids _ (hA.alloc _)).mono ?_
  rintro e w2 ⟨rfl, hb2⟩
  clear hkids
  have hz2 := hb2.size
  simp only [World.size_alloc] at hz2
  have hBw : Below w.heap.size w w2 := ((Below.refl _ _).alloc (Nat.le_refl _) _).trans (hb2.mono (by simp))
  have hA2 : ArS w2 p F A := hA.new hBw
  have hacc2 := hacc.new hBw
  have z0 : w2.cell? ⟨w.heap.size, 0, none⟩ = some (.int .i64 x) := (hb2.cell (p := ⟨w.heap.size, 0, none⟩) (by simp)).trans (World.cell?_alloc_new _ _ _ _)
  have z1 : w2.cell? ⟨w.heap.size, 1, none⟩ = some (.int .i64 y) := (hb2.cell (p := ⟨w.heap.size, 1, none⟩) (by simp)).trans (World.cell?_alloc_new _ _ _ _)
  have hbz : w.heap.size < w2.heap.size := by omega
  have hbn : ¬ (fo v).at bw w.heap.size := fun h => by have := hacc.foot_lt h; omega
  clear hb2 hsh
  rw [hsh2.out]
  go_wp2_with fail
  go_loopg [31] 4 (fun m s31 wr => ∃ q : Nat, m = 4 - q ∧ q ≤ 4 ∧ s31 = .int .i64 q ∧ ∃ v', AccV wr bw v' (l ++ (List.range q).flatMap (kidCl A.nodes f nd x y z)) ∧ Step bw (fo v) w2 (fo v') wr)
  case atStart => exact ⟨0, by omega, by omega, rfl, v, by simpa using hacc2, .refl _ _ _⟩
  case round =>
    obtain ⟨q, hm, hq4, rfl, v', hacc', hst⟩ := hrel
    by_cases hq3 : q = 4
    · subst hq3
      have hge : ¬ ((4 : Int) < 4) := by omega
      go_wp2
      go_end0
      exact ⟨rfl, v', by simpa [List.range_succ] using hacc', .from_new hBw hst⟩
    have hlt : (q : Int) < 4 := by omega
    have hix := Hidx.out q (by omega)
    obtain ⟨u, hu⟩ : ∃ u : Nat, u = q % 2 := ⟨_, rfl⟩
    obtain ⟨t, ht⟩ : ∃ t : Nat, t = q / 2 := ⟨_, rfl⟩
    have e1 : bits .and .i64 (q : Int) 1 = (u : Int) := by rw [hu]; exact and1_i64 q (by omega)
    have e2 : (q : Int) / 2 = (t : Int) := by omega
    have hu1 : u = 0 ∨ u = 1 := by omega
    have ht1 : t = 0 ∨ t = 1 := by omega
    have e3 : IntKind.i64.wrap (z * u) = z * u := IntWalk.i64_in _ (by rcases hu1 with rfl | rfl <;> simp <;> omega)
    have e4 : IntKind.i64.wrap (z * t) = z * t := IntWalk.i64_in _ (by rcases ht1 with rfl | rfl <;> simp <;> omega)
    have e5 : IntKind.i64.wrap (x + z * u) = x + z * u := IntWalk.i64_in _ (by rcases hu1 with rfl | rfl <;> simp <;> omega)
    have e6 : IntKind.i64.wrap (y + z * t) = y + z * t := IntWalk.i64_in _ (by rcases ht1 with rfl | rfl <;> simp <;> omega)
    have hAr : ArS wr p F A := hA2.move hst.touch hd
    have hdr : ∀ k, F.at p k → ¬ (fo v').at bw k := fun k hk h => hd k hk (hst.foot k (hA2.toArM.foot_lt hk) h)
    have y0' := hst.touch.kept z0 hbn
    have y1' := hst.touch.kept z1 hbn
    have hkl := Hkl.out q
    have hle := kidCl_le A.nodes f nd x y z q (by omega)
    have hvis := Ih.out wr v' _ (nd.kid q) (x + z * (u : Nat)) (y + z * (t : Nat)) ⟨hAr, ok, hdr, hacc', by omega, hkl.2, by rcases hu1 with rfl | rfl <;> simp <;> omega, by rw [Hz.out]; rcases hu1 with rfl | rfl <;> simp <;> omega,
      by rcases ht1 with rfl | rfl <;> simp <;> omega, by rw [Hz.out]; rcases ht1 with rfl | rfl <;> simp <;> omega, by
        rw [List.length_append]
        have : (kidCl A.nodes f nd x y z q).length = (cl A.nodes f (nd.kid q) (x + z * (u : Nat)) (y + z * (t : Nat))).length := by unfold kidCl; rw [hu, ht]
        omega, hn⟩ L' HL'.out
    have hk : kidCl A.nodes f nd x y z q = cl A.nodes f (nd.kid q) (x + z * (u : Nat)) (y + z * (t : Nat)) := by unfold kidCl; rw [hu, ht]
    have Hk := Lib.hid hk
    generalize nd.kid q = kq at hix hvis Hk
    clear hk hu ht hu1 ht1 hle hkl x0 x1 y0 y1
    clear z0 z1 hA2 hacc2 hA hacc
    go_wp2_with fail
    refine hvis.mono ?_
    rintro e w3 ⟨rfl, v3, hacc3, hst3⟩
    go_wp2
    go_roundg (4 - (q + 1))
    case measure => omega
    case rel =>
      refine ⟨q + 1, rfl, by omega, by go_num, v3, ?_, hst.trans hst3⟩
      rw [List.range_succ, List.flatMap_append, List.flatMap_cons, List.flatMap_nil, List.append_nil, Hk.out, ← List.append_assoc]
      exact hacc3


theorem visit_any {p : Nat} {F : Foot} {A : Ar} {bw : Nat} : ∀ (f : Nat), f ≤ 42 → ∀ (w : World) (v : Value) (l : List Cl) (i : Nat) (x y : Int), VisOk w p F A bw v l f i x y → ∀ L : Nat, L = f + 2 →
    Calls Try.prog 42 #[.pointer (some ⟨p, 0, none⟩), .int .u32 i, .int .i64 L, ptV x y, cloV bw] w (VisitPost bw v l (cl A.nodes f i x y) w)
  | 0, _, w, v, l, i, x, y, h, L, hL => by
    subst hL
    by_cases hc : (ndAt A.nodes i).cnt = 0
    · exact visit_nil h hc _
    · exact visit_leaf h hc
  | f + 1, hf, w, v, l, i, x, y, h, L, hL => by
    obtain ⟨L', rfl⟩ : ∃ L', L = L' + 1 := ⟨L - 1, by omega⟩
    by_cases hc : (ndAt A.nodes i).cnt = 0
    · exact visit_nil h hc _
    · have := visit_join (by omega) (fun w v l i x y h L hL => visit_any f (by omega) w v l i x y h L hL) h hc L' (by omega)
      rwa [show ((L' : Int) + 1) = ((L' + 1 : Nat) : Int) by push_cast; rfl] at this

end Go.Proofs.Ytehmbhdapgkbcaa
