/- One cell of a tree set or cleared: put. -/
import Derived.Test.YtehmbhdapgkbcaaQuad
import Derived.Test.YtehmbhdapgkbcaaArenaC
namespace Go.Proofs.Ytehmbhdapgkbcaa
open Go.RowKit

theorem Ret.mono {p : Nat} {F : Foot} {A : Ar} {k k' : Nat} {R R' : Nat → Ar → Prop} {w : World} {e : Ending} {w' : World} (h : Ret p F A k R w e w') (hR : ∀ r A', A'.Ok → Ext A A' → r < A'.nodes.length → R r A' → R' r A') (hk : k ≤ k') : Ret p F A k' R' w e w' := by
  obtain ⟨r, err, F', A', he, hs, ok, hx, hst, hrm, hres⟩ := h
  exact ⟨r, err, F', A', he, hs, ok, hx, hst, by omega, hres.imp (fun h => ⟨h.1, h.2.1, hR r A' ok hx h.2.1 h.2.2⟩) id⟩
theorem Ret.back {p : Nat} {F : Foot} {A : Ar} {k : Nat} {R : Nat → Ar → Prop} {w wb : World} {e : Ending} {w' : World} (h : Ret p F A k R wb e w') (hb : Below w.heap.size w wb) : Ret p F A k R w e w' := by
  obtain ⟨r, err, F', A', he, hs, ok, hx, hst, hrm, hres⟩ := h
  exact ⟨r, err, F', A', he, hs, ok, hx, .from_new hb hst, hrm, hres⟩
/-- One call behind another. -/
theorem Ret.then {p : Nat} {F F1 : Foot} {A A1 : Ar} {k k1 : Nat} {R : Nat → Ar → Prop} {w w1 : World} {e : Ending} {w' : World} (hx : Ext A A1) (hst : Step p F w F1 w1) (hrm : A1.room ≤ A.room + k1) (h : Ret p F1 A1 k R w1 e w') : Ret p F A (k1 + k) R w e w' := by
  obtain ⟨r, err, F', A', he, hs, ok, hx', hst', hrm', hres⟩ := h
  exact ⟨r, err, F', A', he, hs, ok, hx.trans hx', hst.trans hst', by omega, hres⟩

/-- The cells of a node in which one cell alone has turned. -/
def PutR (A : Ar) (f i : Nat) (x y : Int) (c : Cl) (live : Bool) (r : Nat) (A' : Ar) : Prop :=
  (ndAt A'.nodes r).lv = f + 2 ∧ ∀ d, d ∈ cl A'.nodes f r x y ↔ if d = c then live = true else d ∈ cl A.nodes f i x y

theorem leaf_ret {w : World} {p : Nat} {F : Foot} {A : Ar} (h : ArS w p F A) (ok : A.Ok) (hn : A.room < 2147483647) {f : Nat} (hf : f < 4294967296) :
    Calls Try.prog 57 #[.pointer (some ⟨p, 0, none⟩), .int .u32 f] w (Ret p F A 1 (fun r A' => ndAt A'.nodes r = leafNd f) w) := by
  have := A.room_le
  refine (leaf_any h (by omega) hf).mono fun e w' hp => ?_
  exact (hp.ret ok (.leaf f hf rfl)).mono (fun r A' _ _ _ h => h.1) (Nat.le_refl _)

abbrev ptV (x y : Int) : Value := .agg #[.int .i64 x, .int .i64 y]
abbrev clV (c : Cl) : Value := .agg #[.int .i64 c.a, .int .i64 c.b, .int .i64 c.h]

/-- What put asks of its arguments. -/
structure PutOk (A : Ar) (f i : Nat) (x y : Int) (c : Cl) : Prop where
  ok : A.Ok
  lt : i < A.nodes.length
  lv : (ndAt A.nodes i).lv = f + 2
  xm : x % 4 = 0
  ym : y % 4 = 0
  x0 : -8796093022208 ≤ x
  x1 : x + 2 ^ (f + 2) ≤ 8796093022208
  y0 : -8796093022208 ≤ y
  y1 : y + 2 ^ (f + 2) ≤ 8796093022208
  sq : InSq (f + 2) x y c
  h0 : 0 ≤ c.h
  h1 : c.h ≤ 1

set_option maxHeartbeats 4000000 in
set_option maxRecDepth 100000 in
theorem put_leaf {w : World} {p : Nat} {F : Foot} {A : Ar} (h : ArS w p F A) {i : Nat} {x y : Int} {c : Cl} (hp : PutOk A 0 i x y c) (hn : A.room + 1 < 2147483647) (live : Bool) :
    Calls Try.prog 38 #[.pointer (some ⟨p, 0, none⟩), .int .u32 i, .int .i64 2, ptV x y, clV c, .bool live] w (Ret p F A 1 (PutR A 0 i x y c live) w) := by
  obtain ⟨ok, hi, hlv, xm, ym, x0, x1, y0, y1, sq, h0, h1⟩ := hp
  have hrm := A.room_le
  have hil : i < 4294967296 := by omega
  obtain ⟨hb32, hnd⟩ := ok.wf.leafOf hi hlv
  have sq' := sq
  unfold InSq at sq'
  rw [show (2 : Int) ^ (0 + 2) = 4 from rfl] at *
  have hk := bitAt_lt (a := c.a) (b := c.b) h0 h1
  have hwith := with_any (ndAt A.nodes i).bits hb32 c.a c.b c.h live (by omega) (by omega) h0 h1
  have hset := setB_lt live hb32 hk
  have hmem : ∀ d, d ∈ leafCl (setB (ndAt A.nodes i).bits (bitAt c.a c.b c.h) live) x y ↔ if d = c then live = true else d ∈ leafCl (ndAt A.nodes i).bits x y := fun d => mem_setB live xm ym sq h0 h1
  have hbits := fun W (hW : ArS W p F A) => hW.toArM.bits hil
  have Hmem := Lib.hid hmem
  clear hmem hnd sq sq'
  obtain ⟨ca, cb, ch⟩ := c
  dsimp only at *
  unfold WithPost at hwith
  generalize setB (ndAt A.nodes i).bits (bitAt ca cb ch) live = g at *
  have hS2 : ArS ((w.alloc (.cells #[.int .i64 x, .int .i64 y] 38)).alloc (.cells #[.int .i64 ca, .int .i64 cb, .int .i64 ch] 40)) p F A := (h.alloc _).alloc _
  have b0 : ((w.alloc (.cells #[.int .i64 x, .int .i64 y] 38)).alloc (.cells #[.int .i64 ca, .int .i64 cb, .int .i64 ch] 40)).cell? ⟨w.heap.size + 1, 0, none⟩ = some (.int .i64 ca) := by
    rw [← World.size_alloc w]; exact World.cell?_alloc_new _ _ _ _
  have b1 : ((w.alloc (.cells #[.int .i64 x, .int .i64 y] 38)).alloc (.cells #[.int .i64 ca, .int .i64 cb, .int .i64 ch] 40)).cell? ⟨w.heap.size + 1, 1, none⟩ = some (.int .i64 cb) := by
    rw [← World.size_alloc w]; exact World.cell?_alloc_new _ _ _ _
  have b2 : ((w.alloc (.cells #[.int .i64 x, .int .i64 y] 38)).alloc (.cells #[.int .i64 ca, .int .i64 cb, .int .i64 ch] 40)).cell? ⟨w.heap.size + 1, 2, none⟩ = some (.int .i64 ch) := by
    rw [← World.size_alloc w]; exact World.cell?_alloc_new _ _ _ _
  have hB2 : Below w.heap.size w ((w.alloc (.cells #[.int .i64 x, .int .i64 y] 38)).alloc (.cells #[.int .i64 ca, .int .i64 cb, .int .i64 ch] 40)) := ((Below.refl _ _).alloc (Nat.le_refl _) _).alloc (by simp) _
  go_enter Try.func38, Try.ntmps38
  go_wp2_with fail
  generalize ((w.alloc (.cells #[.int .i64 x, .int .i64 y] 38)).alloc (.cells #[.int .i64 ca, .int .i64 cb, .int .i64 ch] 40)) = W2 at *
  refine wp_region_plan (fun w' => w'.cell? ⟨w.heap.size + 1, 0, none⟩ = some (.int .i64 ca) ∧ w'.cell? ⟨w.heap.size + 1, 1, none⟩ = some (.int .i64 cb) ∧ w'.cell? ⟨w.heap.size + 1, 2, none⟩ = some (.int .i64 ch))
    [3, 6, 7, 11] [0, 1, 2, 4, 5, 3, 6, 7, 8, 9, 10, 11] (by kernel_rfl) (by kernel_rfl) (fun _ _ d _ _ h => by cases d <;> exact h) ⟨b0, b1, b2⟩ ?_
  repeat ((first | (refine' wpPlan_q rfl rfl rfl ?_ ?_; rotate_left; (focus (intro _ hSw; (try dsimp only at hSw); go_simp; (try with_reducible rfl); done))) | (refine' wpPlan_p rfl rfl rfl ?_ ?_; rotate_left; (focus (intro _; go_simp; (try with_reducible rfl); done)))); (try simp only [Act.put, List.setIfInBounds_toArray, List.set_cons_zero, List.set_cons_succ]))
  refine wpPlan_x rfl rfl (fun K hK => ?_)
  go_simp
  refine (hbits _ hS2.drew).mono ?_
  rintro e w' ⟨rfl, rfl⟩
  refine hK _ _ (fun _ => ⟨b0, b1, b2⟩) ?_
  clear hK K
  (try simp only [Act.put, List.setIfInBounds_toArray, List.set_cons_zero, List.set_cons_succ])
  refine wpPlan_x rfl rfl (fun K hK => ?_)
  go_simp
  refine (hwith _).mono ?_
  rintro e w3 ⟨rfl, hb3⟩
  have hlt2 : w.heap.size + 1 < W2.heap.size := World.block_lt_of_cell? _ _ b0
  have hz : ∀ j v, W2.cell? ⟨w.heap.size + 1, j, none⟩ = some v → w3.cell? ⟨w.heap.size + 1, j, none⟩ = some v := fun j v hv => (hb3.cell (p := ⟨w.heap.size + 1, j, none⟩) hlt2).trans hv
  have hS3 : ArS w3 p F A := hS2.drew.new hb3
  refine hK _ _ (fun _ => ⟨hz _ _ b0, hz _ _ b1, hz _ _ b2⟩) ?_
  clear hK K
  (try simp only [Act.put, List.setIfInBounds_toArray, List.set_cons_zero, List.set_cons_succ])
  refine wpPlan_x rfl rfl (fun K hK => ?_)
  go_simp
  refine (leaf_ret hS3 ok (by omega) hset).mono ?_
  rintro e w4 hret
  obtain ⟨r, err, F', A', rfl, hs4, ok', hext, hst4, hroom, hres⟩ := hret
  have hnf : ¬ F.at p (w.heap.size + 1) := fun k => by have := h.toArM.foot_lt k; omega
  refine hK _ _ (fun _ => ⟨hst4.touch.kept (hz _ _ b0) hnf, hst4.touch.kept (hz _ _ b1) hnf, hst4.touch.kept (hz _ _ b2) hnf⟩) ?_
  clear hK K
  (try simp only [Act.put, List.setIfInBounds_toArray, List.set_cons_zero, List.set_cons_succ])
  repeat ((first | (refine' wpPlan_q rfl rfl rfl ?_ ?_; rotate_left; (focus (intro _ hSw; (try dsimp only at hSw); go_simp; (try with_reducible rfl); done))) | (refine' wpPlan_p rfl rfl rfl ?_ ?_; rotate_left; (focus (intro _; go_simp; (try with_reducible rfl); done)))); (try simp only [Act.put, List.setIfInBounds_toArray, List.set_cons_zero, List.set_cons_succ]))
  refine wpPlan_x rfl rfl (fun K hK => ?_)
  go_simp
  refine hK _ _ (fun h => absurd h (by decide)) (wpPlan_nil ?_)
  clear hK K
  (try simp only [Act.put, List.setIfInBounds_toArray, List.set_cons_zero, List.set_cons_succ])
  go_wp2
  go_ret2
  refine ⟨r, err, F', A', rfl, hs4, ok', hext, .from_new (hB2.drew.trans (hb3.mono hB2.size)) hst4, hroom, ?_⟩
  rcases hres with ⟨e1, e2, e3⟩ | hres
  · refine .inl ⟨e1, e2, ?_, ?_⟩
    · rw [e3]; rfl
    · intro d
      simp only [cl]
      rw [e3]
      exact Hmem.out d
  · exact .inr hres

theorem kid_lt {ns : List Nd} (w : WF ns) {i f : Nat} (hi : i < ns.length) (hl : (ndAt ns i).lv = f + 3) (q : Nat) : (ndAt ns i).kid q < i ∧ (ndAt ns ((ndAt ns i).kid q)).lv = f + 2 := by
  obtain ⟨h0, h1, h2, h3, l0, l1, l2, l3, _, _⟩ := w.join hi hl
  unfold Nd.kid
  split
  · exact ⟨h0, l0⟩
  · split
    · exact ⟨h1, l1⟩
    · split
      · exact ⟨h2, l2⟩
      · exact ⟨h3, l3⟩

theorem join_ret {w : World} {p : Nat} {F : Foot} {A : Ar} (h : ArS w p F A) (ok : A.Ok) (hn : A.room < 2147483647) {L k0 k1 k2 k3 : Nat} (hL2 : 2 ≤ L) (hL : L < 44)
    (h0 : k0 < A.nodes.length) (h1 : k1 < A.nodes.length) (h2 : k2 < A.nodes.length) (h3 : k3 < A.nodes.length)
    (l0 : (ndAt A.nodes k0).lv = L) (l1 : (ndAt A.nodes k1).lv = L) (l2 : (ndAt A.nodes k2).lv = L) (l3 : (ndAt A.nodes k3).lv = L) :
    Calls Try.prog 62 #[.pointer (some ⟨p, 0, none⟩), kids4 k0 k1 k2 k3] w (Ret p F A 1 (fun r A' => ndAt A'.nodes r = joinNd A.nodes L k0 k1 k2 k3) w) := by
  have := A.room_le
  refine (join_any h (by omega) hL h0 h1 h2 h3 l0 l1 l2 l3).mono fun e w' hp => ?_
  exact (hp.ret ok (.join L k0 k1 k2 k3 hL2 hL h0 h1 h2 h3 l0 l1 l2 l3 rfl)).mono (fun r A' _ _ _ h => h.1) (Nat.le_refl _)

theorem quadA_bounds {L : Nat} {x a : Int} (h : x + 2 ^ (L + 1) ≤ 8796093022208) (h0 : -8796093022208 ≤ x) : -8796093022208 ≤ quadA L x a ∧ quadA L x a + 2 ^ L ≤ 8796093022208 := by
  rw [pow_more] at h
  have p : (0 : Int) < 2 ^ L := Int.pow_pos (by omega)
  unfold quadA
  generalize (2 : Int) ^ L = z at *
  split <;> omega
theorem quadA_four {f : Nat} {x a : Int} (h : x % 4 = 0) : quadA (f + 2) x a % 4 = 0 := by
  have e : (2 : Int) ^ (f + 2) = 4 * 2 ^ f := by rw [Int.pow_succ, Int.pow_succ]; omega
  unfold quadA
  rw [e]
  generalize (2 : Int) ^ f = z at *
  split <;> omega

/-- The cells of four kids, one of them exchanged. -/
theorem setKid_cells (n : Nd) (q r j : Nat) (hq : q < 4) (hj : j < 4) : ((#[U32 n.k0, U32 n.k1, U32 n.k2, U32 n.k3] : Array Value).setIfInBounds q (U32 r))[j]? = some (U32 (setKid n q r j)) := by
  have h1 : q = 0 ∨ q = 1 ∨ q = 2 ∨ q = 3 := by omega
  have h2 : j = 0 ∨ j = 1 ∨ j = 2 ∨ j = 3 := by omega
  rcases h1 with rfl | rfl | rfl | rfl <;> rcases h2 with rfl | rfl | rfl | rfl <;> rfl
theorem kid_cells (n : Nd) (j : Nat) (hj : j < 4) : (#[U32 n.k0, U32 n.k1, U32 n.k2, U32 n.k3] : Array Value)[j]? = some (U32 (n.kid j)) := by
  have h2 : j = 0 ∨ j = 1 ∨ j = 2 ∨ j = 3 := by omega
  rcases h2 with rfl | rfl | rfl | rfl <;> rfl

theorem PutOk.kid {A : Ar} {f i : Nat} {x y : Int} {c : Cl} (h : PutOk A (f + 1) i x y c) : PutOk A f ((ndAt A.nodes i).kid (quad (f + 2) x y c.a c.b)) (quadA (f + 2) x c.a) (quadA (f + 2) y c.b) c := by
  have hk := kid_lt h.ok.wf h.lt h.lv (quad (f + 2) x y c.a c.b)
  have h3 := h.lt
  have bx := quadA_bounds (a := c.a) h.x1 h.x0
  have bd := quadA_bounds (a := c.b) h.y1 h.y0
  exact ⟨h.ok, by omega, hk.2, quadA_four h.xm, quadA_four h.ym, bx.1, bx.2, bd.1, bd.2, h.sq.quad, h.h0, h.h1⟩

set_option maxHeartbeats 8000000 in
set_option maxRecDepth 100000 in
theorem put_rec (live : Bool) : ∀ (f : Nat), f ≤ 42 → ∀ {w : World} {p : Nat} {F : Foot} {A : Ar} (_ : ArS w p F A) {i : Nat} {x y : Int} {c : Cl} (_ : PutOk A f i x y c) (_ : A.room + (f + 1) < 2147483647) (l : Int) (_ : l = f + 2),
    Calls Try.prog 38 #[.pointer (some ⟨p, 0, none⟩), .int .u32 i, .int .i64 l, ptV x y, clV c, .bool live] w (Ret p F A (f + 1) (PutR A f i x y c live) w)
  | 0, _, w, p, F, A, h, i, x, y, c, hp, hn, l, hl => by
    obtain rfl : l = 2 := by omega
    exact put_leaf h hp hn live
  | f + 1, hf, w, p, F, A, h, i, x, y, c, hp, hn, l, hl => by
    obtain rfl : l = (f : Int) + 3 := by omega
    have hk := hp.kid
    obtain ⟨ok, hi, hlv, xm, ym, x0, x1, y0, y1, sq, h0, h1⟩ := hp
    have hrm := A.room_le
    have hil : i < 4294967296 := by omega
    have hkl := kid_lt ok.wf hi hlv
    have hkids := fun W (hW : ArS W p F A) => hW.toArM.kids hil
    have hq4 := quad_lt (f + 2) x y c.a c.b
    have p2 : (0 : Int) < 2 ^ (f + 1 + 2) := Int.pow_pos (by omega)
    have hquart : ∀ W, Calls Try.prog 53 #[.int .i64 ((f : Int) + 3), .agg #[.int .i64 x, .int .i64 y], .agg #[.int .i64 c.a, .int .i64 c.b]] W fun e w' => e = .returned (.tuple #[.int .i64 (quad (f + 2) x y c.a c.b), .agg #[.int .i64 (quadA (f + 2) x c.a), .int .i64 (quadA (f + 2) y c.b)]]) ∧ Below W.heap.size W w' := fun W => by
      have := quarter_any (f + 2) (by omega) x y c.a c.b ⟨x0, by omega⟩ ⟨y0, by omega⟩ W
      rwa [show ((f + 2 + 1 : Nat) : Int) = (f : Int) + 3 by omega] at this
    have hrec := fun W (hW : ArS W p F A) => put_rec live f (by omega) hW hk (by omega) ((f : Int) + 2) rfl
    have hset := fun (A' : List Nd) (w' : WF A') (j r : Nat) (hj : j < A'.length) => mem_set (live := live) (r := r) ok.wf w' hi hlv sq hj
    have hw3 : ¬ ((f : Int) + 3 = 2) := by omega
    have hsub : IntKind.i64.wrap ((f : Int) + 3 - 1) = (f : Int) + 2 := by rw [IntWalk.i64_in _ (by omega)]; omega
    have Hset := Lib.hid hset
    have Hkl := Lib.hid hkl
    have hkq := hk.lt
    clear hset sq hk p2 hkl x1 y1
    obtain ⟨ca, cb, ch⟩ := c
    dsimp only at *
    generalize quad (f + 2) x y ca cb = q at *
    generalize quadA (f + 2) x ca = x' at *
    generalize quadA (f + 2) y cb = y' at *
    have hq5 : (q : Int) < 4 := by omega
    clear hl
    go_enter Try.func38, Try.ntmps38
    go_wp2_with fail
    refine (hquart _).mono ?_
    rintro e w3 ⟨rfl, hb3⟩
    have hz3 := hb3.size
    simp only [World.size_alloc] at hz3
    have hS3 : ArS w3 p F A := ((h.alloc _).alloc _).new hb3
    have hB3 : Below w.heap.size w w3 := (((Below.refl _ _).alloc (Nat.le_refl _) _).alloc (by simp) _).trans (hb3.mono (by simp; omega))
    have z0 : w3.cell? ⟨w.heap.size + 1, 0, none⟩ = some (.int .i64 ca) := (hb3.cell (p := ⟨w.heap.size + 1, 0, none⟩) (by simp)).trans (by rw [← World.size_alloc w]; exact World.cell?_alloc_new _ _ _ _)
    have z1 : w3.cell? ⟨w.heap.size + 1, 1, none⟩ = some (.int .i64 cb) := (hb3.cell (p := ⟨w.heap.size + 1, 1, none⟩) (by simp)).trans (by rw [← World.size_alloc w]; exact World.cell?_alloc_new _ _ _ _)
    have z2 : w3.cell? ⟨w.heap.size + 1, 2, none⟩ = some (.int .i64 ch) := (hb3.cell (p := ⟨w.heap.size + 1, 2, none⟩) (by simp)).trans (by rw [← World.size_alloc w]; exact World.cell?_alloc_new _ _ _ _)
    clear hb3 hquart
    go_wp2_with fail
    refine (hkids _ (hS3.alloc _)).mono ?_
    rintro e w5 ⟨rfl, hb5⟩
    have hz5 := hb5.size
    simp only [World.size_alloc] at hz5
    have hS5 : ArS w5 p F A := (hS3.alloc _).new hb5
    have hB5 : Below w.heap.size w w5 := (hB3.alloc hB3.size _).trans (hb5.mono (by simp; omega))
    have m : ∀ (j : Nat) v, w3.cell? ⟨w.heap.size + 1, j, none⟩ = some v → w5.cell? ⟨w.heap.size + 1, j, none⟩ = some v := fun j v hv => (hb5.cell (p := ⟨w.heap.size + 1, j, none⟩) (by simp; omega)).trans ((World.cell?_alloc_past _ _ _ (by omega)).trans hv)
    replace z0 := m _ _ z0
    replace z1 := m _ _ z1
    replace z2 := m _ _ z2
    have v0 : w5.cell? ⟨w3.heap.size, 0, none⟩ = some (.int .i64 x') := (hb5.cell (p := ⟨w3.heap.size, 0, none⟩) (by simp)).trans (World.cell?_alloc_new _ _ _ _)
    have v1 : w5.cell? ⟨w3.heap.size, 1, none⟩ = some (.int .i64 y') := (hb5.cell (p := ⟨w3.heap.size, 1, none⟩) (by simp)).trans (World.cell?_alloc_new _ _ _ _)
    clear m hb5 hkids
    go_wp2_with fail
    have hblk : (w5.alloc (.cells #[U32 (ndAt A.nodes i).k0, U32 (ndAt A.nodes i).k1, U32 (ndAt A.nodes i).k2, U32 (ndAt A.nodes i).k3] 81)).heap[w5.heap.size]? = some (.cells #[U32 (ndAt A.nodes i).k0, U32 (ndAt A.nodes i).k1, U32 (ndAt A.nodes i).k2, U32 (ndAt A.nodes i).k3] 81 (0, 0)) := heap_alloc_new _ _
    have hS6 := hS5.alloc (.cells #[U32 (ndAt A.nodes i).k0, U32 (ndAt A.nodes i).k1, U32 (ndAt A.nodes i).k2, U32 (ndAt A.nodes i).k3] 81)
    have hB6 := hB5.alloc hB5.size (.cells #[U32 (ndAt A.nodes i).k0, U32 (ndAt A.nodes i).k1, U32 (ndAt A.nodes i).k2, U32 (ndAt A.nodes i).k3] 81)
    have m : ∀ (b j : Nat) v, b < w5.heap.size → w5.cell? ⟨b, j, none⟩ = some v → (w5.alloc (.cells #[U32 (ndAt A.nodes i).k0, U32 (ndAt A.nodes i).k1, U32 (ndAt A.nodes i).k2, U32 (ndAt A.nodes i).k3] 81)).cell? ⟨b, j, none⟩ = some v := fun b j v hb hv => (World.cell?_alloc_past _ _ _ hb).trans hv
    replace z0 := m _ _ _ (by omega) z0
    replace z1 := m _ _ _ (by omega) z1
    replace z2 := m _ _ _ (by omega) z2
    replace v0 := m _ _ _ (by omega) v0
    replace v1 := m _ _ _ (by omega) v1
    have kc : (w5.alloc (.cells #[U32 (ndAt A.nodes i).k0, U32 (ndAt A.nodes i).k1, U32 (ndAt A.nodes i).k2, U32 (ndAt A.nodes i).k3] 81)).cell? ⟨w5.heap.size, q, none⟩ = some (U32 ((ndAt A.nodes i).kid q)) := by
      rw [cell_of_row _ _ _ _ _ _ hblk]; exact kid_cells _ _ hq4
    clear m
    generalize (w5.alloc (.cells #[U32 (ndAt A.nodes i).k0, U32 (ndAt A.nodes i).k1, U32 (ndAt A.nodes i).k2, U32 (ndAt A.nodes i).k3] 81)) = W6 at *
    refine wp_region_planN 15 (fun w' => w'.cell? ⟨w5.heap.size, q, none⟩ = some (U32 ((ndAt A.nodes i).kid q)) ∧ w'.cell? ⟨w3.heap.size, 0, none⟩ = some (.int .i64 x') ∧ w'.cell? ⟨w3.heap.size, 1, none⟩ = some (.int .i64 y') ∧
        w'.cell? ⟨w.heap.size + 1, 0, none⟩ = some (.int .i64 ca) ∧ w'.cell? ⟨w.heap.size + 1, 1, none⟩ = some (.int .i64 cb) ∧ w'.cell? ⟨w.heap.size + 1, 2, none⟩ = some (.int .i64 ch))
      [10, 15, 16] [13] [0, 1, 2, 3, 4, 5, 6, 7, 8, 9, 10, 11, 12, 13, 14, 15, 16] (by kernel_rfl) (by kernel_rfl) (fun _ _ d _ _ h => by cases d <;> exact h) ⟨kc, v0, v1, z0, z1, z2⟩ ?_
    repeat ((first | (refine' wpPlan_q rfl rfl rfl ?_ ?_; rotate_left; (focus (intro _ hSw; (try dsimp only at hSw); go_simp; (try with_reducible rfl); done))) | (refine' wpPlan_p rfl rfl rfl ?_ ?_; rotate_left; (focus (intro _; go_simp; (try with_reducible rfl); done)))); (try simp only [Act.put, List.setIfInBounds_toArray, List.set_cons_zero, List.set_cons_succ]))
    refine wpPlan_x rfl rfl (fun K hK => ?_)
    go_simp
    refine (hrec _ hS6.drew).mono ?_
    rintro e w7 ⟨r, err, F', A', rfl, hs7, ok7, hext, hst7, hroom, hres⟩
    have hlt6 : w5.heap.size < W6.heap.size := lt_of_block hblk
    have hB5s := hB5.size
    have nf1 : ¬ F.at p w5.heap.size := fun k => by have := h.toArM.foot_lt k; omega
    have nf2 : ¬ F.at p w3.heap.size := fun k => by have := h.toArM.foot_lt k; omega
    have nf3 : ¬ F.at p (w.heap.size + 1) := fun k => by have := h.toArM.foot_lt k; omega
    have hT := hst7.touch
    have hc7 := hT.kept kc nf1
    refine hK _ _ (fun _ => ⟨hc7, hT.kept v0 nf2, hT.kept v1 nf2, hT.kept z0 nf3, hT.kept z1 nf3, hT.kept z2 nf3⟩) ?_
    clear hK K
    (try simp only [Act.put, List.setIfInBounds_toArray, List.set_cons_zero, List.set_cons_succ])
    repeat ((first | (refine' wpPlan_q rfl rfl rfl ?_ ?_; rotate_left; (focus (intro _ hSw; (try dsimp only at hSw); go_simp; (try with_reducible rfl); done))) | (refine' wpPlan_p rfl rfl rfl ?_ ?_; rotate_left; (focus (intro _; go_simp; (try with_reducible rfl); done)))); (try simp only [Act.put, List.setIfInBounds_toArray, List.set_cons_zero, List.set_cons_succ]))
    have hblk7 : w7.heap[w5.heap.size]? = some (.cells #[U32 (ndAt A.nodes i).k0, U32 (ndAt A.nodes i).k1, U32 (ndAt A.nodes i).k2, U32 (ndAt A.nodes i).k3] 81 (0, 0)) := (hT.block _ hlt6 nf1).trans hblk
    have hf7 : w7.frozen? ⟨w5.heap.size, q, none⟩ = false := frozen_of_row _ _ _ _ _ hblk7
    refine wpPlan_x rfl rfl (fun K hK => ?_)
    go_simp
    refine hK _ _ (fun h => absurd h (by decide)) ?_
    clear hK K
    (try simp only [Act.put, List.setIfInBounds_toArray, List.set_cons_zero, List.set_cons_succ])
    refine wpPlan_x rfl rfl (fun K hK => ?_)
    go_simp
    refine hK _ _ (fun h => absurd h (by decide)) (wpPlan_nil ?_)
    clear hK K
    (try simp only [Act.put, List.setIfInBounds_toArray, List.set_cons_zero, List.set_cons_succ])
    have hblk8 := heap_setCell_same w7 w5.heap.size q _ _ (U32 r) hblk7
    have hs8 : ArS (w7.setCell ⟨w5.heap.size, q, none⟩ (U32 r)) p F' A' := hs7.move (S := fun k => k = w5.heap.size) ((Touch.refl (fun k => k = w5.heap.size) w7).setCell (p := ⟨w5.heap.size, q, none⟩) (fun _ => rfl) _) (fun k hk e => nf1 (hst7.foot _ hlt6 (e ▸ hk)))
    have hstw : Step p F w F' w7 := .from_new hB6.drew hst7
    have hst8 : Step p F w F' (w7.setCell ⟨w5.heap.size, q, none⟩ (U32 r)) := ⟨hstw.touch.setCell (fun hl => absurd hl (by show ¬ w5.heap.size < w.heap.size; omega)) _, hstw.foot⟩
    have kc' : ∀ j, j < 4 → (w7.setCell ⟨w5.heap.size, q, none⟩ (U32 r)).cell? ⟨w5.heap.size, j, none⟩ = some (U32 (setKid (ndAt A.nodes i) q r j)) := fun j hj => by
      rw [cell_of_row _ _ _ _ _ _ hblk8]; exact setKid_cells _ _ _ _ hq4 hj
    have j0 := kc' 0 (by omega)
    have j1 := kc' 1 (by omega)
    have j2 := kc' 2 (by omega)
    have j3 := kc' 3 (by omega)
    clear kc' hblk7 hblk8 hf7 hc7 kc v0 v1 z0 z1 z2 hrec hblk hS6 hT
    generalize w7.setCell ⟨w5.heap.size, q, none⟩ (U32 r) = w8 at *
    rcases hres with ⟨rfl, hrl, hRlv, hRmem⟩ | ⟨rfl, rfl, hfull⟩
    · simp only [errV]
      have hsk : ∀ j, setKid (ndAt A.nodes i) q r j < A'.nodes.length ∧ (ndAt A'.nodes (setKid (ndAt A.nodes i) q r j)).lv = f + 2 := fun j => by
        unfold setKid
        split
        · exact ⟨hrl, hRlv⟩
        · have h1 := Hkl.out j
          have h2 := hext.len
          exact ⟨by omega, by rw [hext.nd (by omega)]; exact h1.2⟩
      have hjoin := join_ret hs8 ok7 (by omega) (L := f + 2) (by omega) (by omega) (hsk 0).1 (hsk 1).1 (hsk 2).1 (hsk 3).1 (hsk 0).2 (hsk 1).2 (hsk 2).2 (hsk 3).2
      clear hsk
      go_wp2_with fail
      refine hjoin.mono ?_
      rintro e w9 ⟨r2, err2, F2, A2, rfl, hs9, ok9, hext9, hst9, hroom9, hres9⟩
      go_wp2
      go_ret2
      refine ⟨r2, err2, F2, A2, rfl, hs9, ok9, hext.trans hext9, hst8.trans hst9, by omega, ?_⟩
      rcases hres9 with ⟨e1, e2, e3⟩ | hres9
      · refine .inl ⟨e1, e2, by rw [e3]; show f + 2 + 1 = f + 1 + 2; omega, Hset.out A2.nodes ok9.wf r2 r e2 (by rw [e3]; rfl) (fun q' hq' => ?_) (fun k a b hk hl => (hext.trans hext9).cl ok.wf a b (by omega) hl) (fun d => ?_)⟩
        · rw [e3]
          have : q' = 0 ∨ q' = 1 ∨ q' = 2 ∨ q' = 3 := by omega
          rcases this with rfl | rfl | rfl | rfl <;> rfl
        · rw [hext9.cl ok7.wf _ _ hrl hRlv]; exact hRmem d
      · exact .inr hres9
    · simp only [errV]
      go_wp2
      go_ret2
      exact ⟨0, some 8, F', A', rfl, hs8, ok7, hext, hst8, by omega, .inr ⟨rfl, rfl, hfull⟩⟩

end Go.Proofs.Ytehmbhdapgkbcaa
