/- Build: the root of a set, of the least level. -/
import Derived.Test.YtehmbhdapgkbcaaBuildJ
namespace Go.Proofs.Ytehmbhdapgkbcaa
open Go.RowKit

/-- The least level of a root (3 to 44) within which cells lie. -/
structure LvOf (l : List Cl) (L : Nat) : Prop where
  lo : 3 ≤ L
  hi : L ≤ 44
  all : ∀ c ∈ l, inside L c.a c.b = true
  least : ∀ M, 3 ≤ M → M < L → ¬ ∀ c ∈ l, inside M c.a c.b = true
theorem LvOf.uniq {l : List Cl} {L M : Nat} (h : LvOf l L) (k : LvOf l M) : L = M := by
  rcases Nat.lt_trichotomy L M with e | e | e
  · exact absurd h.all (k.least L h.lo e)
  · exact e
  · exact absurd k.all (h.least M k.lo e)
theorem LvOf.ext {l m : List Cl} {L : Nat} (h : LvOf l L) (e : ∀ c, c ∈ l ↔ c ∈ m) : LvOf m L :=
  ⟨h.lo, h.hi, fun c hc => h.all c ((e c).2 hc), fun M h1 h2 hh => h.least M h1 h2 fun c hc => hh c ((e c).1 hc)⟩

theorem BoxOf.inside {l : List Cl} {la lb ha hb : Int} (h : BoxOf l la lb ha hb) (L : Nat) : (inside L la lb = true ∧ inside L ha hb = true) ↔ ∀ c ∈ l, inside L c.a c.b = true := by
  simp only [inside_iff]
  constructor
  · rintro ⟨h1, h2⟩ c hc
    have := h.all c hc
    omega
  · intro hall
    obtain ⟨a, a1, a2⟩ := h.la
    obtain ⟨b, b1, b2⟩ := h.lb
    obtain ⟨c, c1, c2⟩ := h.ha
    obtain ⟨d, d1, d2⟩ := h.hb
    have := hall a a1; have := hall b b1; have := hall c c1; have := hall d d1
    have := h.all a a1; have := h.all b b1; have := h.all c c1; have := h.all d d1
    omega

/-- What Build asks of cells. -/
structure SetOk (l : List Cl) : Prop where
  hs : ∀ c ∈ l, 0 ≤ c.h ∧ c.h ≤ 1
  all : ∀ c ∈ l, inside 44 c.a c.b = true
  len : l.length < 10000

theorem SetOk.ext {l m : List Cl} (h : SetOk l) (e : ∀ c, c ∈ m → c ∈ l) (hl : m.length < 10000) : SetOk m := ⟨fun c hc => h.hs c (e c hc), fun c hc => h.all c (e c hc), hl⟩
theorem SetOk.fit {l : List Cl} (h : SetOk l) {c : Cl} (hc : c ∈ l) : c.Fit := by
  have h1 := h.all c hc
  have h2 := h.hs c hc
  have h3 := half_bounds (L := 44) (Nat.le_refl _)
  rw [inside_iff] at h1
  generalize half 44 = z at *
  exact ⟨by omega, by omega, h2.1, h2.2⟩

/-- The root of a set. -/
def BuiltR (l : List Cl) (r : Nat) (A : Ar) : Prop := LvOf l (A.lv r) ∧ ∀ d, d ∈ A.cells r ↔ d ∈ l

theorem emptyR {A : Ar} {r : Nat} (ok : A.Ok) (hr : r < A.nodes.length) (h : EmptyAt 3 r A) : BuiltR [] r A := by
  refine ⟨?_, fun d => ?_⟩
  · have : A.lv r = 3 := h.1
    rw [this]
    exact ⟨by omega, by omega, fun c hc => by simp at hc, fun M h1 h2 => by omega⟩
  · unfold Ar.cells
    rw [show A.lv r = 3 from h.1, (cl_nil ok.wf hr (by rw [h.1])).1 h.2]

theorem buildR {l : List Cl} {A : Ar} {L r : Nat} {ps : List (Int × Int)} (hl : SetOk l) (hL : LvOf l L) (hps : ∀ q, q ∈ ps ↔ ∃ c ∈ l, c.a / 4 * 4 = q.1 ∧ c.b / 4 * 4 = q.2)
    (h : BuildR (leafFn l) (L - 2) (-half L) (-half L) ps r A) : BuiltR l r A := by
  have hlo := hL.lo
  have hlv : A.lv r = L := by have := h.1; unfold Ar.lv; omega
  refine ⟨by rw [hlv]; exact hL, fun d => ?_⟩
  unfold Ar.cells
  rw [hlv, h.2]
  have hs := leafFn_spec l (fun c hc => hl.fit hc)
  constructor
  · rintro ⟨q, _, hd⟩
    exact ((hs q.1 q.2).2.2 d).1 hd |>.1
  · intro hd
    exact ⟨(d.a / 4 * 4, d.b / 4 * 4), (hps _).2 ⟨d, hd, rfl, rfl⟩, ((hs _ _).2.2 d).2 ⟨hd, rfl, rfl⟩⟩

theorem build_empty {w : World} {p : Nat} {F : Foot} {A : Ar} {v : Value} (h : ArS w p F A) (ok : A.Ok) (hn : A.room < 2147483647) (hv : CellRow w v []) :
    Calls Try.prog 19 #[.pointer (some ⟨p, 0, none⟩), v] w (Ret p F A 0 (BuiltR []) w) := by
  have hbox := box_none hv
  have hemp := fun W (hW : ArS W p F A) => empty_any hW ok hn (level := 3) (by omega) (by omega)
  go_enter Try.func19, Try.ntmps19
  go_wp2_with fail
  refine hbox.mono ?_
  rintro e w1 ⟨rfl, hb1⟩
  have hB2 : Below w.heap.size w (w1.alloc (.cells #[.int .i64 0, .int .i64 0, .int .i64 0, .int .i64 0] 53)) := hb1.alloc hb1.size _
  have hS2 := h.new hB2
  clear hbox
  go_wp2_with fail
  refine (hemp _ hS2).mono ?_
  rintro e w2 hret
  have hfin : Ret p F A 0 (BuiltR []) w e w2 := (hret.mono (R' := BuiltR []) (fun r A' ok' _ hr h => emptyR ok' hr h) (Nat.le_refl _)).back hB2
  obtain ⟨r, err, F', A', rfl, -⟩ := hret
  go_wp2
  go_ret2
  exact hfin

/-- Points that a range has given: those that are no longer to come. -/
structure Given (D : DataW Unit) (left : Lit → Bool) (ps : List (Int × Int)) : Prop where
  mem : ∀ x y, I64 x → I64 y → ((x, y) ∈ ps ↔ Maps.has D (klp x y) = true ∧ left (klp x y) = false)
  nd : ps.Nodup
  fit : ∀ q ∈ ps, I64 q.1 ∧ I64 q.2

theorem Given.start (D : DataW Unit) : Given D (Maps.has D) [] := ⟨fun x y _ _ => by simp, List.nodup_nil, fun q hq => by simp at hq⟩

theorem Given.step {D : DataW Unit} {left : Lit → Bool} {ps : List (Int × Int)} (h : Given D left ps) {x y : Int} (hx : I64 x) (hy : I64 y) (hl : left (klp x y) = true) (hh : Maps.has D (klp x y) = true) :
    Given D (fun z => left z && !z.sameKey (klp x y)) (ps ++ [(x, y)]) := by
  refine ⟨fun a b ha hb => ?_, ?_, fun q hq => ?_⟩
  · rw [List.mem_append, h.mem a b ha hb, List.mem_singleton]
    by_cases e : a = x ∧ b = y
    · obtain ⟨rfl, rfl⟩ := e
      have : (klp a b).sameKey (klp a b) = true := WideAt.sameKey_self (lawPt.key (keyOf_pt ha hb))
      simp [this, hh]
    · have hne : (klp a b).sameKey (klp x y) = false := by
        cases hs : (klp a b).sameKey (klp x y)
        · rfl
        · exact absurd (klp_inj ha hb hx hy (WideAt.sameKey_eq hs)) e
      have he : ¬ (a, b) = (x, y) := fun h => e (by simpa using h)
      simp [hne, he]
  · rw [List.nodup_append]
    refine ⟨h.nd, by simp, ?_⟩
    rintro q hq r hr rfl
    rw [List.mem_singleton] at hr
    subst hr
    have := (h.mem x y hx hy).1 hq
    rw [hl] at this
    cases this.2
  · rcases List.mem_append.1 hq with hq | hq
    · exact h.fit q hq
    · rw [List.mem_singleton] at hq; subst hq; exact ⟨hx, hy⟩


set_option maxHeartbeats 8000000 in
set_option maxRecDepth 100000 in
theorem build_set {w : World} {p : Nat} {F : Foot} {A : Ar} {v : Value} {l : List Cl} (h : ArS w p F A) (ok : A.Ok) (hl : SetOk l) (h0 : l ≠ []) (hn : A.room + l.length * 43 < 2147483647) (hv : CellRow w v l) :
    Calls Try.prog 19 #[.pointer (some ⟨p, 0, none⟩), v] w (Ret p F A (l.length * 43) (BuiltR l) w) := by
  have hlen := hl.len
  have hpos : 0 < l.length := List.length_pos_iff.2 h0
  have hbox := box_some hv (by omega) hpos
  have hfits : ∀ c ∈ l, c.Fit := fun c hc => hl.fit hc
  have Hl := Lib.hid hl
  have Hv := Lib.hid hv
  have Hfits := Lib.hid hfits
  clear hl hv hfits h0
  go_enter Try.func19, Try.ntmps19
  go_wp2_with fail
  refine hbox.mono ?_
  rintro e w1 ⟨la, lb, ha, hb, rfl, hbo, hb1⟩
  have hin := hbo.inside
  have Hin := Lib.hid hin
  clear hbox hin hbo
  have hlvl := level_any la lb ha hb
  go_wp2_with fail
  have hB2 : Below w.heap.size w (w1.alloc (.cells #[.int .i64 la, .int .i64 lb, .int .i64 ha, .int .i64 hb] 53)) := hb1.alloc hb1.size _
  have hx2 : (w1.alloc (.cells #[.int .i64 la, .int .i64 lb, .int .i64 ha, .int .i64 hb] 53)).heap[w1.heap.size]? = some (.cells #[.int .i64 la, .int .i64 lb, .int .i64 ha, .int .i64 hb] 53 (0, 0)) := heap_alloc_new _ _
  have hz1 := hb1.size
  generalize w1.alloc (.cells #[.int .i64 la, .int .i64 lb, .int .i64 ha, .int .i64 hb] 53) = W2 at *
  refine (hlvl _).mono ?_
  rintro e w3 ⟨L, rfl, hL, hb3⟩
  have hlvof : LvOf l L := by
    obtain ⟨q1, q2, q3, q4⟩ := hL
    have hall : ∀ c ∈ l, inside L c.a c.b = true := by
      rcases Nat.lt_or_ge L 44 with q | q
      · exact (Hin.out L).1 (q3 q)
      · obtain rfl : L = 44 := by omega
        exact Hl.out.all
    exact ⟨q1, q2, hall, fun M h1 h2 hh => q4 M h1 h2 ((Hin.out M).2 hh)⟩
  obtain ⟨hi1, hi2⟩ := (Hin.out L).2 hlvof.all
  have hlo := hlvof.lo
  have hhi := hlvof.hi
  have hins1 := inside_any L (by omega) hhi la lb
  have hins2 := inside_any L (by omega) hhi ha hb
  rw [hi1] at hins1
  rw [hi2] at hins2
  have Hlv := Lib.hid hlvof
  clear hlvl hL hi1 hi2 hlvof
  have hx3 : w3.heap[w1.heap.size]? = some (.cells #[.int .i64 la, .int .i64 lb, .int .i64 ha, .int .i64 hb] 53 (0, 0)) := (hb3.block _ (lt_of_block hx2)).trans hx2
  have hB3 := hB2.trans (hb3.mono hB2.size)
  have c0 : w3.cell? ⟨w1.heap.size, 0, none⟩ = some (.int .i64 la) := by rw [cell_of_row _ _ _ _ _ _ hx3]; rfl
  have c1 : w3.cell? ⟨w1.heap.size, 1, none⟩ = some (.int .i64 lb) := by rw [cell_of_row _ _ _ _ _ _ hx3]; rfl
  clear hB2 hb3 hx2
  go_wp2_with fail
  refine (hins1 _).mono ?_
  rintro e w4 ⟨rfl, hb4⟩
  have hx4 : w4.heap[w1.heap.size]? = some (.cells #[.int .i64 la, .int .i64 lb, .int .i64 ha, .int .i64 hb] 53 (0, 0)) := (hb4.block _ (lt_of_block hx3)).trans hx3
  have hB4 := hB3.trans (hb4.mono hB3.size)
  have d0 : w4.cell? ⟨w1.heap.size, 2, none⟩ = some (.int .i64 ha) := by rw [cell_of_row _ _ _ _ _ _ hx4]; rfl
  have d1 : w4.cell? ⟨w1.heap.size, 3, none⟩ = some (.int .i64 hb) := by rw [cell_of_row _ _ _ _ _ _ hx4]; rfl
  clear hins1 c0 c1 hB3 hb4 hx3
  go_wp2_with fail
  refine (hins2 _).mono ?_
  rintro e w5 ⟨rfl, hb5⟩
  have hB5 := hB4.trans (hb5.mono hB4.size)
  have hv5 : CellRow w5 v l := Hv.out.move (S := Only) (.of_new hB5) fun _ _ h => h
  have hleaves := leaves_any hv5 (by omega) Hfits.out
  clear hins2 d0 d1 hB4 hx4 hb5 hv5
  go_wp2_with fail
  refine hleaves.mono ?_
  rintro e w6 ⟨b, rfl, hmap, hb6, hbnew⟩
  have hB6 := hB5.trans (hb6.mono hB5.size)
  have hbw : w.heap.size ≤ b := Nat.le_trans hB5.size hbnew
  clear hB5 hb6 hleaves hbnew
  obtain ⟨D, hown, hg⟩ := hmap
  have Hg := Lib.hid hg
  clear hg
  go_wp2_with (first
    | (at_range; refine wpList_range_own _ rfl _ 99 rfl 38 80 lawPt Try.underlying99 _ b l.length D rfl hown ?_; intro w7 hrg7 hg7 hs7)
    | go_in)
  go_frame
  have hsz := hown.size_le
  have hB7 : Below w.heap.size w w7 := hB6.grown hg7 hB6.size (fun j hj => by cases hj)
  have hz6 := hB6.size
  have hr6 : w.heap.size ≤ w6.heap.size := hB6.size
  clear hown hg7 hs7 hB6
  obtain ⟨i0, hi0, hz0, hz1, hz2⟩ := info_parts infoPt
  go_loopg [10] (Maps.size D) (fun m s10 wr => ∃ (left : Lit → Bool) (cnt : Nat) (ps : List (Int × Int)), m = cnt ∧ wr.ranges Try.prog 38 (plainElem Try.prog 80) b w6.heap.size l.length D left cnt ∧ PtRow wr s10 ps ∧
    (∀ k, s10.ownBlock = some k → w.heap.size ≤ k) ∧ Given D left ps ∧ ps.length + cnt ≤ Maps.size D ∧ Below w.heap.size w wr)
  case atStart => exact ⟨Maps.has D, Maps.size D, [], rfl, hrg7, World.ownsRow_nil _ _ _ _, (fun k hk => by cases hk), Given.start D, by simp, hB7⟩
  case round =>
    clear hrg7 hB7
    obtain ⟨left, cnt, ps, hm, hrg, hrow, hnw, hgiv, hcs, hB⟩ := hrel
    have Hgiv := Lib.hid hgiv
    have Hnw := Lib.hid hnw
    clear hgiv hnw
    go_wp2_with (first
      | (at_next; refine wpList_next_ranges _ rfl _ rfl 38 lawPt (plainElem Try.prog 80) (fun q : Int × Int => .agg #[.int .i64 q.1, .int .i64 q.2]) (fun c : Int => .int .u32 c)
          (fun key kl hk => by obtain ⟨x, y, rfl, -⟩ := keyOf_pt_inv hk; exact ⟨(x, y), rfl⟩) (fun v y hv => by obtain ⟨c, rfl, -⟩ := plainElem_int_inv Try.underlying80 hv; exact ⟨c, rfl⟩) b w6.heap.size l.length D left cnt rfl hrg ?_ ?_)
      | go_in)
    · intro hc0 hl0
      have hpsl : ps.length ≤ l.length := by omega
      have hH := half_bounds hhi
      have hps : ∀ q, q ∈ ps ↔ ∃ c ∈ l, c.a / 4 * 4 = q.1 ∧ c.b / 4 * 4 = q.2 := fun q => by
        have hspec := fun x y => (leafFn_spec l Hfits.out x y).2.1
        constructor
        · intro hq
          have hf := Hgiv.out.fit q hq
          have h1 := ((Hgiv.out.mem q.1 q.2 hf.1 hf.2).1 hq).1
          rw [(Hg.out q.1 q.2 hf.1 hf.2).1] at h1
          exact (hspec _ _).1 h1
        · rintro ⟨c, hc, e1, e2⟩
          have hf := Hfits.out c hc
          have h1 : I64 q.1 := by have := hf.a; unfold I64; omega
          have h2 : I64 q.2 := by have := hf.b; unfold I64; omega
          refine (Hgiv.out.mem q.1 q.2 h1 h2).2 ⟨?_, hl0 _⟩
          rw [(Hg.out q.1 q.2 h1 h2).1]
          exact (hspec _ _).2 ⟨c, hc, e1, e2⟩
      have hp2 : (2 : Int) ^ (L - 2 + 2) = 2 * half L := by rw [show L - 2 + 2 = L by omega]; exact half_two (by omega)
      have hh4 := half_four hlo
      have hin : ∀ q ∈ ps, InP (L - 2) (-half L) (-half L) q := fun q hq => by
        obtain ⟨c, hc, e1, e2⟩ := (hps q).1 hq
        have h1 := Hlv.out.all c hc
        rw [inside_iff] at h1
        unfold InP
        rw [hp2]
        omega
      have hmapr : PtMap wr b l.length (leafFn l) := ⟨D, hrg.owns, Hg.out⟩
      have hFlt := fun k (hk : F.at p k) => h.toArM.foot_lt hk
      have hmul : ps.length * (L - 2 + 1) ≤ l.length * 43 := Nat.mul_le_mul hpsl (by omega)
      have hbld : ∀ W, Below w.heap.size w W → Below wr.heap.size wr W → BldOk W p F A u10 ps b l.length (leafFn l) (L - 2) (-half L) (-half L) := fun W hW hW2 =>
        ⟨h.new hW, ok, hrow.move (S := Only) (.of_new hW2) (fun _ _ h => h), hmapr.new hW2, fun k hk h => by have := Hnw.out k hk; have := hFlt k h; omega, fun h => by have := hFlt b h; omega, Hgiv.out.nd, hin,
          fun q _ => (leafFn_spec l Hfits.out _ _).1, by omega, by omega, by omega, by rw [hp2]; omega, by omega, by rw [hp2]; omega, by omega, by omega⟩
      have hbuild : ∀ W, Below w.heap.size w W → Below wr.heap.size wr W → Calls Try.prog 51 #[.pointer (some ⟨p, 0, none⟩), .int .i64 L, ptV (-half L) (-half L), u10, .map (some b)] W (Ret p F A (l.length * 43) (BuiltR l) W) := fun W hW hW2 =>
        (build_any (L - 2) (by omega) W F A u10 ps (-half L) (-half L) (hbld W hW hW2) L (by omega)).mono fun e w' hr => hr.mono (fun r A' _ _ _ hR => buildR Hl.out Hlv.out hps hR) hmul
      have horg := origin_any L (by omega) hhi
      clear hps hin hmapr hmul hbld hp2 hh4 hl0 hc0 hrow hrg hH
      go_wp2_with fail
      refine (horg _).mono ?_
      rintro e w9 ⟨rfl, hb9⟩
      have hB9 := hB.trans (hb9.mono hB.size)
      have hb := hbuild w9 hB9 hb9
      clear hbuild horg
      go_wp2_with fail
      refine hb.mono ?_
      rintro e w10 hret
      have hfin := hret.back hB9
      obtain ⟨r, err, F', A', rfl, -⟩ := hret
      go_wp2
      go_ret2
      exact hfin
    · intro qa qb c kl yd yp w8 cnt8 hkey hlx hRv hat hrg8 hlt hg8 hs8 hen
      obtain ⟨qa', qb', hq, hqa, hqb, rfl⟩ := keyOf_pt_inv hkey
      simp at hq
      obtain ⟨rfl, rfl⟩ := hq
      have hhas := Maps.has_true_of_atKey hat
      have hnext := Hgiv.out.step hqa hqb hlx hhas
      have Hnext := Lib.hid hnext
      have hrow8 : PtRow w8 u10 ps := hrow.move ((Touch.refl (fun k => k = w6.heap.size) wr).grown hg8 (fun k hk _ => by cases hk; rfl)) (fun k hk e => by
        obtain ⟨cur, hc⟩ := hrow.heap hk
        obtain ⟨es, clock, since, seen, c0, _, _, _, _, hr, _⟩ := hrg
        rw [e, hr] at hc
        cases hc)
      have hB8 : Below w.heap.size w w8 := hB.grown hg8 hB.size (fun j hj => by cases hj; exact hr6)
      clear hnext hat hRv hkey hlx hhas hrow hrg
      have hbmap : ∀ k, u10.ownBlock = some k → k ≠ b := fun k hk e => by
        obtain ⟨cur, hc⟩ := hrow8.heap hk
        obtain ⟨es, clock, hbb, -⟩ := hrg8.owns
        rw [e, hbb] at hc
        cases hc
      have hbit : ∀ k, u10.ownBlock = some k → k ≠ w6.heap.size := fun k hk e => by
        obtain ⟨cur, hc⟩ := hrow8.heap hk
        obtain ⟨es, clock, since, seen, c0, _, _, _, _, hr, _⟩ := hrg8
        rw [e, hr] at hc
        cases hc
      obtain ⟨va, vc, rfl, hvm⟩ := hrow8.slice
      have hnews : ((w8.alloc (.cells #[.int .i64 qa, .int .i64 qb] 38)).alloc (.cells #[.int .i64 qa, .int .i64 qb] 38)).heap[w8.heap.size + 1]? = some (.cells #[.int .i64 qa, .int .i64 qb] 38 (0, 0)) := by
        rw [← World.size_alloc w8 (.cells #[.int .i64 qa, .int .i64 qb] 38)]; exact heap_alloc_new _ _
      have hrl := hrg8.lt
      have hbl := hrg8.owns.lt
      have hps : ps.length ≤ 10000 := by omega
      clear hs8 hg8
      go_wp2_with (refine wpList_append_lies _ rfl _ _ 101 rfl 0 38 i0 _ 2 16 Try.underlying101 hi0 hz0 hz1 hz2 rfl (by omega) (.slice va ps.length vc) ps.length (ps.flatMap ptCells) rfl ((hrow8.alloc _).alloc _) ⟨w8.heap.size + 1, 0, none⟩ 1 1 [.int .i64 qa, .int .i64 qb] rfl rfl (World.news_of_block (cs := #[.int .i64 qa, .int .i64 qb]) (t := 38) (fr := (0, 0)) hnews) (by simp [Value.oneCell']) (by omega) (by unfold maxLen; omega) (by omega) (Nat.zero_le _) (w8.heap.size + 1 + 1) (by simp) ?_; intro gg cap w9 hown9 hgrow hat hlt9)
      have hrg9 := ((hrg8.alloc (.cells #[.int .i64 qa, .int .i64 qb] 38)).alloc (.cells #[.int .i64 qa, .int .i64 qb] 38)).kept hgrow (fun e => hbmap b e.symm rfl) (fun e => hbit _ e.symm rfl)
      have hB9 : Below w.heap.size w w9 := ((hB8.alloc hB8.size _).alloc (by have := hB8.size; simp; omega) _).grown hgrow (by have := hB8.size; simp; omega) (fun j hj => Hnw.out j hj)
      have hnew9 : ∀ k, (Value.slice (some ⟨gg, 0, none⟩) (ps.length + 1) cap).ownBlock = some k → w.heap.size ≤ k := fun k hk => by
        cases hk
        rcases hat with hat | hat
        · exact Hnw.out _ hat
        · have := hB8.size; show w.heap.size ≤ gg; omega
      have hrow9 : PtRow w9 (.slice (some ⟨gg, 0, none⟩) (ps.length + 1) cap) (ps ++ [(qa, qb)]) := by simpa [PtRow, ptCells] using hown9
      clear hgrow hat hown9 hrg8 hnews hrow8 hbmap hbit hen
      go_wp2
      go_roundg cnt8
      case measure => omega
      case rel => exact ⟨_, cnt8, ps ++ [(qa, qb)], rfl, hrg9, hrow9, hnew9, Hnext.out, by simp; omega, hB9⟩

end Go.Proofs.Ytehmbhdapgkbcaa
