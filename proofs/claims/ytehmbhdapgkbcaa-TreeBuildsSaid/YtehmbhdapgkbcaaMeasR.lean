/- measure: the walk. -/
import Derived.Test.YtehmbhdapgkbcaaMeas
import Derived.Test.YtehmbhdapgkbcaaGetB
namespace Go.Proofs.Ytehmbhdapgkbcaa
open Go.RowKit

abbrev zeroE : Obj := .cells #[.int .i64 0, .int .i64 0, .int .i64 0, .int .i64 0] 104

/-- What measure leaves. -/
def MeasPost (A : Ar) (f i b : Nat) (g : Nat → Option Value) (w : World) (e : Ending) (w' : World) : Prop :=
  ∃ la lb ha hb g', e = .returned (edgV la lb ha hb) ∧ BoxOf (cl A.nodes f i 0 0) la lb ha hb ∧ UMap w' b (dom A.nodes.length g') g' ∧ EdgeMap A.nodes g' ∧ (∀ k, i < k → g' k = g k) ∧ Touch (fun k => k = b) w w'

/-- What measure asks. -/
structure MeasOk (w : World) (p : Nat) (F : Foot) (A : Ar) (f i b : Nat) (g : Nat → Option Value) : Prop where
  ar : ArS w p F A
  ok : A.Ok
  lt : i < A.nodes.length
  lv : (ndAt A.nodes i).lv = f + 2
  ne : cl A.nodes f i 0 0 ≠ []
  map : UMap w b (dom A.nodes.length g) g
  edge : EdgeMap A.nodes g
  few : A.nodes.length < 100000000

theorem ArM.notMap {w : World} {p : Nat} {F : Foot} {A : Ar} (h : ArM w p F A) {b n : Nat} {g : Nat → Option Value} (hm : UMap w b n g) : ¬ F.at p b := by
  obtain ⟨es, clock, hb⟩ := hm.block
  rintro (rfl | h' | h' | h')
  · rw [h.obj] at hb; cases hb
  · obtain ⟨c, hc⟩ := h.nodes.heap h'; rw [hc] at hb; cases hb
  · obtain ⟨c, hc⟩ := h.slots.heap h'; rw [hc] at hb; cases hb
  · obtain ⟨c, hc⟩ := h.empty.heap h'; rw [hc] at hb; cases hb

set_option maxHeartbeats 2000000 in
theorem measure_known {w : World} {p : Nat} {F : Foot} {A : Ar} {f i b : Nat} {g : Nat → Option Value} (h : MeasOk w p F A f i b g) {v : Value} (hv : g i = some v) (l : Int) :
    Calls Try.prog 52 #[.pointer (some ⟨p, 0, none⟩), .int .u32 i, .int .i64 l, .map (some b)] w (MeasPost A f i b g w) := by
  obtain ⟨f', la, lb, ha, hb, e1, rfl, hbo⟩ := h.edge i v hv
  obtain rfl : f' = f := by have := h.lv; omega
  have hm1 := h.map.new ((Below.refl _ _).alloc (Nat.le_refl _) zeroE)
  have hlk := hm1.look_ok (t := 106) Try.underlying106 (zeroEdges _) (k := i) (by have := h.lt; have := h.few; omega)
  rw [hv] at hlk
  have H := Lib.hid h
  clear h hv hm1 e1
  simp only [Option.getD_some, Option.isSome_some] at hlk
  go_enter Try.func52, Try.ntmps52
  go_wp2_with fail
  have hBf : Below w.heap.size w ((w.alloc (.cells #[.int .i64 la, .int .i64 lb, .int .i64 ha, .int .i64 hb] 104)).alloc (.cells #[.int .i64 la, .int .i64 lb, .int .i64 ha, .int .i64 hb] 104)) := ((Below.refl _ _).alloc (Nat.le_refl _) _).alloc (by simp) _
  exact bodyPost_ret (v := edgV la lb ha hb) (by simp [results, Try.results52, go_sem]) rfl ⟨la, lb, ha, hb, g, rfl, hbo, H.out.map.new hBf, H.out.edge, fun _ _ => rfl, .of_new hBf⟩

set_option maxHeartbeats 4000000 in
theorem measure_leaf {w : World} {p : Nat} {F : Foot} {A : Ar} {i b : Nat} {g : Nat → Option Value} (h : MeasOk w p F A 0 i b g) (hv : g i = none) :
    Calls Try.prog 52 #[.pointer (some ⟨p, 0, none⟩), .int .u32 i, .int .i64 2, .map (some b)] w (MeasPost A 0 i b g w) := by
  have hlt := h.lt
  have hfew := h.few
  have hm1 := h.map.new ((Below.refl _ _).alloc (Nat.le_refl _) zeroE)
  have hlk := hm1.look_ok (t := 106) Try.underlying106 (zeroEdges _) (k := i) (by omega)
  rw [hv] at hlk
  have hb32 := (h.ok.wf.leafOf hlt h.lv).1
  have hne : leafCl (ndAt A.nodes i).bits 0 0 ≠ [] := h.ne
  have hbits := fun W (hW : ArS W p F A) => hW.toArM.bits (i := i) (by omega)
  have hedge := leafEdges_any (ndAt A.nodes i).bits hb32 hne
  have hA2 := h.ar.new (((Below.refl _ _).alloc (Nat.le_refl _) zeroE).alloc (by simp) zeroE)
  have H := Lib.hid h
  have hclq : cl A.nodes 0 i 0 0 = leafCl (ndAt A.nodes i).bits 0 0 := rfl
  generalize (ndAt A.nodes i).bits = bt at hbits hedge hclq
  have Hcl := Lib.hid hclq
  clear hclq
  have hblk : ((w.alloc zeroE).alloc zeroE).heap[w.heap.size]? = some (.cells #[.int .i64 0, .int .i64 0, .int .i64 0, .int .i64 0] 104 (0, 0)) := (Below.heap_alloc _ _ _ (by simp)).trans (heap_alloc_new _ _)
  have hB1 : Below w.heap.size w ((w.alloc zeroE).alloc zeroE) := ((Below.refl _ _).alloc (Nat.le_refl _) zeroE).alloc (by simp) zeroE
  have hz1 : w.heap.size + 2 ≤ ((w.alloc zeroE).alloc zeroE).heap.size := by rw [World.size_alloc, World.size_alloc]; omega
  simp only [Option.getD_none, Option.isSome_none] at hlk
  clear h hv hm1 hne
  go_enter Try.func52, Try.ntmps52
  go_wp2_with fail
  generalize ((w.alloc zeroE).alloc zeroE) = W1 at *
  refine (hbits _ hA2).mono ?_
  rintro e w1 ⟨rfl, rfl⟩
  clear hbits
  go_wp2_with fail
  refine (hedge _).mono ?_
  rintro e w2 ⟨la, lb, ha, hb, rfl, hbo, hB2⟩
  have hblk2 := (hB2.block w.heap.size (by omega)).trans hblk
  obtain ⟨c0, c1, c2, c3⟩ := four_cells hblk2
  have fz : ∀ j, w2.frozen? ⟨w.heap.size, j, none⟩ = false := fun j => frozen_of_row _ _ _ _ _ hblk2
  have hB3 : Below w.heap.size w w2 := hB1.trans (hB2.mono (by omega))
  clear hedge
  go_wp2_with fail
  have hf := set4_block hblk2 la lb ha hb
  have hBf : Below w.heap.size w (set4 _ w.heap.size la lb ha hb) := hB3.trans ((set4_touch _ w.heap.size la lb ha hb).below0 (B := w.heap.size) (fun k hk => by omega) hB3.size)
  obtain ⟨q0, q1, q2, q3⟩ := four_cells hf
  exact bodyPost_ret (v := edgV la lb ha hb) (by simp [results, Try.results52, go_sem, q0, q1, q2, q3]) rfl ⟨la, lb, ha, hb, g, rfl, by rw [Hcl.out]; exact hbo, H.out.map.new hBf, H.out.edge, fun _ _ => rfl, .of_new hBf⟩

set_option maxHeartbeats 8000000 in
set_option maxRecDepth 100000 in
theorem measure_join {f : Nat} (hf : f + 1 ≤ 42)
    (ih : ∀ {w : World} {p : Nat} {F : Foot} {A : Ar} {i b : Nat} {g : Nat → Option Value} (_ : MeasOk w p F A f i b g) (l : Int) (_ : l = f + 2), Calls Try.prog 52 #[.pointer (some ⟨p, 0, none⟩), .int .u32 i, .int .i64 l, .map (some b)] w (MeasPost A f i b g w))
    {w : World} {p : Nat} {F : Foot} {A : Ar} {i b : Nat} {g : Nat → Option Value} (h : MeasOk w p F A (f + 1) i b g) (hv : g i = none) (l : Int) (hl : l = f + 3) :
    Calls Try.prog 52 #[.pointer (some ⟨p, 0, none⟩), .int .u32 i, .int .i64 l, .map (some b)] w (MeasPost A (f + 1) i b g w) := by
  have hlt := h.lt
  have hfew := h.few
  have hm1 := h.map.new ((Below.refl _ _).alloc (Nat.le_refl _) zeroE)
  have hlk := hm1.look_ok (t := 106) Try.underlying106 (zeroEdges _) (k := i) (by omega)
  rw [hv] at hlk
  have hkids := fun W (hW : ArS W p F A) => hW.toArM.kids (i := i) (by omega)
  have hA2 := h.ar.new (((Below.refl _ _).alloc (Nat.le_refl _) zeroE).alloc (by simp) zeroE)
  have hne2 : (l == 2) = false := by rw [beq_eq_false_iff_ne]; omega
  have hls : IntKind.i64.wrap (l - 1) = f + 2 := by rw [IntWalk.i64_in] <;> omega
  have hls2 : RowKit.wrap64 (l - 1) = f + 2 := by rw [RowKit.wrap64]; omega
  have H := Lib.hid h
  have Hv := Lib.hid hv
  obtain ⟨z, hzd⟩ : ∃ z : Int, (2 : Int) ^ (f + 2) = z := ⟨_, rfl⟩
  have hzp : 0 < z := by rw [← hzd]; exact Int.pow_pos (by omega)
  have hzb : z ≤ 8796093022208 := by
    rw [← hzd, ← half_pow]
    exact (half_bounds (L := f + 2 + 1) (by omega)).2
  have hsh : RowKit.wrap64 ((2 : Int) ^ (f + 2)) = z := by rw [hzd, RowKit.wrap64]; omega
  have hw2 : RowKit.wrap64 (2 * z) = 2 * z := by rw [RowKit.wrap64]; omega
  have hw3 : IntKind.i64.wrap (2 * z) = 2 * z := IntWalk.i64_in _ (by omega)
  have Hsh := Lib.hid hsh
  have Hzd := Lib.hid hzd
  clear hsh hzd
  have hblk : ((w.alloc zeroE).alloc zeroE).heap[w.heap.size]? = some (.cells #[.int .i64 0, .int .i64 0, .int .i64 0, .int .i64 0] 104 (0, 0)) := (Below.heap_alloc _ _ _ (by simp)).trans (heap_alloc_new _ _)
  have hB1 : Below w.heap.size w ((w.alloc zeroE).alloc zeroE) := ((Below.refl _ _).alloc (Nat.le_refl _) zeroE).alloc (by simp) zeroE
  have hz1 : ((w.alloc zeroE).alloc zeroE).heap.size = w.heap.size + 1 + 1 := by rw [World.size_alloc, World.size_alloc]
  simp only [Option.getD_none, Option.isSome_none] at hlk
  clear h hv hm1 hl
  go_enter Try.func52, Try.ntmps52
  go_upto_region 7 with (fail)
  rw [Hsh.out]
  have hA3 := hA2.alloc (.cells #[.int .i64 (2 * z), .int .i64 (2 * z), .int .i64 (-1), .int .i64 (-1)] 104)
  have hblkR : (((w.alloc zeroE).alloc zeroE).alloc (.cells #[.int .i64 (2 * z), .int .i64 (2 * z), .int .i64 (-1), .int .i64 (-1)] 104)).heap[w.heap.size]? = some (.cells #[.int .i64 0, .int .i64 0, .int .i64 0, .int .i64 0] 104 (0, 0)) := (Below.heap_alloc _ _ _ (by omega)).trans hblk
  have hblkO : (((w.alloc zeroE).alloc zeroE).alloc (.cells #[.int .i64 (2 * z), .int .i64 (2 * z), .int .i64 (-1), .int .i64 (-1)] 104)).heap[w.heap.size + 1 + 1]? = some (.cells #[.int .i64 (2 * z), .int .i64 (2 * z), .int .i64 (-1), .int .i64 (-1)] 104 (0, 0)) := by rw [← hz1]; exact heap_alloc_new _ _
  have hB3 : Below w.heap.size w (((w.alloc zeroE).alloc zeroE).alloc (.cells #[.int .i64 (2 * z), .int .i64 (2 * z), .int .i64 (-1), .int .i64 (-1)] 104)) := hB1.alloc (by omega) _
  have hz3 : (((w.alloc zeroE).alloc zeroE).alloc (.cells #[.int .i64 (2 * z), .int .i64 (2 * z), .int .i64 (-1), .int .i64 (-1)] 104)).heap.size = w.heap.size + 1 + 1 + 1 := by rw [World.size_alloc, hz1]
  have hk3 := hkids _ hA3
  clear hblk hB1 hz1 hA2 hkids hlk
  go_wp2_with fail
  generalize (((w.alloc zeroE).alloc zeroE).alloc (.cells #[.int .i64 (2 * z), .int .i64 (2 * z), .int .i64 (-1), .int .i64 (-1)] 104)) = W3 at *
  refine hk3.mono ?_
  rintro e w4 ⟨rfl, hB4⟩
  clear hk3
  have hA4 := hA3.new hB4
  have hR4 := (hB4.block w.heap.size (by omega)).trans hblkR
  have hO4 := (hB4.block (w.heap.size + 1 + 1) (by omega)).trans hblkO
  have hB5 : Below w.heap.size w w4 := hB3.trans (hB4.mono (by omega))
  have hm4 := H.out.map.new hB5
  have he4 := H.out.edge
  have hz4 : w.heap.size + 1 + 1 < w4.heap.size := by have := hB4.size; omega
  have hlv := H.out.lv
  have hok := H.out.ok
  have hT4 : Touch (fun k => k = b) w w4 := .of_new hB5
  have hbw := H.out.map.lt
  clear hA3 hblkR hblkO hB3 hz3 hB4 hB5
  go_wp2_with fail
  go_loopg [43] 4 (fun m s43 wr => ∃ (q : Nat) (la lb ha hb : Int) (g' : Nat → Option Value), m = 4 - q ∧ q ≤ 4 ∧ s43 = .int .i64 q ∧ ArS wr p F A ∧ UMap wr b (dom A.nodes.length g') g' ∧ EdgeMap A.nodes g' ∧ (∀ k, i ≤ k → g' k = g k) ∧
    wr.heap[w.heap.size + 1 + 1]? = some (.cells #[.int .i64 la, .int .i64 lb, .int .i64 ha, .int .i64 hb] 104 (0, 0)) ∧ wr.heap[w.heap.size]? = some (.cells #[.int .i64 0, .int .i64 0, .int .i64 0, .int .i64 0] 104 (0, 0)) ∧
    Sofar (upTo A.nodes (ndAt A.nodes i) f q) (2 * z) la lb ha hb ∧ Touch (fun k => k = b) w wr)
  case atStart => exact ⟨0, 2 * z, 2 * z, -1, -1, g, by omega, by omega, rfl, hA4, hm4, he4, fun _ _ => rfl, hO4, hR4, .inl ⟨rfl, rfl, rfl, rfl, rfl⟩, hT4⟩
  case round =>
    clear hA4 hm4 he4 hO4 hR4 hT4 hz4
    obtain ⟨q, la, lb, ha, hb, g', hm, hq4, rfl, hA, hmap, hedge, hsame, hO, hR, hsof, hT⟩ := hrel
    by_cases hq : q = 4
    · have hge : ¬ ((q : Int) < 4) := by omega
      have hdl := dom_le A.nodes.length g'
      have hgi : g' i = none := (hsame i (Nat.le_refl _)).trans Hv.out
      have hbo : BoxOf (cl A.nodes (f + 1) i 0 0) la lb ha hb := by
        rw [hq, upTo_four] at hsof
        rcases hsof with ⟨h0, _⟩ | h
        · exact absurd h0 H.out.ne
        · exact h
      obtain ⟨w9, hrun, hm9, hg9⟩ := hmap.put (by omega) (t := 106) Try.underlying106 (k := i) (by omega) (edgV la lb ha hb)
      rw [← dom_put hlt hgi (edgV la lb ha hb)] at hm9
      have he9 := hedge.put (i := i) (f := f + 1) hlv hbo
      have hT9 : Touch (fun k => k = b) w w9 := hT.grown hg9 (fun k hk _ => by cases hk; rfl)
      have hO9 := (hg9.block _ (lt_of_block hO) (fun e => by cases e; omega)).trans hO
      have hR9 := (hg9.block _ (lt_of_block hR) (fun e => by cases e; omega)).trans hR
      obtain ⟨o0, o1, o2, o3⟩ := four_cells hO
      obtain ⟨p0, p1, p2, p3⟩ := four_cells hO9
      obtain ⟨r0, r1, r2, r3⟩ := four_cells hR9
      have fz : ∀ j, w9.frozen? ⟨w.heap.size, j, none⟩ = false := fun j => frozen_of_row _ _ _ _ _ hR9
      have Hq := Lib.hid hq
      have Hgi := Lib.hid hgi
      clear hq hgi hsof hdl
      go_wp2_with fail
      have hf9 := set4_block hR9 la lb ha hb
      have hT10 := set4_touch w9 w.heap.size la lb ha hb
      obtain ⟨q0, q1, q2, q3⟩ := four_cells hf9
      refine bodyPost_ret (v := edgV la lb ha hb) (by simp [results, Try.results52, go_sem, q0, q1, q2, q3]) rfl ⟨la, lb, ha, hb, _, rfl, hbo, hm9.move hT10 (by omega), he9, fun k hk => ?_, hT9.trans hT10 (fun _ _ h => h) (fun x hx hk => by omega)⟩
      show (if k = i then _ else g' k) = g k
      rw [if_neg (by omega)]
      exact hsame k (by omega)
    · have hqlt : (q : Int) < 4 := by omega
      have hkf := kid_facts (q := q) hok.wf hlt hlv
      have hix := fun W => kid_index (ndAt A.nodes i) q (by omega) W
      have hcount := hA.toArM.count (i := (ndAt A.nodes i).kid q) (by omega)
      have hkr := kidAt_range (q := q) hok.wf hlt hlv (by omega)
      have hnil := cl_nil (a := 0) (b := 0) hok.wf (i := (ndAt A.nodes i).kid q) (by omega) hkf.2
      have hkat : kidAt A.nodes (ndAt A.nodes i) f q = (cl A.nodes f ((ndAt A.nodes i).kid q) 0 0).map fun c => ⟨c.a + 2 ^ (f + 2) * ((q % 2 : Nat) : Int), c.b + 2 ^ (f + 2) * ((q / 2 : Nat) : Int), c.h⟩ := rfl
      have hup : upTo A.nodes (ndAt A.nodes i) f (q + 1) = upTo A.nodes (ndAt A.nodes i) f q ++ kidAt A.nodes (ndAt A.nodes i) f q := rfl
      have hcr := fun c => cl_range hok.wf f ((ndAt A.nodes i).kid q) 0 0 (by omega) hkf.2 c
      rw [Hzd.out] at hkr hkat hcr
      obtain ⟨hkl, hkv⟩ := hkf
      generalize (ndAt A.nodes i).kid q = kc at *
      by_cases hc0 : (ndAt A.nodes kc).cnt = 0
      · rw [hc0] at hcount
        have hkn : kidAt A.nodes (ndAt A.nodes i) f q = [] := by rw [hkat, hnil.1 hc0]; rfl
        rw [hkn, List.append_nil] at hup
        have Hup := Lib.hid hup
        clear hup hkn hc0 hkat hcr hnil hkr hkv
        go_wp2_with fail
        refine hcount.mono ?_
        rintro e w5 ⟨rfl, rfl⟩
        go_wp2_with fail
        go_roundg (4 - (q + 1))
        case measure => omega
        case rel => exact ⟨q + 1, la, lb, ha, hb, g', rfl, by omega, by go_num, hA, hmap, hedge, hsame, hO, hR, by rw [Hup.out]; exact hsof, hT⟩
      · have hcq : (((ndAt A.nodes kc).cnt : Int) == 0) = false := by rw [beq_eq_false_iff_ne]; omega
        generalize (ndAt A.nodes kc).cnt = cn at hcount hcq hnil hc0
        have hrec := ih (w := wr) (p := p) (F := F) (A := A) (i := kc) (b := b) (g := g') ⟨hA, hok, by omega, hkv, fun h => hc0 (hnil.2 h), hmap, hedge, hfew⟩ ((f : Int) + 2) rfl
        have Hup := Lib.hid hup
        have Hkat := Lib.hid hkat
        clear hup hkat hnil hc0
        go_wp2_with fail
        refine hcount.mono ?_
        rintro e w5 ⟨rfl, rfl⟩
        go_wp2_with fail
        refine hrec.mono ?_
        rintro e w6 ⟨la', lb', ha', hb', g6, rfl, hbo6, hm6, he6, hk6, hT6⟩
        have hsz := hT.size
        have hO6 := (hT6.block (w.heap.size + 1 + 1) (lt_of_block hO) (by omega)).trans hO
        have hR6 := (hT6.block w.heap.size (lt_of_block hR) (by omega)).trans hR
        have hA6 := hA.move hT6 (fun k hk e => hA.toArM.notMap hmap (by rw [← e]; exact hk))
        have hO7 : (w6.alloc (.cells #[.int .i64 la', .int .i64 lb', .int .i64 ha', .int .i64 hb'] 104)).heap[w.heap.size + 1 + 1]? = some (.cells #[.int .i64 la, .int .i64 lb, .int .i64 ha, .int .i64 hb] 104 (0, 0)) := (Below.heap_alloc _ _ _ (lt_of_block hO6)).trans hO6
        have hR7 : (w6.alloc (.cells #[.int .i64 la', .int .i64 lb', .int .i64 ha', .int .i64 hb'] 104)).heap[w.heap.size]? = some (.cells #[.int .i64 0, .int .i64 0, .int .i64 0, .int .i64 0] 104 (0, 0)) := (Below.heap_alloc _ _ _ (lt_of_block hR6)).trans hR6
        have hE7 : (w6.alloc (.cells #[.int .i64 la', .int .i64 lb', .int .i64 ha', .int .i64 hb'] 104)).heap[w6.heap.size]? = some (.cells #[.int .i64 la', .int .i64 lb', .int .i64 ha', .int .i64 hb'] 104 (0, 0)) := heap_alloc_new _ _
        have hBa := (Below.refl w6.heap.size w6).alloc (Nat.le_refl _) (.cells #[.int .i64 la', .int .i64 lb', .int .i64 ha', .int .i64 hb'] 104)
        have hA7 := hA6.new hBa
        have hm7 := hm6.new hBa
        have hT7 : Touch (fun k => k = b) w (w6.alloc (.cells #[.int .i64 la', .int .i64 lb', .int .i64 ha', .int .i64 hb'] 104)) := (hT.trans hT6 (fun _ _ h => h) (fun _ _ h => h)).alloc _
        obtain ⟨o0, o1, o2, o3⟩ := four_cells hO7
        obtain ⟨e0, e1, e2, e3⟩ := four_cells hE7
        have fz : ∀ j, (w6.alloc (.cells #[.int .i64 la', .int .i64 lb', .int .i64 ha', .int .i64 hb'] 104)).frozen? ⟨w.heap.size + 1 + 1, j, none⟩ = false := fun j => frozen_of_row _ _ _ _ _ hO7
        have hrg : 0 ≤ la' ∧ la' < z ∧ 0 ≤ lb' ∧ lb' < z ∧ 0 ≤ ha' ∧ ha' < z ∧ 0 ≤ hb' ∧ hb' < z := by
          obtain ⟨_, ⟨a, a1, a2⟩, ⟨b1, b2, b3⟩, ⟨c1, c2, c3⟩, ⟨d1, d2, d3⟩⟩ := hbo6
          have := hcr a a1; have := hcr b1 b2; have := hcr c1 c2; have := hcr d1 d2
          omega
        have hsh6 := hbo6.shift (z * ((q % 2 : Nat) : Int)) (z * ((q / 2 : Nat) : Int))
        rw [← Hkat.out] at hsh6
        have hmore := hsof.more hsh6 hkr
        rw [← Hup.out] at hmore
        have hand : bits .and .i64 (q : Int) 1 = ((q % 2 : Nat) : Int) := and1_i64 q (by omega)
        have ep : ((q % 2 : Nat) : Int) = (q : Int) % 2 := by omega
        have eq2 : ((q / 2 : Nat) : Int) = (q : Int) / 2 := by omega
        rw [ep, eq2] at hmore
        have hX : 0 ≤ z * ((q : Int) % 2) ∧ z * ((q : Int) % 2) ≤ z := by
          rcases (show (q : Int) % 2 = 0 ∨ (q : Int) % 2 = 1 by omega) with h | h <;> rw [h] <;> simp <;> omega
        have hY : 0 ≤ z * ((q : Int) / 2) ∧ z * ((q : Int) / 2) ≤ z := by
          rcases (show (q : Int) / 2 = 0 ∨ (q : Int) / 2 = 1 by omega) with h | h <;> rw [h] <;> simp <;> omega
        clear hrec hkr hsh6 hbo6 hcr ep eq2
        go_upto_region 14 with (fail)
        generalize z * ((q : Int) % 2) = X at *
        generalize z * ((q : Int) / 2) = Y at *
        have hwX : RowKit.wrap64 X = X := by rw [RowKit.wrap64]; omega
        have hwY : RowKit.wrap64 Y = Y := by rw [RowKit.wrap64]; omega
        (try rw [hwX]); (try rw [hwY])
        have s1 : RowKit.wrap64 (la' + X) = la' + X := by rw [RowKit.wrap64]; omega
        have s2 : RowKit.wrap64 (lb' + Y) = lb' + Y := by rw [RowKit.wrap64]; omega
        have s3 : RowKit.wrap64 (ha' + X) = ha' + X := by rw [RowKit.wrap64]; omega
        have s4 : RowKit.wrap64 (hb' + Y) = hb' + Y := by rw [RowKit.wrap64]; omega
        have f1 : (if la' + X < la then la' + X else la) = min la (la' + X) := by omega
        have Hmore := Lib.hid hmore
        clear hwX hwY hX hY hmore hrg f1
        generalize hW7 : (w6.alloc (.cells #[.int .i64 la', .int .i64 lb', .int .i64 ha', .int .i64 hb'] 104)) = W7 at *
        clear hW7
        go_wp2_with fail
        go_roundg (4 - (q + 1))
        case measure => omega
        case rel =>
          have hT8 := set4_touch W7 (w.heap.size + 1 + 1) (min la (la' + X)) (min lb (lb' + Y)) (max ha (ha' + X)) (max hb (hb' + Y))
          exact ⟨q + 1, _, _, _, _, g6, rfl, by omega, by go_num, hA7.move hT8 (fun k hk e => by have := H.out.ar.toArM.foot_lt hk; omega), hm7.move hT8 (by omega), he6, fun k hk => (hk6 k (by omega)).trans (hsame k hk), set4_block hO7 _ _ _ _, (hT8.block _ (lt_of_block hR7) (by omega)).trans hR7, .inr Hmore.out, hT7.trans hT8 (fun _ _ h => h) (fun x hx hk => by omega)⟩

theorem measure_rec : ∀ (f : Nat), f ≤ 42 → ∀ {w : World} {p : Nat} {F : Foot} {A : Ar} {i b : Nat} {g : Nat → Option Value} (_ : MeasOk w p F A f i b g) (l : Int) (_ : l = f + 2),
    Calls Try.prog 52 #[.pointer (some ⟨p, 0, none⟩), .int .u32 i, .int .i64 l, .map (some b)] w (MeasPost A f i b g w)
  | 0, _, w, p, F, A, i, b, g, h, l, hl => by
    cases hv : g i with
    | none =>
      obtain rfl : l = 2 := by omega
      exact measure_leaf h hv
    | some v => exact measure_known h hv l
  | f + 1, hf, w, p, F, A, i, b, g, h, l, hl => by
    cases hv : g i with
    | none => exact measure_join hf (fun h' l' hl' => measure_rec f (by omega) h' l' hl') h hv l (by omega)
    | some v => exact measure_known h hv l

end Go.Proofs.Ytehmbhdapgkbcaa
