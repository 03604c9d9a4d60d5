/- The empty nodes by level (Empty), a new arena (New), its budget (SetMost). -/
import Derived.Test.YtehmbhdapgkbcaaArenaB
namespace Go.Proofs.Ytehmbhdapgkbcaa
open Go.RowKit

/-- One empty node more. -/
theorem ArM.newEmpty {w w1 w2 : World} {p : Nat} {F : Foot} {A : Ar} (h : ArM w p F A) (hb : Below w.heap.size w w1) {g cap j : Nat}
    (hown : Own w2 27 1 (.slice (some ⟨g, 0, none⟩) (A.empty.length + 1) cap) (A.empty.length + 1) (A.empty.map U32 ++ [U32 j])) (hg : w1.grownBy w2 F.ev.ownBlock) (hl : F.ev.ownBlock = some g ∨ w.heap.size ≤ g) :
    ArM (w2.setCell ⟨p, 2, none⟩ (.slice (some ⟨g, 0, none⟩) (A.empty.length + 1) cap)) p { F with ev := .slice (some ⟨g, 0, none⟩) (A.empty.length + 1) cap } { A with empty := A.empty ++ [j] } ∧
      Step p F w { F with ev := .slice (some ⟨g, 0, none⟩) (A.empty.length + 1) cap } (w2.setCell ⟨p, 2, none⟩ (.slice (some ⟨g, 0, none⟩) (A.empty.length + 1) cap)) ∧
      w2.cell? ⟨p, 2, none⟩ = some F.ev ∧ w2.frozen? ⟨p, 2, none⟩ = false := by
  have h1 := h.new hb
  have hpn : F.ev.ownBlock ≠ some p := fun e => h.own_ne h.empty (by decide) e rfl
  have hobj : w2.heap[p]? = some (.cells #[F.nv, F.sv, F.ev, .int .i64 A.most] 86 (0, 0)) := by
    rw [hg.block p h1.lt (Ne.symm hpn)]; exact h1.obj
  have hsl : Own w2 27 1 F.sv F.slots.length (F.slots.map U32) := World.ownsRow.kept h1.slots hg (by
    cases hsv : F.sv.ownBlock with
    | none => exact .inl rfl
    | some k => exact .inr (fun e => h.apart k hsv e.symm))
  have hnd : Own w2 83 7 F.nv A.nodes.length (A.nodes.flatMap Nd.cells) := World.ownsRow.kept h1.nodes hg (by
    cases hsv : F.nv.ownBlock with
    | none => exact .inl rfl
    | some k => exact .inr (fun e => h1.nodes.apart h1.empty (by decide) hsv e.symm))
  have ne2 : ∀ e size v n xs, Own w2 e size v n xs → e ≠ 86 → v.ownBlock ≠ some p := fun e size v n xs ho he hk => by
    obtain ⟨c, hc⟩ := ho.heap hk
    rw [hobj] at hc
    simp at hc
    exact he hc.2.symm
  refine ⟨⟨?_, ?_, ?_, ?_, ?_⟩, ⟨?_, ?_⟩, ?_, ?_⟩
  · have := heap_setCell_same w2 p 2 _ _ (.slice (some ⟨g, 0, none⟩) (A.empty.length + 1) cap) hobj
    simpa using this
  · exact hnd.setCell _ (ne2 _ _ _ _ _ hnd (by decide))
  · exact hsl.setCell _ (ne2 _ _ _ _ _ hsl (by decide))
  · simp only [List.length_append, List.length_cons, List.length_nil, Nat.zero_add, List.map_append, List.map_cons, List.map_nil]
    exact hown.setCell _ (ne2 _ _ _ _ _ hown (by decide))
  · intro k hk hk2
    cases hk2
    rcases hl with hl | hl
    · exact h.apart _ hk hl
    · have := h.slots.lt hk
      have hk' : g < w.heap.size := this
      omega
  · exact (((Touch.of_new (S := F.at p) hb).grown hg (fun k hk _ => .inr (.inr (.inr hk))))).setCell (fun _ => .inl rfl) _
  · intro k hk hk2
    rcases hk2 with hk2 | hk2 | hk2 | hk2
    · exact .inl hk2
    · exact .inr (.inl hk2)
    · exact .inr (.inr (.inl hk2))
    · cases hk2
      rcases hl with hl | hl
      · exact .inr (.inr (.inr hl))
      · have hk' : g < w.heap.size := hk
        omega
  · rw [cell_of_row _ _ _ _ _ _ hobj]; rfl
  · exact frozen_of_row _ _ _ _ _ hobj

/-- An empty node of a level. -/
def EmptyAt (level : Nat) (r : Nat) (A : Ar) : Prop := (ndAt A.nodes r).lv = level ∧ (ndAt A.nodes r).cnt = 0

set_option maxHeartbeats 4000000 in
set_option maxRecDepth 100000 in
theorem empty_any {w : World} {p : Nat} {F : Foot} {A : Ar} (h : ArS w p F A) (ok : A.Ok) (hn : A.room < 2147483647) {level : Nat} (h2 : 2 ≤ level) (h44 : level ≤ 44) :
    Calls Try.prog 48 #[.pointer (some ⟨p, 0, none⟩), .int .i64 level] w (Ret p F A 0 (EmptyAt level) w) := by
  obtain ⟨i0, hi0, hz0, hz1, hz2⟩ := info_parts info27
  go_enter Try.func48, Try.ntmps48
  go_wp2_with fail
  go_loopg [6] (level + 1) (fun g _ wr => ∃ F' A', ArS wr p F' A' ∧ A'.Ok ∧ Ext A A' ∧ Step p F w F' wr ∧ A'.room ≤ A.room ∧ level + 1 - A'.empty.length ≤ g)
  case atStart => exact ⟨F, A, h, ok, .refl _, .refl _ _ _, Nat.le_refl _, by omega⟩
  case round =>
    obtain ⟨F', A', hs, ok', hext, hst, hroom, hg⟩ := hrel
    have h3 := ok'.em.three
    have h45 := ok'.em.all
    obtain ⟨eb, ecap, hev, _, _, hel⟩ := hs.empty.form (by omega)
    have r2 := hs.c2
    rw [hev] at r2
    have Hev := Lib.hid hev
    have hp := hs.lt
    clear hev
    by_cases hle : A'.empty.length ≤ level
    · obtain ⟨e, he⟩ : ∃ e, A'.empty.length = e + 1 := ⟨A'.empty.length - 1, by omega⟩
      have ce := hs.emp Hev.out (i := e) (by omega)
      have hlt := ok'.em.lt e (by omega) (by omega)
      have hlv := ok'.em.lv e (by omega) (by omega)
      have hcn := ok'.em.cnt e (by omega) (by omega)
      generalize hix : at0 A'.empty e = i at ce hlt hlv hcn
      clear hix
      have hrm := A'.room_le
      have hgood : GoodNd A'.nodes A'.nodes.length (joinNd A'.nodes e i i i i) := .join e i i i i (by omega) (by omega) hlt hlt hlt hlt hlv hlv hlv hlv rfl
      have hjoin := fun n => join_any (hs.drewN n) (by omega) (L := e) (k0 := i) (k1 := i) (k2 := i) (k3 := i) (by omega) hlt hlt hlt hlt hlv hlv hlv hlv
      have w1 : IntKind.i64.wrap ((A'.empty.length : Int) - 1) = e := by rw [IntWalk.i64_in _ (by omega)]; omega
      have w2 : (A'.empty.length : Int) - 1 = e := by omega
      have w3 : (e : Int) < (A'.empty.length : Int) := by omega
      have He := Lib.hid he
      have Hlv := Lib.hid hlv
      have Hcn := Lib.hid hcn
      clear he hlv hcn
      go_wp2_with fail
      go_quiet (fail)
      go_wp2_with fail
      refine (hjoin _).mono ?_
      rintro e' wj ⟨r, err, F2, A2, rfl, hf, hs2, hst2⟩
      obtain ⟨hwf2, hext2, hem2, hlen2, hle2, hres⟩ := hf.spec ok'.wf hgood
      have hst3 : Step p F w F2 wj := hst.trans hst2.from_drewN
      clear hjoin ce hgood
      rcases hres with ⟨rfl, hrl, hrn⟩ | ⟨rfl, rfl, hfull, hsame⟩
      · simp only [errV]
        obtain ⟨eb2, ecap2, hev2, _, _, hel2⟩ := hs2.empty.form (by rw [hem2]; omega)
        have s2 := hs2.c2
        have hown := hs2.empty
        have hpj := hs2.lt
        have hne : some p ≠ F2.ev.ownBlock := fun e => hs2.own_ne hs2.empty (by decide) e.symm rfl
        rw [hev2] at s2 hown hne
        have Hev2 := Lib.hid hev2
        have Hem2 := Lib.hid hem2
        have hl2 : A2.empty.length < 45 := by rw [hem2]; omega
        have hfr := hs2.free 2
        clear hev2 hem2 r2
        go_wp2_with (refine wpList_append_lies _ rfl _ _ 65 rfl 0 27 i0 _ 1 4 Try.underlying65 hi0 hz0 hz1 hz2 rfl (by omega) (.slice (some ⟨eb2, 0, none⟩) A2.empty.length ecap2) A2.empty.length (A2.empty.map U32) rfl (hown.alloc _) ⟨wj.heap.size, 0, none⟩ 1 1 [U32 r] rfl rfl (World.news_of_block (cs := #[U32 r]) (t := 27) (fr := (0, 0)) (heap_alloc_new wj _)) (by simp [Value.oneCell']) (by omega) (by unfold maxLen; omega) (by omega) (Nat.zero_le _) (wj.heap.size + 1) (by simp) ?_; intro gg cap w3 hown3 hgrow hat hlt3; have hcz : w3.cell? ⟨p, 2, none⟩ = some (.slice (some ⟨eb2, 0, none⟩) A2.empty.length ecap2) := (hgrow.cell_far _ (by first | (simp; done) | (simp; omega)) hne).trans ((World.cell?_alloc_past _ _ _ hpj).trans s2); have hfz : w3.frozen? ⟨p, 2, none⟩ = false := (hgrow.frozen_far _ (by first | (simp; done) | (simp; omega)) hne).trans ((World.frozen?_alloc_past _ _ _ hpj).trans hfr))
        have hnw := hs2.newEmpty ((Below.refl _ _).alloc (Nat.le_refl _) _) hown3 (by rw [Hev2.out]; exact hgrow) (by rw [Hev2.out]; rcases hat with hat | hat; exact .inl hat; exact .inr (by omega))
        obtain ⟨hM4, hS4, _, _⟩ := hnw
        have hE : (A2.empty ++ [r]).length = A2.empty.length + 1 := by simp
        have hat0 : ∀ l, l < A2.empty.length → at0 (A2.empty ++ [r]) l = at0 A'.empty l := fun l hl => by unfold at0; rw [List.getElem?_append_left hl, Hem2.out]
        have hatr : at0 (A2.empty ++ [r]) A2.empty.length = r := by unfold at0; rw [List.getElem?_append_right (Nat.le_refl _), Nat.sub_self]; rfl
        have hE2 : A2.empty.length = A'.empty.length := by rw [Hem2.out]
        have hlvr : (ndAt A2.nodes r).lv = A2.empty.length := by rw [hrn]; have := He.out; show e + 1 = _; omega
        have hcnr : (ndAt A2.nodes r).cnt = 0 := by rw [hrn]; show min _ _ = _; rw [Hcn.out]; rfl
        have hok4 : Ar.Ok { A2 with empty := A2.empty ++ [r] } := by
          refine ⟨hwf2, ⟨?_, ?_, ?_, ?_, ?_⟩, hle2 ok'.le⟩
          · show 3 ≤ (A2.empty ++ [r]).length; omega
          · show (A2.empty ++ [r]).length ≤ 45; omega
          · intro l h2' hl
            show at0 (A2.empty ++ [r]) l < A2.nodes.length
            have hl : l < (A2.empty ++ [r]).length := hl
            by_cases hll : l < A2.empty.length
            · rw [hat0 l hll]; exact Nat.lt_of_lt_of_le (ok'.em.lt l h2' (by omega)) hext2.len
            · have : l = A2.empty.length := by omega
              subst this; rw [hatr]; exact hrl
          · intro l h2' hl
            show (ndAt A2.nodes (at0 (A2.empty ++ [r]) l)).lv = l
            have hl : l < (A2.empty ++ [r]).length := hl
            by_cases hll : l < A2.empty.length
            · rw [hat0 l hll, hext2.nd (ok'.em.lt l h2' (by omega))]; exact ok'.em.lv l h2' (by omega)
            · have : l = A2.empty.length := by omega
              subst this; rw [hatr]; exact hlvr
          · intro l h2' hl
            show (ndAt A2.nodes (at0 (A2.empty ++ [r]) l)).cnt = 0
            have hl : l < (A2.empty ++ [r]).length := hl
            by_cases hll : l < A2.empty.length
            · rw [hat0 l hll, hext2.nd (ok'.em.lt l h2' (by omega))]; exact ok'.em.cnt l h2' (by omega)
            · have : l = A2.empty.length := by omega
              subst this; rw [hatr]; exact hcnr
        go_wp2
        go_roundg (level + 1 - (A2.empty.length + 1))
        case measure => omega
        case rel =>
          refine ⟨_, _, ⟨hM4, hs2.tab, hs2.few, hs2.some, hs2.most, hs2.ok⟩, hok4, hext.trans ⟨hext2.more, hext2.most⟩, hst3.trans hS4, ?_, ?_⟩
          · have : Ar.room { A2 with empty := A2.empty ++ [r] } ≤ A'.room := by unfold Ar.room; dsimp only; omega
            omega
          · dsimp only; omega
      · simp only [errV]
        go_wp2
        go_ret2
        exact ⟨0, some 8, F2, A2, rfl, hs2, ⟨hwf2, ok'.em.ext hext2 hem2, hle2 ok'.le⟩, hext.trans hext2, hst3, by rw [hsame]; exact hroom, .inr ⟨rfl, rfl, hfull⟩⟩
    · have ce := hs.emp Hev.out (i := level) (by omega)
      have hlt := ok'.em.lt level (by omega) (by omega)
      have hlv := ok'.em.lv level (by omega) (by omega)
      have hcn := ok'.em.cnt level (by omega) (by omega)
      have hl9 : (level : Int) < (A'.empty.length : Int) := by omega
      generalize hix : at0 A'.empty level = i at ce hlt hlv hcn
      clear hix
      have Hlv := Lib.hid hlv
      have Hcn := Lib.hid hcn
      clear hlv hcn
      go_wp2
      go_ret2
      exact ⟨i, none, F', A', rfl, hs, ok', hext, hst, hroom, .inl ⟨rfl, hlt, Hlv.out, Hcn.out⟩⟩

/-- A new arena: the empty leaf alone. -/
def newAr (most : Int) : Ar := ⟨[leafNd 0], [0, 0, 0], if most < 64 then 64 else most⟩
theorem newAr_ok (most : Int) : (newAr most).Ok := by
  refine ⟨⟨fun i hi => ?_, fun u v hu hv _ => ?_⟩, ⟨by simp [newAr], by simp [newAr], ?_, ?_, ?_⟩, ?_⟩
  · have : i = 0 := by simp [newAr] at hi; omega
    subst this
    exact .leaf 0 (by omega) rfl
  · simp [newAr] at hu hv; omega
  · intro l h2 hl
    have : l = 2 := by simp [newAr] at hl; omega
    subst this; simp [newAr, at0]
  · intro l h2 hl
    have : l = 2 := by simp [newAr] at hl; omega
    subst this; rfl
  · intro l h2 hl
    have : l = 2 := by simp [newAr] at hl; omega
    subst this; simp [newAr, leafNd, pop_zero, at0, ndAt]
  · simp only [newAr, List.length_cons, List.length_nil]; split <;> omega

/-- It is the arena of a new block. -/
def NewPost (most : Int) (w : World) (e : Ending) (w' : World) : Prop :=
  ∃ p F, e = .returned (.pointer (some ⟨p, 0, none⟩)) ∧ ArS w' p F (newAr most) ∧ Below w.heap.size w w' ∧ ∀ k, F.at p k → w.heap.size ≤ k

/-- Another slice in the place of the empty nodes. -/
theorem ArM.newEv {w w1 : World} {p : Nat} {F : Foot} {A : Ar} (h : ArM w p F A) (hb : Below w.heap.size w w1) {v : Value} {l : List Nat} (hs : Own w1 27 1 v l.length (l.map U32)) (hv : ∀ k, v.ownBlock = some k → w.heap.size ≤ k) :
    ArM (w1.setCell ⟨p, 2, none⟩ v) p { F with ev := v } { A with empty := l } ∧ Step p F w { F with ev := v } (w1.setCell ⟨p, 2, none⟩ v) := by
  have h1 := h.new hb
  have hn : ∀ e size v n xs, Own w1 e size v n xs → e ≠ 86 → v.ownBlock ≠ some p := fun e size v n xs ho he hk => h1.own_ne ho he hk rfl
  refine ⟨⟨?_, ?_, ?_, ?_, ?_⟩, ⟨?_, ?_⟩⟩
  · have := heap_setCell_same w1 p 2 _ _ v h1.obj
    simpa using this
  · exact h1.nodes.setCell _ (hn _ _ _ _ _ h1.nodes (by decide))
  · exact h1.slots.setCell _ (hn _ _ _ _ _ h1.slots (by decide))
  · exact hs.setCell _ (hn _ _ _ _ _ hs (by decide))
  · intro k hk hk2
    have := h.slots.lt hk
    have := hv k hk2
    omega
  · exact (Touch.of_new hb).setCell (fun _ => .inl rfl) _
  · intro k hk h2
    rcases h2 with h2 | h2 | h2 | h2
    · exact .inl h2
    · exact .inr (.inl h2)
    · exact .inr (.inr (.inl h2))
    · have := hv k h2; omega

theorem Step.new_below {p : Nat} {F F' : Foot} {a b : World} (h : Step p F a F' b) {w : World} (hb : Below w.heap.size w a) (hf : ∀ k, F.at p k → w.heap.size ≤ k) : Below w.heap.size w b ∧ ∀ k, F'.at p k → w.heap.size ≤ k := by
  refine ⟨((Touch.of_new (S := Only) hb).trans h.touch (fun _ _ h => h) (fun x hx hk => by have := hf x hk; omega)).below (fun _ _ h => h), fun k hk => ?_⟩
  rcases Nat.lt_or_ge k w.heap.size with hlt | hge
  · have := hf k (h.foot k (Nat.lt_of_lt_of_le hlt hb.size) hk)
    omega
  · exact hge

set_option maxHeartbeats 4000000 in
set_option maxRecDepth 100000 in
theorem new_one (most M : Int) (w : World) (hM : (newAr most).most = M) (hm : (if most < 64 then 64 else most) = M) (hM0 : 64 ≤ M) :
    Calls Try.prog 32 #[.int .i64 most] w (NewPost most w) := by
  obtain ⟨i0, hi0, hz0, hz1, hz2⟩ := info_parts info27
  have hmx : ∀ w', (Builtin.max_ #[3, 3] 3 #[.int .i64 most, .int .i64 64]).run Try.prog w' = .ok (.int .i64 M) w' := fun w' => by
    rw [← hm]
    rw [run_max_int2]
  clear hm
  go_enter Try.func32, Try.ntmps32
  go_wp2_with (refine wpList_make_full _ rfl _ _ 65 rfl 0 27 i0 (.int .u32 0) 1 Try.underlying65 hi0 hz0 hz1 .i64 .i64 _ _ 128 rfl rfl rfl rfl (by rw [hz2]; omega) (by unfold maxLen; omega) (Nat.zero_le _) ?_; intro w1 hown hgrow)
  have hz : (madeCells (Value.int .u32 0).cells (128 * 1)).toList = (List.replicate 128 0).map U32 := by
    rw [show (Value.int .u32 0).cells = #[.int .u32 0] from rfl, toList_madeCells_one, List.map_replicate]; rfl
  rw [hz] at hown
  have hb1 : Below w.heap.size w w1 := (Below.refl _ _).grown hgrow (Nat.le_refl _) (fun k hk => by cases hk)
  have hsz := hb1.size
  have hlt : w.heap.size < w1.heap.size := Own.lt hown rfl
  clear hz
  have hM0 : ArM (w1.alloc (.cells #[.slice none 0 0, .slice (some ⟨w.heap.size, 0, none⟩) 128 128, .slice none 0 0, .int .i64 M] 86)) w1.heap.size ⟨.slice none 0 0, .slice (some ⟨w.heap.size, 0, none⟩) 128 128, .slice none 0 0, List.replicate 128 0⟩ ⟨[], [], M⟩ := by
    refine ⟨heap_alloc_new _ _, World.ownsRow_nil _ _ _ _, ?_, World.ownsRow_nil _ _ _ _, fun k _ h => by cases h⟩
    rw [List.length_replicate]
    exact World.ownsRow.alloc hown _
  have hS0 : ArS (w1.alloc (.cells #[.slice none 0 0, .slice (some ⟨w.heap.size, 0, none⟩) 128 128, .slice none 0 0, .int .i64 M] 86)) w1.heap.size ⟨.slice none 0 0, .slice (some ⟨w.heap.size, 0, none⟩) 128 128, .slice none 0 0, List.replicate 128 0⟩ ⟨[], [], M⟩ :=
    ⟨hM0, Tab.none _ _ _, by simp, by simp, by simp, fun i hi => by simp at hi⟩
  have hleaf := leaf_any hS0 (by simp) (f := 0) (by omega)
  have hbp : Below w.heap.size w (w1.alloc (.cells #[.slice none 0 0, .slice (some ⟨w.heap.size, 0, none⟩) 128 128, .slice none 0 0, .int .i64 M] 86)) := hb1.alloc hsz _
  clear hown hgrow hM0 hS0 hmx
  refine hleaf.mono ?_
  rintro e w2 ⟨r, err, F2, A2, rfl, hf, hs2, hst2⟩
  obtain ⟨hb2, hf2⟩ := hst2.new_below hbp (fun k hk => by
    rcases hk with rfl | hk | hk | hk
    · exact hsz
    · cases hk
    · cases hk; exact Nat.le_refl _
    · cases hk)
  have hA2 : err = none ∧ A2 = ⟨[leafNd 0], [], M⟩ := by
    cases hf with
    | old v hv hk => simp at hv
    | full hn hm => simp at hm; omega
    | new hn hm => exact ⟨rfl, rfl⟩
  obtain ⟨rfl, rfl⟩ := hA2
  simp only [errV]
  have s2 := hs2.c2
  obtain ⟨ea, ecap, hev, _⟩ := hs2.empty.slice
  rw [hev] at s2
  have hfr := hs2.free 2
  have hp2 := hs2.lt
  have hcz : ∀ o, (w2.alloc o).cell? ⟨w1.heap.size, 2, none⟩ = some (.slice ea 0 ecap) := fun o => (World.cell?_alloc_past _ _ _ hp2).trans s2
  have hfz : ∀ o, (w2.alloc o).frozen? ⟨w1.heap.size, 2, none⟩ = false := fun o => (World.frozen?_alloc_past _ _ _ hp2).trans hfr
  clear hleaf hev
  go_wp2
  go_ret
  have hnw := hs2.newEv (w1 := w2.alloc (.cells #[U32 0, U32 0, U32 0] 27)) (l := [0, 0, 0]) ((Below.refl _ _).alloc (Nat.le_refl _) _) (World.ownsRow_lit w2 #[U32 0, U32 0, U32 0] 3 (Nat.zero_le _) (by unfold maxLen; omega) rfl) (fun k hk => by cases hk; exact Nat.le_refl _)
  obtain ⟨hM4, hS4⟩ := hnw
  obtain ⟨hb4, hf4⟩ := hS4.new_below hb2 hf2
  rw [World.setCell_alloc_past _ _ _ _ hp2] at hM4 hb4
  refine ⟨w1.heap.size, { F2 with ev := .slice (some ⟨w2.heap.size, 0, none⟩) 3 3 }, rfl, ⟨?_, hs2.tab, hs2.few, hs2.some, hs2.most, hs2.ok⟩, hb4, hf4⟩
  have : newAr most = ⟨[leafNd 0], [0, 0, 0], M⟩ := by rw [← hM]; rfl
  rw [this]
  exact hM4

theorem new_any (most : Int) (w : World) : Calls Try.prog 32 #[.int .i64 most] w (NewPost most w) := by
  by_cases h : most < 64
  · exact new_one most 64 w (if_pos h) (if_pos h) (by omega)
  · exact new_one most most w (if_neg h) (if_neg h) (by omega)

end Go.Proofs.Ytehmbhdapgkbcaa
