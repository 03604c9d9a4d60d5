/- TreePuts: the plain part: what a round leaves. -/
import Derived.Test.YtehmbhdapgkbcaaAwake
import Derived.Test.YtehmbhdapgkbcaaRefAre
namespace Go.Proofs.Ytehmbhdapgkbcaa
open Go.RowKit

theorem ArM.far {w : World} {p : Nat} {F : Foot} {A : Ar} (h : ArM w p F A) {e size : Nat} {v : Value} {n : Nat} {xs : List Value} (ho : Own w e size v n xs) (h1 : e ≠ 86) (h2 : e ≠ 83) (h3 : e ≠ 27) {k : Nat} (hk : v.ownBlock = some k) : ¬ F.at p k := by
  rintro (rfl | h' | h' | h')
  · exact h.own_ne ho h1 hk rfl
  · exact ho.apart h.nodes h2 hk h'
  · exact ho.apart h.slots h3 hk h'
  · exact ho.apart h.empty h3 hk h'

/-- A slice of bools that came in. -/
def BoolsAt (w : World) (v : Value) (l : List Bool) : Prop :=
  (v = .slice none 0 0 ∧ l = []) ∨ ∃ (a : Addr) (cap : Nat), v = .slice (some a) l.length cap ∧ (0 < l.length → a.block < w.heap.size) ∧ l.length ≤ cap ∧ cap ≤ maxLen ∧ ∀ i (h : i < l.length), w.cell? (a.add i) = some (.bool l[i])
theorem BoolsAt.move {w w' : World} {v : Value} {l : List Bool} (h : BoolsAt w v l) (hb : Below w.heap.size w w') : BoolsAt w' v l := by
  rcases h with h1 | ⟨a, cap, h1, h2, h3, h4, h5⟩
  · exact .inl h1
  · exact .inr ⟨a, cap, h1, fun hp => Nat.lt_of_lt_of_le (h2 hp) hb.size, h3, h4, fun i hi => (hb.cell (p := a.add i) (by rw [addBlock]; exact h2 (by omega))).trans (h5 i hi)⟩
theorem BoolsAt.slice {w : World} {v : Value} {l : List Bool} (h : BoolsAt w v l) : ∃ va cap, v = .slice va l.length cap ∧ l.length ≤ maxLen := by
  rcases h with ⟨rfl, rfl⟩ | ⟨a, cap, h1, h2, h3, h4, h5⟩
  · exact ⟨none, 0, rfl, Nat.zero_le _⟩
  · exact ⟨some a, cap, h1, by omega⟩

/-- The set behind a round. -/
def turned (live : Bool) (c : Cl) (s : List Cl) : List Cl := if live = true then putIn c false s else lessOf c s
theorem mem_turned {live : Bool} {c : Cl} {s : List Cl} {d : Cl} : d ∈ turned live c s ↔ if d = c then live = true else d ∈ s := by
  unfold turned
  cases live
  · simp only [Bool.false_eq_true, if_false]
    rw [mem_lessOf]
    by_cases h : d = c <;> simp [h]
  · simp only [if_true]
    rw [mem_putIn]
    by_cases h : d = c <;> simp [h]
theorem rise_turned {live : Bool} {c : Cl} {s : List Cl} (h : Rise s) : Rise (turned live c s) := by
  unfold turned
  split
  · exact rise_putIn c h
  · exact rise_filter _ h
theorem turned_le (live : Bool) (c : Cl) (s : List Cl) : (turned live c s).length ≤ s.length + 1 := by
  unfold turned
  split
  · exact putIn_le c false s
  · have := lessOf_le c s; omega

/-- The cells of the set, and of the root. -/
structure PutsI (A : Ar) (r L : Nat) (s : List Cl) (n : Nat) : Prop where
  ok : A.Ok
  lv : A.lv r = L
  lo : 3 ≤ L
  hi : L ≤ 44
  mem : ∀ d, d ∈ A.cells r ↔ d ∈ s
  rise : Rise s
  len : s.length ≤ n
  hs : ∀ c ∈ s, 0 ≤ c.h ∧ c.h ≤ 1
  ins : ∀ c ∈ s, inside L c.a c.b = true
  most : A.most = 1048576

theorem inside_up {L : Nat} (h1 : 1 ≤ L) (h2 : L ≤ 44) {a b : Int} (h : inside L a b = true) : inside 44 a b = true := by
  have hb := half_bounds h2
  rw [inside_iff] at h ⊢
  rw [show half 44 = 8796093022208 from rfl]
  omega

theorem PutsI.set {A : Ar} {r L n : Nat} {s : List Cl} (h : PutsI A r L s n) (hn : n < 10000) : SetOk s :=
  ⟨h.hs, fun c hc => inside_up (by have := h.lo; omega) h.hi (h.ins c hc), by have := h.len; omega⟩

theorem cells_nodup {A : Ar} (ok : A.Ok) {r : Nat} (hl : 3 ≤ A.lv r) : (A.cells r).Nodup := by
  have := lvl_lt hl
  exact cl_nodup ok.wf _ _ _ _ this (by unfold Ar.lv at *; omega)

theorem len_of_mem {l m : List Cl} (hl : l.Nodup) (hm : m.Nodup) (h : ∀ d, d ∈ l ↔ d ∈ m) : l.length = m.length :=
  ((List.perm_ext_iff_of_nodup hl hm).2 h).length_eq

theorem PutsI.clen {A : Ar} {r L n : Nat} {s : List Cl} (h : PutsI A r L s n) : (A.cells r).length = s.length :=
  len_of_mem (cells_nodup h.ok (by have := h.lo; have := h.lv; omega)) h.rise.nodup h.mem

theorem PutsI.turn {A A' : Ar} {r r' L n : Nat} {s : List Cl} (h : PutsI A r L s n) {c : Cl} {live : Bool} (hin : inside L c.a c.b = true) (h0 : 0 ≤ c.h) (h1 : c.h ≤ 1) (hx : Ext A A') (ok' : A'.Ok)
    (hr : PutR A (A.lv r - 2) r (-half (A.lv r)) (-half (A.lv r)) c live r' A') : PutsI A' r' L (turned live c s) (n + 1) := by
  obtain ⟨e1, e2⟩ := hr
  have hlo := h.lo
  have hlv := h.lv
  have e3 : A'.lv r' = A.lv r := by unfold Ar.lv at *; omega
  refine ⟨ok', e3.trans hlv, hlo, h.hi, fun d => ?_, rise_turned h.rise, by have := turned_le live c s; have := h.len; omega, fun d hd => ?_, fun d hd => ?_, hx.most.trans h.most⟩
  · rw [mem_turned, ← h.mem]
    unfold Ar.cells
    rw [e3]
    exact e2 d
  · rw [mem_turned] at hd
    split at hd
    · next e => subst e; exact ⟨h0, h1⟩
    · exact h.hs d hd
  · rw [mem_turned] at hd
    split at hd
    · next e => subst e; exact hin
    · exact h.ins d hd

theorem Ext.cells {A A' : Ar} (h : Ext A A') (ok : A.Ok) {r : Nat} (hl : 3 ≤ A.lv r) : A'.lv r = A.lv r ∧ A'.cells r = A.cells r := by
  have hlt := lvl_lt hl
  have e : A'.lv r = A.lv r := by unfold Ar.lv; rw [h.nd hlt]
  refine ⟨e, ?_⟩
  unfold Ar.cells
  rw [e]
  exact h.cl ok.wf _ _ hlt (by unfold Ar.lv at *; omega)

theorem PutsI.more {A A' : Ar} {r L n : Nat} {s : List Cl} (h : PutsI A r L s n) (hx : Ext A A') (ok' : A'.Ok) : PutsI A' r L s n := by
  have hlv := h.lv
  have hlo := h.lo
  obtain ⟨e1, e2⟩ := hx.cells h.ok (r := r) (by omega)
  exact ⟨ok', e1.trans h.lv, h.lo, h.hi, by rw [e2]; exact h.mem, h.rise, h.len, h.hs, h.ins, hx.most.trans h.most⟩

/-- Two roots of one level and of the same cells are one node. -/
theorem PutsI.same {A : Ar} {r q L n : Nat} {s : List Cl} (h : PutsI A r L s n) (hq : A.lv q = L) (hm : ∀ d, d ∈ A.cells q ↔ d ∈ s) : q = r := by
  have hlv := h.lv
  have hlo := h.lo
  have h1 : 3 ≤ A.lv r := by omega
  have h2 : 3 ≤ A.lv q := by omega
  refine cl_ext h.ok.wf (L - 2) q r (-half L) (-half L) (lvl_lt h2) (lvl_lt h1) (by unfold Ar.lv at *; omega) (by unfold Ar.lv at *; omega) fun d => ?_
  have e1 := hm d
  have e2 := h.mem d
  unfold Ar.cells at e1 e2
  rw [hq] at e1
  rw [hlv] at e2
  exact e1.trans e2.symm

theorem PutsI.start {raw : List Cl} {r : Nat} {A : Ar} (ok : A.Ok) (hm : A.most = 1048576) (h : BuiltR (wideL raw) r A) : PutsI A r (A.lv r) (wideL raw) 30 :=
  ⟨ok, rfl, h.1.lo, h.1.hi, h.2, wideL_rise raw, wideL_le raw, fun _ hc => (wideL_mem hc).2.2.2.2, h.1.all, hm⟩

theorem wide_set (raw : List Cl) : SetOk (wideL raw) :=
  ⟨fun _ hc => (wideL_mem hc).2.2.2.2, fun c hc => by
    have := wideL_mem hc
    rw [inside_iff, show half 44 = 8796093022208 from rfl]
    omega, by have := wideL_le raw; omega⟩

end Go.Proofs.Ytehmbhdapgkbcaa
