/- TreeBuilds: the walk. -/
import Derived.Test.YtehmbhdapgkbcaaBoxed
import Derived.Test.YtehmbhdapgkbcaaPlanG
import Derived.Test.YtehmbhdapgkbcaaPutsP
import Derived.Test.YtehmbhdapgkbcaaGet
import Derived.Lib.IfaceEq
import Derived.Stop.IfaceNil
namespace Go.Proofs.Ytehmbhdapgkbcaa
open Go.RowKit

theorem eql_code (a b : Int) (w : World) : (binOp .eql 34 (.iface 42 (.int .i64 a)) (.iface 42 (.int .i64 b))).run Try.prog w = .ok (.bool (a == b)) w :=
  Lib.run_eql_iface_int w a b Try.underlying34 (by kernel_rfl) Try.underlying42

theorem get_set {w : World} {p : Nat} {F : Foot} {A : Ar} (h : ArS w p F A) {r L n : Nat} {s : List Cl} (hI : PutsI A r L s n) (hn : A.nodes.length < 4294967296) (c : Cl) :
    Calls Try.prog 25 #[.pointer (some ⟨p, 0, none⟩), .int .u32 r, clV c] w fun e w' => e = .returned (.bool (decide (c ∈ s))) ∧ Below w.heap.size w w' := by
  have hlv := hI.lv
  have hlo := hI.lo
  have hlt := lvl_lt (A := A) (i := r) (by omega)
  by_cases hin : inside L c.a c.b = true ∧ 0 ≤ c.h ∧ c.h ≤ 1
  · have := get_in h hI.ok (i := r) hn (by omega) (c := c) (by rw [hlv]; exact hin.1) hin.2.1 hin.2.2
    rw [show decide (c ∈ A.cells r) = decide (c ∈ s) from decide_eq_decide.2 (hI.mem c)] at this
    exact this
  · have hno : c ∉ s := fun hc => hin ⟨hI.ins c hc, hI.hs c hc⟩
    rw [decide_eq_false hno]
    refine get_out h hI.ok (by omega) (by omega) ?_
    rw [hlv]
    by_cases q : inside L c.a c.b = true
    · right
      have : ¬ (0 ≤ c.h ∧ c.h ≤ 1) := fun h => hin ⟨q, h⟩
      omega
    · left; simpa using q

theorem cnt_set {A : Ar} {r L n : Nat} {s : List Cl} (hI : PutsI A r L s n) (hn : n < 10000) : (ndAt A.nodes r).cnt = s.length := by
  have hlv := hI.lv
  have hlo := hI.lo
  have h3 : 3 ≤ A.lv r := by omega
  have h1 := cl_cnt hI.ok.wf (A.lv r - 2) r (-half (A.lv r)) (-half (A.lv r)) (lvl_lt h3) (by unfold Ar.lv at *; omega)
  have h2 := hI.clen
  have h4 := hI.len
  unfold Ar.cells at h2
  rw [h2] at h1
  rw [h1]
  unfold MC
  omega

end Go.Proofs.Ytehmbhdapgkbcaa
