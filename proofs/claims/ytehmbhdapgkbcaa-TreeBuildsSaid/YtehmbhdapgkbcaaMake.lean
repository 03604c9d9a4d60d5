/- Make: an arena, and the root of a set; awake. -/
import Derived.Test.YtehmbhdapgkbcaaWide
import Derived.Test.YtehmbhdapgkbcaaBuildA
import Derived.Test.YtehmbhdapgkbcaaGetB
namespace Go.Proofs.Ytehmbhdapgkbcaa
open Go.RowKit

theorem build_of {w : World} {p : Nat} {F : Foot} {A : Ar} {v : Value} {l : List Cl} (h : ArS w p F A) (ok : A.Ok) (hl : SetOk l) (hn : A.room + l.length * 43 < 2147483647) (hv : CellRow w v l) :
    Calls Try.prog 19 #[.pointer (some ⟨p, 0, none⟩), v] w (Ret p F A (l.length * 43) (BuiltR l) w) := by
  by_cases h0 : l = []
  · subst h0
    have := build_empty h ok (by omega) hv
    simpa using this
  · exact build_set h ok hl h0 hn hv

/-- An arena with room, and the root of a set. -/
def MakePost (l : List Cl) (w : World) (e : Ending) (w' : World) : Prop :=
  ∃ p F A r, e = .returned (.tuple #[.pointer (some ⟨p, 0, none⟩), U32 r, .bool true]) ∧ ArS w' p F A ∧ A.Ok ∧ A.most = 1048576 ∧ A.room ≤ 43 + l.length * 43 ∧ r < A.nodes.length ∧ BuiltR l r A ∧ Below w.heap.size w w' ∧ ∀ k, F.at p k → w.heap.size ≤ k

set_option maxHeartbeats 4000000 in
set_option maxRecDepth 100000 in
theorem make_any {l : List Cl} {v : Value} {w : World} (h : RefRow w v l) (hl : SetOk l) (h40 : l.length ≤ 40) :
    Calls Try.prog 10 #[v] w (MakePost l w) := by
  have hnew := new_any 1048576 w
  have hok := newAr_ok 1048576
  have hrm : (newAr 1048576).room = 43 := by decide
  have hmo : (newAr 1048576).most = 1048576 := by decide
  have H := Lib.hid h
  have Hl := Lib.hid hl
  clear h hl
  go_enter Try.func10, Try.ntmps10
  go_wp2_with fail
  refine hnew.mono ?_
  rintro e w1 ⟨p, F, rfl, hS, hB1, hf⟩
  generalize newAr 1048576 = A0 at *
  have hz1 := hB1.size
  have hrow : RefRow w1 v l := H.out.move (S := Only) (.of_new hB1) fun _ _ h => h
  have hown := owns_any hrow h40
  clear hnew
  go_wp2_with fail
  refine hown.mono ?_
  rintro e w2 ⟨v2, rfl, hcr, hB2, -⟩
  have hS2 := hS.new hB2
  have hz2 := hB2.size
  have hB3 : Below w.heap.size w w2 := hB1.trans (hB2.mono hz1)
  have hbld := build_of hS2 hok Hl.out (by omega) hcr
  clear hown
  go_wp2_with fail
  refine hbld.mono ?_
  rintro e w3 ⟨r, err, F', A', rfl, hs3, ok3, hx3, hst3, hrm3, hres⟩
  obtain ⟨hB4, hf4⟩ := hst3.new_below hB3 hf
  have hmost := hx3.most
  have hrl := A'.room_le
  rcases hres with ⟨rfl, hrlt, hR⟩ | ⟨rfl, rfl, hful⟩
  · clear hbld hst3
    have HR := Lib.hid hR
    clear hR
    go_wp2_with fail
    simp only [errV]
    go_region
    go_wp2
    go_ret3
    exact ⟨p, F', A', r, rfl, hs3.drew, ok3, by omega, by omega, hrlt, HR.out, hB4.drew, hf4⟩
  · exfalso
    omega

end Go.Proofs.Ytehmbhdapgkbcaa
