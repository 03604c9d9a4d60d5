/-
  No cell of these rows narrows 'for every input' (looked for: loops, veiled, ifaces, maps, wideKeys, modest, calm, conditions, laid).
  DERIVED. THE GIVEN ROWS OF THIS SEAT. 5 by the template 'for every input the law returns true; each argument reads behind the call as it read before'; 0 by the template 'total and deterministic' (their statements: YtehmbhdapgkbcaaTotals.lean).
  GIVEN WITH THE SEED: the statements are not yours to turn. If you find one false, say at which input.
  Laid BY PROGRAM, IN A SANDBOX (cutbox-rows.mjs): the forced cells as the released guide's own fill.sh prints them over the translation 576f413da0faa371… (all of the seat's roots in one cut). By AI agents, Wed Nov 11 2026. No macro, syntax, notation, axiom, sorry.
-/
import Derived.Test.YtehmbhdapgkbcaaChecked
import GoSem.Claim
import GoSem.ClaimJoined
import GoSem.ClaimMapViews
import Derived.JoinedTies
import Derived.KernelRfl
namespace Go.Proofs.Ytehmbhdapgkbcaa
/- THE CELL 'sum', in the pinned program and in every row, IS THE sha256 OF THE DUMP (.gsa) THAT YtehmbhdapgkbcaaProg.lean LOADS. Nothing in Lean hashes anything: it is a label: what it is worth is what the hold of that sum in a sandbox is worth. -/
noncomputable def Try.pinned : Pinned := { name := "ytehmbhdapgkbcaa", sum := "576f413da0faa371c7989b8189a2bbd22b294911e90d1c3fa193c4adddf21ec9", checked := Try.checked }
namespace Rows
def none {H : Type} : Left H := { results := [], args := [] }

/-- 'honeycomblaw13.TreePuts': WHATEVER THE INPUT: true; the input reads as it did. -/
def treePutsSpec : ChangeSpec := { name := "treePuts", fn := fun _ => fun
  | [d1, d2, d3] => { results := [.lit (.bool true)], args := [d1, d2, d3] }
  | _ => none }
def treePutsRow : OpenClaim := { program := "ytehmbhdapgkbcaa", sum := "576f413da0faa371c7989b8189a2bbd22b294911e90d1c3fa193c4adddf21ec9", func := "honeycomb/honeycomblaw13.TreePuts", spec := "treePuts", unfollowed := true, recurses := true, plainKeys := false, apart := false }
def TreePutsSaid : Prop := treePutsRow.holds Try.pinned (OpenSpec.ofChange treePutsSpec)

/-- ITS FALSE NEIGHBOUR: 'it returns false'. Refute it at one input. -/
def treePutsWrong : ChangeSpec := { name := "treePuts", fn := fun _ => fun
  | [d1, d2, d3] => { results := [.lit (.bool false)], args := [d1, d2, d3] }
  | _ => none }
def TreePutsWrongFalsely : Prop := treePutsRow.holds Try.pinned (OpenSpec.ofChange treePutsWrong)

/-- 'honeycomblaw13.TreeBuilds': WHATEVER THE INPUT: true; the input reads as it did. -/
def treeBuildsSpec : ChangeSpec := { name := "treeBuilds", fn := fun _ => fun
  | [d1, d2, d3] => { results := [.lit (.bool true)], args := [d1, d2, d3] }
  | _ => none }
def treeBuildsRow : OpenClaim := { program := "ytehmbhdapgkbcaa", sum := "576f413da0faa371c7989b8189a2bbd22b294911e90d1c3fa193c4adddf21ec9", func := "honeycomb/honeycomblaw13.TreeBuilds", spec := "treeBuilds", unfollowed := true, recurses := true, plainKeys := false, apart := false }
def TreeBuildsSaid : Prop := treeBuildsRow.holds Try.pinned (OpenSpec.ofChange treeBuildsSpec)

/-- ITS FALSE NEIGHBOUR: 'it returns false'. Refute it at one input. -/
def treeBuildsWrong : ChangeSpec := { name := "treeBuilds", fn := fun _ => fun
  | [d1, d2, d3] => { results := [.lit (.bool false)], args := [d1, d2, d3] }
  | _ => none }
def TreeBuildsWrongFalsely : Prop := treeBuildsRow.holds Try.pinned (OpenSpec.ofChange treeBuildsWrong)

/-- 'honeycomblaw17.SweepCopies': WHATEVER THE INPUT: true; the input reads as it did. -/
def sweepCopiesSpec : ChangeSpec := { name := "sweepCopies", fn := fun _ => fun
  | [d1, d2, d3] => { results := [.lit (.bool true)], args := [d1, d2, d3] }
  | _ => none }
def sweepCopiesRow : OpenClaim := { program := "ytehmbhdapgkbcaa", sum := "576f413da0faa371c7989b8189a2bbd22b294911e90d1c3fa193c4adddf21ec9", func := "honeycomb/honeycomblaw17.SweepCopies", spec := "sweepCopies", unfollowed := true, recurses := true, plainKeys := false, apart := false }
def SweepCopiesSaid : Prop := sweepCopiesRow.holds Try.pinned (OpenSpec.ofChange sweepCopiesSpec)

/-- ITS FALSE NEIGHBOUR: 'it returns false'. Refute it at one input. -/
def sweepCopiesWrong : ChangeSpec := { name := "sweepCopies", fn := fun _ => fun
  | [d1, d2, d3] => { results := [.lit (.bool false)], args := [d1, d2, d3] }
  | _ => none }
def SweepCopiesWrongFalsely : Prop := sweepCopiesRow.holds Try.pinned (OpenSpec.ofChange sweepCopiesWrong)

/-- 'honeycomblaw17.SweepAgain': WHATEVER THE INPUT: true; the input reads as it did. -/
def sweepAgainSpec : ChangeSpec := { name := "sweepAgain", fn := fun _ => fun
  | [d1, d2] => { results := [.lit (.bool true)], args := [d1, d2] }
  | _ => none }
def sweepAgainRow : OpenClaim := { program := "ytehmbhdapgkbcaa", sum := "576f413da0faa371c7989b8189a2bbd22b294911e90d1c3fa193c4adddf21ec9", func := "honeycomb/honeycomblaw17.SweepAgain", spec := "sweepAgain", unfollowed := true, recurses := true, plainKeys := false, apart := false }
def SweepAgainSaid : Prop := sweepAgainRow.holds Try.pinned (OpenSpec.ofChange sweepAgainSpec)

/-- ITS FALSE NEIGHBOUR: 'it returns false'. Refute it at one input. -/
def sweepAgainWrong : ChangeSpec := { name := "sweepAgain", fn := fun _ => fun
  | [d1, d2] => { results := [.lit (.bool false)], args := [d1, d2] }
  | _ => none }
def SweepAgainWrongFalsely : Prop := sweepAgainRow.holds Try.pinned (OpenSpec.ofChange sweepAgainWrong)

/-- 'honeycomblaw13.TreeFew': WHATEVER THE INPUT: true; the input reads as it did. -/
def treeFewSpec : ChangeSpec := { name := "treeFew", fn := fun _ => fun
  | [d1, d2] => { results := [.lit (.bool true)], args := [d1, d2] }
  | _ => none }
def treeFewRow : OpenClaim := { program := "ytehmbhdapgkbcaa", sum := "576f413da0faa371c7989b8189a2bbd22b294911e90d1c3fa193c4adddf21ec9", func := "honeycomb/honeycomblaw13.TreeFew", spec := "treeFew", unfollowed := true, recurses := true, plainKeys := false, apart := false }
def TreeFewSaid : Prop := treeFewRow.holds Try.pinned (OpenSpec.ofChange treeFewSpec)

/-- ITS FALSE NEIGHBOUR: 'it returns false'. Refute it at one input. -/
def treeFewWrong : ChangeSpec := { name := "treeFew", fn := fun _ => fun
  | [d1, d2] => { results := [.lit (.bool false)], args := [d1, d2] }
  | _ => none }
def TreeFewWrongFalsely : Prop := treeFewRow.holds Try.pinned (OpenSpec.ofChange treeFewWrong)

/- THE SECOND FORM. 'bulk': how many values and letters a reading holds, each counted each time it is reached (what is shared counts as often as it is met; a slice's spare places count too). A statement '..UptoSaid' is the law's where the arguments, and the package variables that the reading takes, are together of bulk at most 1048576: NARROWER than '..Said'. Prove '..Said' where nothing that the law and all that it calls make is longer than what came in: it says more and counts as full. Else prove '..UptoSaid'. A law counts once. -/
mutual
def uptoBulk {H : Type} : DataW H → Nat
  | .lit (.string bytes) => bytes.length + 1
  | .lit _ => 1
  | .nil => 1
  | .ptr d => uptoBulk d + 1
  | .slice elems spare => uptoBulkAll elems + uptoBulkAll spare + 1
  | .agg parts => uptoBulkAll parts + 1
  | .iface _ d => uptoBulk d + 1
  | .map entries => uptoBulkEntries entries + 1
  | .held _ => 1
def uptoBulkAll {H : Type} : List (DataW H) → Nat
  | [] => 0
  | d :: r => uptoBulk d + uptoBulkAll r
def uptoBulkEntries {H : Type} : List (Lit × DataW H) → Nat
  | [] => 0
  | x :: r => uptoBulkEntry x + uptoBulkEntries r
def uptoBulkEntry {H : Type} : Lit × DataW H → Nat
  | (.string bytes, d) => bytes.length + uptoBulk d + 1
  | (_, d) => uptoBulk d + 1
 end
def uptoSmall : (H : Type) → List (DataW H) → Bool := fun _ ds => decide (uptoBulkAll ds ≤ 1048576)
def OpenSpec.upto (s : _root_.Go.ChangeSpec) : _root_.Go.OpenSpec := { _root_.Go.OpenSpec.ofChange s with cond := some uptoSmall }

/-- 'honeycomblaw13.TreePuts', WHERE WHAT IT READS IS OF BULK AT MOST 1048576: true; the input reads as it did. -/
def treePutsUptoRow : OpenClaim := { program := "ytehmbhdapgkbcaa", sum := "576f413da0faa371c7989b8189a2bbd22b294911e90d1c3fa193c4adddf21ec9", func := "honeycomb/honeycomblaw13.TreePuts", spec := "treePuts", unfollowed := true, recurses := true, plainKeys := false, apart := false, narrowed := true }
def TreePutsUptoSaid : Prop := treePutsUptoRow.holds Try.pinned (OpenSpec.upto treePutsSpec)

/-- 'honeycomblaw13.TreeBuilds', WHERE WHAT IT READS IS OF BULK AT MOST 1048576: true; the input reads as it did. -/
def treeBuildsUptoRow : OpenClaim := { program := "ytehmbhdapgkbcaa", sum := "576f413da0faa371c7989b8189a2bbd22b294911e90d1c3fa193c4adddf21ec9", func := "honeycomb/honeycomblaw13.TreeBuilds", spec := "treeBuilds", unfollowed := true, recurses := true, plainKeys := false, apart := false, narrowed := true }
def TreeBuildsUptoSaid : Prop := treeBuildsUptoRow.holds Try.pinned (OpenSpec.upto treeBuildsSpec)

/-- 'honeycomblaw17.SweepCopies', WHERE WHAT IT READS IS OF BULK AT MOST 1048576: true; the input reads as it did. -/
def sweepCopiesUptoRow : OpenClaim := { program := "ytehmbhdapgkbcaa", sum := "576f413da0faa371c7989b8189a2bbd22b294911e90d1c3fa193c4adddf21ec9", func := "honeycomb/honeycomblaw17.SweepCopies", spec := "sweepCopies", unfollowed := true, recurses := true, plainKeys := false, apart := false, narrowed := true }
def SweepCopiesUptoSaid : Prop := sweepCopiesUptoRow.holds Try.pinned (OpenSpec.upto sweepCopiesSpec)

/-- 'honeycomblaw17.SweepAgain', WHERE WHAT IT READS IS OF BULK AT MOST 1048576: true; the input reads as it did. -/
def sweepAgainUptoRow : OpenClaim := { program := "ytehmbhdapgkbcaa", sum := "576f413da0faa371c7989b8189a2bbd22b294911e90d1c3fa193c4adddf21ec9", func := "honeycomb/honeycomblaw17.SweepAgain", spec := "sweepAgain", unfollowed := true, recurses := true, plainKeys := false, apart := false, narrowed := true }
def SweepAgainUptoSaid : Prop := sweepAgainUptoRow.holds Try.pinned (OpenSpec.upto sweepAgainSpec)

/-- 'honeycomblaw13.TreeFew', WHERE WHAT IT READS IS OF BULK AT MOST 1048576: true; the input reads as it did. -/
def treeFewUptoRow : OpenClaim := { program := "ytehmbhdapgkbcaa", sum := "576f413da0faa371c7989b8189a2bbd22b294911e90d1c3fa193c4adddf21ec9", func := "honeycomb/honeycomblaw13.TreeFew", spec := "treeFew", unfollowed := true, recurses := true, plainKeys := false, apart := false, narrowed := true }
def TreeFewUptoSaid : Prop := treeFewUptoRow.holds Try.pinned (OpenSpec.upto treeFewSpec)

end Rows
end Go.Proofs.Ytehmbhdapgkbcaa
