/-
  No cell of these rows narrows 'for every input' (looked for: loops, veiled, ifaces, maps, wideKeys, modest, calm, conditions, laid).
  DERIVED. THE GIVEN ROWS OF THIS SEAT. 10 by the template 'for every input the law returns true; each argument reads behind the call as it read before'; 0 by the template 'total and deterministic' (their statements: YtinedhocmlcfpaaTotals.lean).
  GIVEN WITH THE SEED: the statements are not yours to turn. If you find one false, say at which input.
  Laid BY PROGRAM, IN A SANDBOX (cutbox-rows.mjs): the forced cells as the released guide's own fill.sh prints them over the translation 7a66d8eabea8ef8b… (all of the seat's roots in one cut). By AI agents, Wed Nov 11 2026. No macro, syntax, notation, axiom, sorry.
-/
import Derived.Test.YtinedhocmlcfpaaChecked
import GoSem.Claim
import GoSem.ClaimJoined
import GoSem.ClaimMapViews
import Derived.JoinedTies
import Derived.KernelRfl
namespace Go.Proofs.Ytinedhocmlcfpaa
/- THE CELL 'sum', in the pinned program and in every row, IS THE sha256 OF THE DUMP (.gsa) THAT YtinedhocmlcfpaaProg.lean LOADS. Nothing in Lean hashes anything: it is a label: what it is worth is what the hold of that sum in a sandbox is worth. -/
noncomputable def Try.pinned : Pinned := { name := "ytinedhocmlcfpaa", sum := "7a66d8eabea8ef8bcc05db4bffa38d16f33f909cb81033d9b35027f0e2bb55b5", checked := Try.checked }
namespace Rows
def none {H : Type} : Left H := { results := [], args := [] }

/-- 'frescolaw03.ClusterSplit': WHATEVER THE INPUT: true; the input reads as it did. -/
def clusterSplitSpec : ChangeSpec := { name := "clusterSplit", fn := fun _ => fun
  | [d1, d2] => { results := [.lit (.bool true)], args := [d1, d2] }
  | _ => none }
def clusterSplitRow : OpenClaim := { program := "ytinedhocmlcfpaa", sum := "7a66d8eabea8ef8bcc05db4bffa38d16f33f909cb81033d9b35027f0e2bb55b5", func := "fresco/frescolaw03.ClusterSplit", spec := "clusterSplit", unfollowed := true, recurses := true, apart := false }
def ClusterSplitSaid : Prop := clusterSplitRow.holds Try.pinned (OpenSpec.ofChange clusterSplitSpec)

/-- ITS FALSE NEIGHBOUR: 'it returns false'. Refute it at one input. -/
def clusterSplitWrong : ChangeSpec := { name := "clusterSplit", fn := fun _ => fun
  | [d1, d2] => { results := [.lit (.bool false)], args := [d1, d2] }
  | _ => none }
def ClusterSplitWrongFalsely : Prop := clusterSplitRow.holds Try.pinned (OpenSpec.ofChange clusterSplitWrong)

/-- 'frescolaw03.ClusterAll': WHATEVER THE INPUT: true; the input reads as it did. -/
def clusterAllSpec : ChangeSpec := { name := "clusterAll", fn := fun _ => fun
  | [d1, d2] => { results := [.lit (.bool true)], args := [d1, d2] }
  | _ => none }
def clusterAllRow : OpenClaim := { program := "ytinedhocmlcfpaa", sum := "7a66d8eabea8ef8bcc05db4bffa38d16f33f909cb81033d9b35027f0e2bb55b5", func := "fresco/frescolaw03.ClusterAll", spec := "clusterAll", unfollowed := true, recurses := true, apart := false }
def ClusterAllSaid : Prop := clusterAllRow.holds Try.pinned (OpenSpec.ofChange clusterAllSpec)

/-- ITS FALSE NEIGHBOUR: 'it returns false'. Refute it at one input. -/
def clusterAllWrong : ChangeSpec := { name := "clusterAll", fn := fun _ => fun
  | [d1, d2] => { results := [.lit (.bool false)], args := [d1, d2] }
  | _ => none }
def ClusterAllWrongFalsely : Prop := clusterAllRow.holds Try.pinned (OpenSpec.ofChange clusterAllWrong)

/-- 'frescolaw03.ClusterJoins': WHATEVER THE INPUT: true; the input reads as it did. -/
def clusterJoinsSpec : ChangeSpec := { name := "clusterJoins", fn := fun _ => fun
  | [d1, d2] => { results := [.lit (.bool true)], args := [d1, d2] }
  | _ => none }
def clusterJoinsRow : OpenClaim := { program := "ytinedhocmlcfpaa", sum := "7a66d8eabea8ef8bcc05db4bffa38d16f33f909cb81033d9b35027f0e2bb55b5", func := "fresco/frescolaw03.ClusterJoins", spec := "clusterJoins", unfollowed := true, recurses := true, apart := false }
def ClusterJoinsSaid : Prop := clusterJoinsRow.holds Try.pinned (OpenSpec.ofChange clusterJoinsSpec)

/-- ITS FALSE NEIGHBOUR: 'it returns false'. Refute it at one input. -/
def clusterJoinsWrong : ChangeSpec := { name := "clusterJoins", fn := fun _ => fun
  | [d1, d2] => { results := [.lit (.bool false)], args := [d1, d2] }
  | _ => none }
def ClusterJoinsWrongFalsely : Prop := clusterJoinsRow.holds Try.pinned (OpenSpec.ofChange clusterJoinsWrong)

/-- 'frescolaw03.ClusterBorders': WHATEVER THE INPUT: true; the input reads as it did. -/
def clusterBordersSpec : ChangeSpec := { name := "clusterBorders", fn := fun _ => fun
  | [d1, d2, d3] => { results := [.lit (.bool true)], args := [d1, d2, d3] }
  | _ => none }
def clusterBordersRow : OpenClaim := { program := "ytinedhocmlcfpaa", sum := "7a66d8eabea8ef8bcc05db4bffa38d16f33f909cb81033d9b35027f0e2bb55b5", func := "fresco/frescolaw03.ClusterBorders", spec := "clusterBorders", unfollowed := true, recurses := true, apart := false }
def ClusterBordersSaid : Prop := clusterBordersRow.holds Try.pinned (OpenSpec.ofChange clusterBordersSpec)

/-- ITS FALSE NEIGHBOUR: 'it returns false'. Refute it at one input. -/
def clusterBordersWrong : ChangeSpec := { name := "clusterBorders", fn := fun _ => fun
  | [d1, d2, d3] => { results := [.lit (.bool false)], args := [d1, d2, d3] }
  | _ => none }
def ClusterBordersWrongFalsely : Prop := clusterBordersRow.holds Try.pinned (OpenSpec.ofChange clusterBordersWrong)

/-- 'frescolaw03.ClusterAlone': WHATEVER THE INPUT: true; the input reads as it did. -/
def clusterAloneSpec : ChangeSpec := { name := "clusterAlone", fn := fun _ => fun
  | [d] => { results := [.lit (.bool true)], args := [d] }
  | _ => none }
def clusterAloneRow : OpenClaim := { program := "ytinedhocmlcfpaa", sum := "7a66d8eabea8ef8bcc05db4bffa38d16f33f909cb81033d9b35027f0e2bb55b5", func := "fresco/frescolaw03.ClusterAlone", spec := "clusterAlone", unfollowed := true, recurses := true, apart := false }
def ClusterAloneSaid : Prop := clusterAloneRow.holds Try.pinned (OpenSpec.ofChange clusterAloneSpec)

/-- ITS FALSE NEIGHBOUR: 'it returns false'. Refute it at one input. -/
def clusterAloneWrong : ChangeSpec := { name := "clusterAlone", fn := fun _ => fun
  | [d] => { results := [.lit (.bool false)], args := [d] }
  | _ => none }
def ClusterAloneWrongFalsely : Prop := clusterAloneRow.holds Try.pinned (OpenSpec.ofChange clusterAloneWrong)

/-- 'frescolaw03.ClusterWhole': WHATEVER THE INPUT: true; the input reads as it did. -/
def clusterWholeSpec : ChangeSpec := { name := "clusterWhole", fn := fun _ => fun
  | [d] => { results := [.lit (.bool true)], args := [d] }
  | _ => none }
def clusterWholeRow : OpenClaim := { program := "ytinedhocmlcfpaa", sum := "7a66d8eabea8ef8bcc05db4bffa38d16f33f909cb81033d9b35027f0e2bb55b5", func := "fresco/frescolaw03.ClusterWhole", spec := "clusterWhole", unfollowed := true, recurses := true, apart := false }
def ClusterWholeSaid : Prop := clusterWholeRow.holds Try.pinned (OpenSpec.ofChange clusterWholeSpec)

/-- ITS FALSE NEIGHBOUR: 'it returns false'. Refute it at one input. -/
def clusterWholeWrong : ChangeSpec := { name := "clusterWhole", fn := fun _ => fun
  | [d] => { results := [.lit (.bool false)], args := [d] }
  | _ => none }
def ClusterWholeWrongFalsely : Prop := clusterWholeRow.holds Try.pinned (OpenSpec.ofChange clusterWholeWrong)

/-- 'frescolaw03.ClusterSeams': WHATEVER THE INPUT: true; the input reads as it did. -/
def clusterSeamsSpec : ChangeSpec := { name := "clusterSeams", fn := fun _ => fun
  | [d1, d2] => { results := [.lit (.bool true)], args := [d1, d2] }
  | _ => none }
def clusterSeamsRow : OpenClaim := { program := "ytinedhocmlcfpaa", sum := "7a66d8eabea8ef8bcc05db4bffa38d16f33f909cb81033d9b35027f0e2bb55b5", func := "fresco/frescolaw03.ClusterSeams", spec := "clusterSeams", unfollowed := true, recurses := true, apart := false }
def ClusterSeamsSaid : Prop := clusterSeamsRow.holds Try.pinned (OpenSpec.ofChange clusterSeamsSpec)

/-- ITS FALSE NEIGHBOUR: 'it returns false'. Refute it at one input. -/
def clusterSeamsWrong : ChangeSpec := { name := "clusterSeams", fn := fun _ => fun
  | [d1, d2] => { results := [.lit (.bool false)], args := [d1, d2] }
  | _ => none }
def ClusterSeamsWrongFalsely : Prop := clusterSeamsRow.holds Try.pinned (OpenSpec.ofChange clusterSeamsWrong)

/-- 'frescolaw03.ClusterCut': WHATEVER THE INPUT: true; the input reads as it did. -/
def clusterCutSpec : ChangeSpec := { name := "clusterCut", fn := fun _ => fun
  | [d1, d2] => { results := [.lit (.bool true)], args := [d1, d2] }
  | _ => none }
def clusterCutRow : OpenClaim := { program := "ytinedhocmlcfpaa", sum := "7a66d8eabea8ef8bcc05db4bffa38d16f33f909cb81033d9b35027f0e2bb55b5", func := "fresco/frescolaw03.ClusterCut", spec := "clusterCut", unfollowed := true, recurses := true, apart := false }
def ClusterCutSaid : Prop := clusterCutRow.holds Try.pinned (OpenSpec.ofChange clusterCutSpec)

/-- ITS FALSE NEIGHBOUR: 'it returns false'. Refute it at one input. -/
def clusterCutWrong : ChangeSpec := { name := "clusterCut", fn := fun _ => fun
  | [d1, d2] => { results := [.lit (.bool false)], args := [d1, d2] }
  | _ => none }
def ClusterCutWrongFalsely : Prop := clusterCutRow.holds Try.pinned (OpenSpec.ofChange clusterCutWrong)

/-- 'frescolaw03.ClusterCuts': WHATEVER THE INPUT: true; the input reads as it did. -/
def clusterCutsSpec : ChangeSpec := { name := "clusterCuts", fn := fun _ => fun
  | [d1, d2] => { results := [.lit (.bool true)], args := [d1, d2] }
  | _ => none }
def clusterCutsRow : OpenClaim := { program := "ytinedhocmlcfpaa", sum := "7a66d8eabea8ef8bcc05db4bffa38d16f33f909cb81033d9b35027f0e2bb55b5", func := "fresco/frescolaw03.ClusterCuts", spec := "clusterCuts", unfollowed := true, recurses := true, apart := false }
def ClusterCutsSaid : Prop := clusterCutsRow.holds Try.pinned (OpenSpec.ofChange clusterCutsSpec)

/-- ITS FALSE NEIGHBOUR: 'it returns false'. Refute it at one input. -/
def clusterCutsWrong : ChangeSpec := { name := "clusterCuts", fn := fun _ => fun
  | [d1, d2] => { results := [.lit (.bool false)], args := [d1, d2] }
  | _ => none }
def ClusterCutsWrongFalsely : Prop := clusterCutsRow.holds Try.pinned (OpenSpec.ofChange clusterCutsWrong)

/-- 'frescolaw03.ClusterKnown': WHATEVER THE INPUT: true; the input reads as it did. -/
def clusterKnownSpec : ChangeSpec := { name := "clusterKnown", fn := fun _ => fun
  | [] => { results := [.lit (.bool true)], args := [] }
  | _ => none }
def clusterKnownRow : OpenClaim := { program := "ytinedhocmlcfpaa", sum := "7a66d8eabea8ef8bcc05db4bffa38d16f33f909cb81033d9b35027f0e2bb55b5", func := "fresco/frescolaw03.ClusterKnown", spec := "clusterKnown", unfollowed := true, recurses := true, apart := false }
def ClusterKnownSaid : Prop := clusterKnownRow.holds Try.pinned (OpenSpec.ofChange clusterKnownSpec)

/-- ITS FALSE NEIGHBOUR: 'it returns false'. Refute it at one input. -/
def clusterKnownWrong : ChangeSpec := { name := "clusterKnown", fn := fun _ => fun
  | [] => { results := [.lit (.bool false)], args := [] }
  | _ => none }
def ClusterKnownWrongFalsely : Prop := clusterKnownRow.holds Try.pinned (OpenSpec.ofChange clusterKnownWrong)

/- THE SECOND FORM. 'bulk': how many values and letters a reading holds, each counted each time it is reached (what is shared counts as often as it is met; a slice's spare places count too). A statement '..UptoSaid' is the law's where the arguments, and the package variables that the reading takes, are together of bulk at most 1048576: NARROWER than '..Said'. Prove '..Said' where nothing that the law and all that it calls make is longer than what came in: it says more and counts as full. Else prove '..UptoSaid'. A law counts once. -/
mutual
def uptoBulk {H : Type} : DataW H → Nat
  | .lit (.string bytes) => bytes.length + 1
  | .lit _ => 1
  | .nil => 1
  | .ptr d => uptoBulk d + 1
  | .slice elems spare => uptoBulkAll elems + uptoBulkAll spare + 1
  | .agg parts => uptoBulkAll parts + 1
  | .iface _ d => uptoBulk d + 1
  | .map entries => uptoBulkEntries entries + 1
  | .held _ => 1
def uptoBulkAll {H : Type} : List (DataW H) → Nat
  | [] => 0
  | d :: r => uptoBulk d + uptoBulkAll r
def uptoBulkEntries {H : Type} : List (Lit × DataW H) → Nat
  | [] => 0
  | x :: r => uptoBulkEntry x + uptoBulkEntries r
def uptoBulkEntry {H : Type} : Lit × DataW H → Nat
  | (.string bytes, d) => bytes.length + uptoBulk d + 1
  | (_, d) => uptoBulk d + 1
 end
def uptoSmall : (H : Type) → List (DataW H) → Bool := fun _ ds => decide (uptoBulkAll ds ≤ 1048576)
def OpenSpec.upto (s : _root_.Go.ChangeSpec) : _root_.Go.OpenSpec := { _root_.Go.OpenSpec.ofChange s with cond := some uptoSmall }

/-- 'frescolaw03.ClusterSplit', WHERE WHAT IT READS IS OF BULK AT MOST 1048576: true; the input reads as it did. -/
def clusterSplitUptoRow : OpenClaim := { program := "ytinedhocmlcfpaa", sum := "7a66d8eabea8ef8bcc05db4bffa38d16f33f909cb81033d9b35027f0e2bb55b5", func := "fresco/frescolaw03.ClusterSplit", spec := "clusterSplit", unfollowed := true, recurses := true, apart := false, narrowed := true }
def ClusterSplitUptoSaid : Prop := clusterSplitUptoRow.holds Try.pinned (OpenSpec.upto clusterSplitSpec)

/-- 'frescolaw03.ClusterAll', WHERE WHAT IT READS IS OF BULK AT MOST 1048576: true; the input reads as it did. -/
def clusterAllUptoRow : OpenClaim := { program := "ytinedhocmlcfpaa", sum := "7a66d8eabea8ef8bcc05db4bffa38d16f33f909cb81033d9b35027f0e2bb55b5", func := "fresco/frescolaw03.ClusterAll", spec := "clusterAll", unfollowed := true, recurses := true, apart := false, narrowed := true }
def ClusterAllUptoSaid : Prop := clusterAllUptoRow.holds Try.pinned (OpenSpec.upto clusterAllSpec)

/-- 'frescolaw03.ClusterJoins', WHERE WHAT IT READS IS OF BULK AT MOST 1048576: true; the input reads as it did. -/
def clusterJoinsUptoRow : OpenClaim := { program := "ytinedhocmlcfpaa", sum := "7a66d8eabea8ef8bcc05db4bffa38d16f33f909cb81033d9b35027f0e2bb55b5", func := "fresco/frescolaw03.ClusterJoins", spec := "clusterJoins", unfollowed := true, recurses := true, apart := false, narrowed := true }
def ClusterJoinsUptoSaid : Prop := clusterJoinsUptoRow.holds Try.pinned (OpenSpec.upto clusterJoinsSpec)

/-- 'frescolaw03.ClusterBorders', WHERE WHAT IT READS IS OF BULK AT MOST 1048576: true; the input reads as it did. -/
def clusterBordersUptoRow : OpenClaim := { program := "ytinedhocmlcfpaa", sum := "7a66d8eabea8ef8bcc05db4bffa38d16f33f909cb81033d9b35027f0e2bb55b5", func := "fresco/frescolaw03.ClusterBorders", spec := "clusterBorders", unfollowed := true, recurses := true, apart := false, narrowed := true }
def ClusterBordersUptoSaid : Prop := clusterBordersUptoRow.holds Try.pinned (OpenSpec.upto clusterBordersSpec)

/-- 'frescolaw03.ClusterAlone', WHERE WHAT IT READS IS OF BULK AT MOST 1048576: true; the input reads as it did. -/
def clusterAloneUptoRow : OpenClaim := { program := "ytinedhocmlcfpaa", sum := "7a66d8eabea8ef8bcc05db4bffa38d16f33f909cb81033d9b35027f0e2bb55b5", func := "fresco/frescolaw03.ClusterAlone", spec := "clusterAlone", unfollowed := true, recurses := true, apart := false, narrowed := true }
def ClusterAloneUptoSaid : Prop := clusterAloneUptoRow.holds Try.pinned (OpenSpec.upto clusterAloneSpec)

/-- 'frescolaw03.ClusterWhole', WHERE WHAT IT READS IS OF BULK AT MOST 1048576: true; the input reads as it did. -/
def clusterWholeUptoRow : OpenClaim := { program := "ytinedhocmlcfpaa", sum := "7a66d8eabea8ef8bcc05db4bffa38d16f33f909cb81033d9b35027f0e2bb55b5", func := "fresco/frescolaw03.ClusterWhole", spec := "clusterWhole", unfollowed := true, recurses := true, apart := false, narrowed := true }
def ClusterWholeUptoSaid : Prop := clusterWholeUptoRow.holds Try.pinned (OpenSpec.upto clusterWholeSpec)

/-- 'frescolaw03.ClusterSeams', WHERE WHAT IT READS IS OF BULK AT MOST 1048576: true; the input reads as it did. -/
def clusterSeamsUptoRow : OpenClaim := { program := "ytinedhocmlcfpaa", sum := "7a66d8eabea8ef8bcc05db4bffa38d16f33f909cb81033d9b35027f0e2bb55b5", func := "fresco/frescolaw03.ClusterSeams", spec := "clusterSeams", unfollowed := true, recurses := true, apart := false, narrowed := true }
def ClusterSeamsUptoSaid : Prop := clusterSeamsUptoRow.holds Try.pinned (OpenSpec.upto clusterSeamsSpec)

/-- 'frescolaw03.ClusterCut', WHERE WHAT IT READS IS OF BULK AT MOST 1048576: true; the input reads as it did. -/
def clusterCutUptoRow : OpenClaim := { program := "ytinedhocmlcfpaa", sum := "7a66d8eabea8ef8bcc05db4bffa38d16f33f909cb81033d9b35027f0e2bb55b5", func := "fresco/frescolaw03.ClusterCut", spec := "clusterCut", unfollowed := true, recurses := true, apart := false, narrowed := true }
def ClusterCutUptoSaid : Prop := clusterCutUptoRow.holds Try.pinned (OpenSpec.upto clusterCutSpec)

/-- 'frescolaw03.ClusterCuts', WHERE WHAT IT READS IS OF BULK AT MOST 1048576: true; the input reads as it did. -/
def clusterCutsUptoRow : OpenClaim := { program := "ytinedhocmlcfpaa", sum := "7a66d8eabea8ef8bcc05db4bffa38d16f33f909cb81033d9b35027f0e2bb55b5", func := "fresco/frescolaw03.ClusterCuts", spec := "clusterCuts", unfollowed := true, recurses := true, apart := false, narrowed := true }
def ClusterCutsUptoSaid : Prop := clusterCutsUptoRow.holds Try.pinned (OpenSpec.upto clusterCutsSpec)

/-- 'frescolaw03.ClusterKnown', WHERE WHAT IT READS IS OF BULK AT MOST 1048576: true; the input reads as it did. -/
def clusterKnownUptoRow : OpenClaim := { program := "ytinedhocmlcfpaa", sum := "7a66d8eabea8ef8bcc05db4bffa38d16f33f909cb81033d9b35027f0e2bb55b5", func := "fresco/frescolaw03.ClusterKnown", spec := "clusterKnown", unfollowed := true, recurses := true, apart := false, narrowed := true }
def ClusterKnownUptoSaid : Prop := clusterKnownUptoRow.holds Try.pinned (OpenSpec.upto clusterKnownSpec)

end Rows
end Go.Proofs.Ytinedhocmlcfpaa
