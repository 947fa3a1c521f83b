/-
  No cell of these rows narrows 'for every input' (looked for: loops, veiled, ifaces, maps, wideKeys, modest, calm, conditions, laid).
  DERIVED. THE GIVEN ROWS OF THIS SEAT. 9 by the template 'for every input the law returns true; each argument reads behind the call as it read before'; 0 by the template 'total and deterministic' (their statements: YtgniobgadilpgaaTotals.lean).
  GIVEN WITH THE SEED: the statements are not yours to turn. If you find one false, say at which input.
  Laid BY PROGRAM, IN A SANDBOX (cutbox-rows.mjs): the forced cells as the released guide's own fill.sh prints them over the translation 835e95968475b5c4… (all of the seat's roots in one cut). By AI agents, Wed Nov 11 2026. No macro, syntax, notation, axiom, sorry.
-/
import Derived.Test.YtgniobgadilpgaaChecked
import GoSem.Claim
import GoSem.ClaimJoined
import GoSem.ClaimMapViews
import Derived.JoinedTies
import Derived.KernelRfl
namespace Go.Proofs.Ytgniobgadilpgaa
/- THE CELL 'sum', in the pinned program and in every row, IS THE sha256 OF THE DUMP (.gsa) THAT YtgniobgadilpgaaProg.lean LOADS. Nothing in Lean hashes anything: it is a label: what it is worth is what the hold of that sum in a sandbox is worth. -/
noncomputable def Try.pinned : Pinned := { name := "ytgniobgadilpgaa", sum := "835e95968475b5c4cf2dcb1a9f74fb952f0ad85be97b9e50bd7c8f701dc8f8c8", checked := Try.checked }
namespace Rows
def none {H : Type} : Left H := { results := [], args := [] }

/-- 'frescolaw04.WrapFlow': WHATEVER THE INPUT: true; the input reads as it did. -/
def wrapFlowSpec : ChangeSpec := { name := "wrapFlow", fn := fun _ => fun
  | [d] => { results := [.lit (.bool true)], args := [d] }
  | _ => none }
def wrapFlowRow : OpenClaim := { program := "ytgniobgadilpgaa", sum := "835e95968475b5c4cf2dcb1a9f74fb952f0ad85be97b9e50bd7c8f701dc8f8c8", func := "fresco/frescolaw04.WrapFlow", spec := "wrapFlow", inPlace := ["internal/abi.NoEscape", "internal/bytealg.MakeNoZero"], unfollowed := true, recurses := true, apart := false }
def WrapFlowSaid : Prop := wrapFlowRow.holds Try.pinned (OpenSpec.ofChange wrapFlowSpec)

/-- ITS FALSE NEIGHBOUR: 'it returns false'. Refute it at one input. -/
def wrapFlowWrong : ChangeSpec := { name := "wrapFlow", fn := fun _ => fun
  | [d] => { results := [.lit (.bool false)], args := [d] }
  | _ => none }
def WrapFlowWrongFalsely : Prop := wrapFlowRow.holds Try.pinned (OpenSpec.ofChange wrapFlowWrong)

/-- 'frescolaw04.WrapWidths': WHATEVER THE INPUT: true; the input reads as it did. -/
def wrapWidthsSpec : ChangeSpec := { name := "wrapWidths", fn := fun _ => fun
  | [d1, d2] => { results := [.lit (.bool true)], args := [d1, d2] }
  | _ => none }
def wrapWidthsRow : OpenClaim := { program := "ytgniobgadilpgaa", sum := "835e95968475b5c4cf2dcb1a9f74fb952f0ad85be97b9e50bd7c8f701dc8f8c8", func := "fresco/frescolaw04.WrapWidths", spec := "wrapWidths", inPlace := ["internal/abi.NoEscape", "internal/bytealg.MakeNoZero"], unfollowed := true, recurses := true, apart := false }
def WrapWidthsSaid : Prop := wrapWidthsRow.holds Try.pinned (OpenSpec.ofChange wrapWidthsSpec)

/-- ITS FALSE NEIGHBOUR: 'it returns false'. Refute it at one input. -/
def wrapWidthsWrong : ChangeSpec := { name := "wrapWidths", fn := fun _ => fun
  | [d1, d2] => { results := [.lit (.bool false)], args := [d1, d2] }
  | _ => none }
def WrapWidthsWrongFalsely : Prop := wrapWidthsRow.holds Try.pinned (OpenSpec.ofChange wrapWidthsWrong)

/-- 'frescolaw04.WrapAlign': WHATEVER THE INPUT: true; the input reads as it did. -/
def wrapAlignSpec : ChangeSpec := { name := "wrapAlign", fn := fun _ => fun
  | [d1, d2, d3] => { results := [.lit (.bool true)], args := [d1, d2, d3] }
  | _ => none }
def wrapAlignRow : OpenClaim := { program := "ytgniobgadilpgaa", sum := "835e95968475b5c4cf2dcb1a9f74fb952f0ad85be97b9e50bd7c8f701dc8f8c8", func := "fresco/frescolaw04.WrapAlign", spec := "wrapAlign", inPlace := ["internal/abi.NoEscape", "internal/bytealg.MakeNoZero"], unfollowed := true, recurses := true, apart := false }
def WrapAlignSaid : Prop := wrapAlignRow.holds Try.pinned (OpenSpec.ofChange wrapAlignSpec)

/-- ITS FALSE NEIGHBOUR: 'it returns false'. Refute it at one input. -/
def wrapAlignWrong : ChangeSpec := { name := "wrapAlign", fn := fun _ => fun
  | [d1, d2, d3] => { results := [.lit (.bool false)], args := [d1, d2, d3] }
  | _ => none }
def WrapAlignWrongFalsely : Prop := wrapAlignRow.holds Try.pinned (OpenSpec.ofChange wrapAlignWrong)

/-- 'frescolaw04.WrapTrim': WHATEVER THE INPUT: true; the input reads as it did. -/
def wrapTrimSpec : ChangeSpec := { name := "wrapTrim", fn := fun _ => fun
  | [d1, d2] => { results := [.lit (.bool true)], args := [d1, d2] }
  | _ => none }
def wrapTrimRow : OpenClaim := { program := "ytgniobgadilpgaa", sum := "835e95968475b5c4cf2dcb1a9f74fb952f0ad85be97b9e50bd7c8f701dc8f8c8", func := "fresco/frescolaw04.WrapTrim", spec := "wrapTrim", inPlace := ["internal/abi.NoEscape", "internal/bytealg.MakeNoZero"], unfollowed := true, recurses := true, apart := false }
def WrapTrimSaid : Prop := wrapTrimRow.holds Try.pinned (OpenSpec.ofChange wrapTrimSpec)

/-- ITS FALSE NEIGHBOUR: 'it returns false'. Refute it at one input. -/
def wrapTrimWrong : ChangeSpec := { name := "wrapTrim", fn := fun _ => fun
  | [d1, d2] => { results := [.lit (.bool false)], args := [d1, d2] }
  | _ => none }
def WrapTrimWrongFalsely : Prop := wrapTrimRow.holds Try.pinned (OpenSpec.ofChange wrapTrimWrong)

/-- 'frescolaw04.WrapNames': WHATEVER THE INPUT: true; the input reads as it did. -/
def wrapNamesSpec : ChangeSpec := { name := "wrapNames", fn := fun _ => fun
  | [] => { results := [.lit (.bool true)], args := [] }
  | _ => none }
def wrapNamesRow : OpenClaim := { program := "ytgniobgadilpgaa", sum := "835e95968475b5c4cf2dcb1a9f74fb952f0ad85be97b9e50bd7c8f701dc8f8c8", func := "fresco/frescolaw04.WrapNames", spec := "wrapNames", inPlace := ["internal/abi.NoEscape", "internal/bytealg.MakeNoZero"], unfollowed := true, recurses := true, apart := false }
def WrapNamesSaid : Prop := wrapNamesRow.holds Try.pinned (OpenSpec.ofChange wrapNamesSpec)

/-- ITS FALSE NEIGHBOUR: 'it returns false'. Refute it at one input. -/
def wrapNamesWrong : ChangeSpec := { name := "wrapNames", fn := fun _ => fun
  | [] => { results := [.lit (.bool false)], args := [] }
  | _ => none }
def WrapNamesWrongFalsely : Prop := wrapNamesRow.holds Try.pinned (OpenSpec.ofChange wrapNamesWrong)

/-- 'frescolaw04.WrapBack': WHATEVER THE INPUT: true; the input reads as it did. -/
def wrapBackSpec : ChangeSpec := { name := "wrapBack", fn := fun _ => fun
  | [d1, d2, d3] => { results := [.lit (.bool true)], args := [d1, d2, d3] }
  | _ => none }
def wrapBackRow : OpenClaim := { program := "ytgniobgadilpgaa", sum := "835e95968475b5c4cf2dcb1a9f74fb952f0ad85be97b9e50bd7c8f701dc8f8c8", func := "fresco/frescolaw04.WrapBack", spec := "wrapBack", inPlace := ["internal/abi.NoEscape", "internal/bytealg.MakeNoZero"], unfollowed := true, recurses := true, apart := false }
def WrapBackSaid : Prop := wrapBackRow.holds Try.pinned (OpenSpec.ofChange wrapBackSpec)

/-- ITS FALSE NEIGHBOUR: 'it returns false'. Refute it at one input. -/
def wrapBackWrong : ChangeSpec := { name := "wrapBack", fn := fun _ => fun
  | [d1, d2, d3] => { results := [.lit (.bool false)], args := [d1, d2, d3] }
  | _ => none }
def WrapBackWrongFalsely : Prop := wrapBackRow.holds Try.pinned (OpenSpec.ofChange wrapBackWrong)

/-- 'frescolaw04.WrapFits': WHATEVER THE INPUT: true; the input reads as it did. -/
def wrapFitsSpec : ChangeSpec := { name := "wrapFits", fn := fun _ => fun
  | [d1, d2, d3] => { results := [.lit (.bool true)], args := [d1, d2, d3] }
  | _ => none }
def wrapFitsRow : OpenClaim := { program := "ytgniobgadilpgaa", sum := "835e95968475b5c4cf2dcb1a9f74fb952f0ad85be97b9e50bd7c8f701dc8f8c8", func := "fresco/frescolaw04.WrapFits", spec := "wrapFits", inPlace := ["internal/abi.NoEscape", "internal/bytealg.MakeNoZero"], unfollowed := true, recurses := true, apart := false }
def WrapFitsSaid : Prop := wrapFitsRow.holds Try.pinned (OpenSpec.ofChange wrapFitsSpec)

/-- ITS FALSE NEIGHBOUR: 'it returns false'. Refute it at one input. -/
def wrapFitsWrong : ChangeSpec := { name := "wrapFits", fn := fun _ => fun
  | [d1, d2, d3] => { results := [.lit (.bool false)], args := [d1, d2, d3] }
  | _ => none }
def WrapFitsWrongFalsely : Prop := wrapFitsRow.holds Try.pinned (OpenSpec.ofChange wrapFitsWrong)

/-- 'frescolaw04.WrapLines': WHATEVER THE INPUT: true; the input reads as it did. -/
def wrapLinesSpec : ChangeSpec := { name := "wrapLines", fn := fun _ => fun
  | [d1, d2, d3] => { results := [.lit (.bool true)], args := [d1, d2, d3] }
  | _ => none }
def wrapLinesRow : OpenClaim := { program := "ytgniobgadilpgaa", sum := "835e95968475b5c4cf2dcb1a9f74fb952f0ad85be97b9e50bd7c8f701dc8f8c8", func := "fresco/frescolaw04.WrapLines", spec := "wrapLines", inPlace := ["internal/abi.NoEscape", "internal/bytealg.MakeNoZero"], unfollowed := true, recurses := true, apart := false }
def WrapLinesSaid : Prop := wrapLinesRow.holds Try.pinned (OpenSpec.ofChange wrapLinesSpec)

/-- ITS FALSE NEIGHBOUR: 'it returns false'. Refute it at one input. -/
def wrapLinesWrong : ChangeSpec := { name := "wrapLines", fn := fun _ => fun
  | [d1, d2, d3] => { results := [.lit (.bool false)], args := [d1, d2, d3] }
  | _ => none }
def WrapLinesWrongFalsely : Prop := wrapLinesRow.holds Try.pinned (OpenSpec.ofChange wrapLinesWrong)

/-- 'frescolaw04.WrapGreedy': WHATEVER THE INPUT: true; the input reads as it did. -/
def wrapGreedySpec : ChangeSpec := { name := "wrapGreedy", fn := fun _ => fun
  | [d1, d2, d3] => { results := [.lit (.bool true)], args := [d1, d2, d3] }
  | _ => none }
def wrapGreedyRow : OpenClaim := { program := "ytgniobgadilpgaa", sum := "835e95968475b5c4cf2dcb1a9f74fb952f0ad85be97b9e50bd7c8f701dc8f8c8", func := "fresco/frescolaw04.WrapGreedy", spec := "wrapGreedy", inPlace := ["internal/abi.NoEscape", "internal/bytealg.MakeNoZero"], unfollowed := true, recurses := true, apart := false }
def WrapGreedySaid : Prop := wrapGreedyRow.holds Try.pinned (OpenSpec.ofChange wrapGreedySpec)

/-- ITS FALSE NEIGHBOUR: 'it returns false'. Refute it at one input. -/
def wrapGreedyWrong : ChangeSpec := { name := "wrapGreedy", fn := fun _ => fun
  | [d1, d2, d3] => { results := [.lit (.bool false)], args := [d1, d2, d3] }
  | _ => none }
def WrapGreedyWrongFalsely : Prop := wrapGreedyRow.holds Try.pinned (OpenSpec.ofChange wrapGreedyWrong)

/- THE SECOND FORM. 'bulk': how many values and letters a reading holds, each counted each time it is reached (what is shared counts as often as it is met; a slice's spare places count too). A statement '..UptoSaid' is the law's where the arguments, and the package variables that the reading takes, are together of bulk at most 1048576: NARROWER than '..Said'. Prove '..Said' where nothing that the law and all that it calls make is longer than what came in: it says more and counts as full. Else prove '..UptoSaid'. A law counts once. -/
mutual
def uptoBulk {H : Type} : DataW H → Nat
  | .lit (.string bytes) => bytes.length + 1
  | .lit _ => 1
  | .nil => 1
  | .ptr d => uptoBulk d + 1
  | .slice elems spare => uptoBulkAll elems + uptoBulkAll spare + 1
  | .agg parts => uptoBulkAll parts + 1
  | .iface _ d => uptoBulk d + 1
  | .map entries => uptoBulkEntries entries + 1
  | .held _ => 1
def uptoBulkAll {H : Type} : List (DataW H) → Nat
  | [] => 0
  | d :: r => uptoBulk d + uptoBulkAll r
def uptoBulkEntries {H : Type} : List (Lit × DataW H) → Nat
  | [] => 0
  | x :: r => uptoBulkEntry x + uptoBulkEntries r
def uptoBulkEntry {H : Type} : Lit × DataW H → Nat
  | (.string bytes, d) => bytes.length + uptoBulk d + 1
  | (_, d) => uptoBulk d + 1
 end
def uptoSmall : (H : Type) → List (DataW H) → Bool := fun _ ds => decide (uptoBulkAll ds ≤ 1048576)
def OpenSpec.upto (s : _root_.Go.ChangeSpec) : _root_.Go.OpenSpec := { _root_.Go.OpenSpec.ofChange s with cond := some uptoSmall }

/-- 'frescolaw04.WrapFlow', WHERE WHAT IT READS IS OF BULK AT MOST 1048576: true; the input reads as it did. -/
def wrapFlowUptoRow : OpenClaim := { program := "ytgniobgadilpgaa", sum := "835e95968475b5c4cf2dcb1a9f74fb952f0ad85be97b9e50bd7c8f701dc8f8c8", func := "fresco/frescolaw04.WrapFlow", spec := "wrapFlow", inPlace := ["internal/abi.NoEscape", "internal/bytealg.MakeNoZero"], unfollowed := true, recurses := true, apart := false, narrowed := true }
def WrapFlowUptoSaid : Prop := wrapFlowUptoRow.holds Try.pinned (OpenSpec.upto wrapFlowSpec)

/-- 'frescolaw04.WrapWidths', WHERE WHAT IT READS IS OF BULK AT MOST 1048576: true; the input reads as it did. -/
def wrapWidthsUptoRow : OpenClaim := { program := "ytgniobgadilpgaa", sum := "835e95968475b5c4cf2dcb1a9f74fb952f0ad85be97b9e50bd7c8f701dc8f8c8", func := "fresco/frescolaw04.WrapWidths", spec := "wrapWidths", inPlace := ["internal/abi.NoEscape", "internal/bytealg.MakeNoZero"], unfollowed := true, recurses := true, apart := false, narrowed := true }
def WrapWidthsUptoSaid : Prop := wrapWidthsUptoRow.holds Try.pinned (OpenSpec.upto wrapWidthsSpec)

/-- 'frescolaw04.WrapAlign', WHERE WHAT IT READS IS OF BULK AT MOST 1048576: true; the input reads as it did. -/
def wrapAlignUptoRow : OpenClaim := { program := "ytgniobgadilpgaa", sum := "835e95968475b5c4cf2dcb1a9f74fb952f0ad85be97b9e50bd7c8f701dc8f8c8", func := "fresco/frescolaw04.WrapAlign", spec := "wrapAlign", inPlace := ["internal/abi.NoEscape", "internal/bytealg.MakeNoZero"], unfollowed := true, recurses := true, apart := false, narrowed := true }
def WrapAlignUptoSaid : Prop := wrapAlignUptoRow.holds Try.pinned (OpenSpec.upto wrapAlignSpec)

/-- 'frescolaw04.WrapTrim', WHERE WHAT IT READS IS OF BULK AT MOST 1048576: true; the input reads as it did. -/
def wrapTrimUptoRow : OpenClaim := { program := "ytgniobgadilpgaa", sum := "835e95968475b5c4cf2dcb1a9f74fb952f0ad85be97b9e50bd7c8f701dc8f8c8", func := "fresco/frescolaw04.WrapTrim", spec := "wrapTrim", inPlace := ["internal/abi.NoEscape", "internal/bytealg.MakeNoZero"], unfollowed := true, recurses := true, apart := false, narrowed := true }
def WrapTrimUptoSaid : Prop := wrapTrimUptoRow.holds Try.pinned (OpenSpec.upto wrapTrimSpec)

/-- 'frescolaw04.WrapNames', WHERE WHAT IT READS IS OF BULK AT MOST 1048576: true; the input reads as it did. -/
def wrapNamesUptoRow : OpenClaim := { program := "ytgniobgadilpgaa", sum := "835e95968475b5c4cf2dcb1a9f74fb952f0ad85be97b9e50bd7c8f701dc8f8c8", func := "fresco/frescolaw04.WrapNames", spec := "wrapNames", inPlace := ["internal/abi.NoEscape", "internal/bytealg.MakeNoZero"], unfollowed := true, recurses := true, apart := false, narrowed := true }
def WrapNamesUptoSaid : Prop := wrapNamesUptoRow.holds Try.pinned (OpenSpec.upto wrapNamesSpec)

/-- 'frescolaw04.WrapBack', WHERE WHAT IT READS IS OF BULK AT MOST 1048576: true; the input reads as it did. -/
def wrapBackUptoRow : OpenClaim := { program := "ytgniobgadilpgaa", sum := "835e95968475b5c4cf2dcb1a9f74fb952f0ad85be97b9e50bd7c8f701dc8f8c8", func := "fresco/frescolaw04.WrapBack", spec := "wrapBack", inPlace := ["internal/abi.NoEscape", "internal/bytealg.MakeNoZero"], unfollowed := true, recurses := true, apart := false, narrowed := true }
def WrapBackUptoSaid : Prop := wrapBackUptoRow.holds Try.pinned (OpenSpec.upto wrapBackSpec)

/-- 'frescolaw04.WrapFits', WHERE WHAT IT READS IS OF BULK AT MOST 1048576: true; the input reads as it did. -/
def wrapFitsUptoRow : OpenClaim := { program := "ytgniobgadilpgaa", sum := "835e95968475b5c4cf2dcb1a9f74fb952f0ad85be97b9e50bd7c8f701dc8f8c8", func := "fresco/frescolaw04.WrapFits", spec := "wrapFits", inPlace := ["internal/abi.NoEscape", "internal/bytealg.MakeNoZero"], unfollowed := true, recurses := true, apart := false, narrowed := true }
def WrapFitsUptoSaid : Prop := wrapFitsUptoRow.holds Try.pinned (OpenSpec.upto wrapFitsSpec)

/-- 'frescolaw04.WrapLines', WHERE WHAT IT READS IS OF BULK AT MOST 1048576: true; the input reads as it did. -/
def wrapLinesUptoRow : OpenClaim := { program := "ytgniobgadilpgaa", sum := "835e95968475b5c4cf2dcb1a9f74fb952f0ad85be97b9e50bd7c8f701dc8f8c8", func := "fresco/frescolaw04.WrapLines", spec := "wrapLines", inPlace := ["internal/abi.NoEscape", "internal/bytealg.MakeNoZero"], unfollowed := true, recurses := true, apart := false, narrowed := true }
def WrapLinesUptoSaid : Prop := wrapLinesUptoRow.holds Try.pinned (OpenSpec.upto wrapLinesSpec)

/-- 'frescolaw04.WrapGreedy', WHERE WHAT IT READS IS OF BULK AT MOST 1048576: true; the input reads as it did. -/
def wrapGreedyUptoRow : OpenClaim := { program := "ytgniobgadilpgaa", sum := "835e95968475b5c4cf2dcb1a9f74fb952f0ad85be97b9e50bd7c8f701dc8f8c8", func := "fresco/frescolaw04.WrapGreedy", spec := "wrapGreedy", inPlace := ["internal/abi.NoEscape", "internal/bytealg.MakeNoZero"], unfollowed := true, recurses := true, apart := false, narrowed := true }
def WrapGreedyUptoSaid : Prop := wrapGreedyUptoRow.holds Try.pinned (OpenSpec.upto wrapGreedySpec)

end Rows
end Go.Proofs.Ytgniobgadilpgaa
