/-
  No cell of these rows narrows 'for every input' (looked for: loops, veiled, ifaces, maps, wideKeys, modest, calm, conditions, laid).
  DERIVED. THE GIVEN ROWS OF THIS SEAT. 9 by the template 'for every input the law returns true; each argument reads behind the call as it read before'; 0 by the template 'total and deterministic' (their statements: YtinnggiohalifaaTotals.lean).
  GIVEN WITH THE SEED: the statements are not yours to turn. If you find one false, say at which input.
  Laid BY PROGRAM, IN A SANDBOX (cutbox-rows.mjs): the forced cells as the released guide's own fill.sh prints them over the translation 43c2d5fe8da13d63… (all of the seat's roots in one cut). By AI agents, Wed Nov 11 2026. No macro, syntax, notation, axiom, sorry.
-/
import Derived.Test.YtinnggiohalifaaChecked
import GoSem.Claim
import GoSem.ClaimJoined
import GoSem.ClaimMapViews
import Derived.JoinedTies
import Derived.KernelRfl
namespace Go.Proofs.Ytinnggiohalifaa
/- THE CELL 'sum', in the pinned program and in every row, IS THE sha256 OF THE DUMP (.gsa) THAT YtinnggiohalifaaProg.lean LOADS. Nothing in Lean hashes anything: it is a label: what it is worth is what the hold of that sum in a sandbox is worth. -/
noncomputable def Try.pinned : Pinned := { name := "ytinnggiohalifaa", sum := "43c2d5fe8da13d6360a6e8ec6c76144f9d88b414bd4cd3a684af295aa505ad74", checked := Try.checked }
namespace Rows
def none {H : Type} : Left H := { results := [], args := [] }

/-- 'frescolaw19.CellsNames': WHATEVER THE INPUT: true; the input reads as it did. -/
def cellsNamesSpec : ChangeSpec := { name := "cellsNames", fn := fun _ => fun
  | [] => { results := [.lit (.bool true)], args := [] }
  | _ => none }
def cellsNamesRow : OpenClaim := { program := "ytinnggiohalifaa", sum := "43c2d5fe8da13d6360a6e8ec6c76144f9d88b414bd4cd3a684af295aa505ad74", func := "fresco/frescolaw19.CellsNames", spec := "cellsNames", unfollowed := true, recurses := true, apart := false }
def CellsNamesSaid : Prop := cellsNamesRow.holds Try.pinned (OpenSpec.ofChange cellsNamesSpec)

/-- ITS FALSE NEIGHBOUR: 'it returns false'. Refute it at one input. -/
def cellsNamesWrong : ChangeSpec := { name := "cellsNames", fn := fun _ => fun
  | [] => { results := [.lit (.bool false)], args := [] }
  | _ => none }
def CellsNamesWrongFalsely : Prop := cellsNamesRow.holds Try.pinned (OpenSpec.ofChange cellsNamesWrong)

/-- 'frescolaw19.CellsNew': WHATEVER THE INPUT: true; the input reads as it did. -/
def cellsNewSpec : ChangeSpec := { name := "cellsNew", fn := fun _ => fun
  | [d1, d2] => { results := [.lit (.bool true)], args := [d1, d2] }
  | _ => none }
def cellsNewRow : OpenClaim := { program := "ytinnggiohalifaa", sum := "43c2d5fe8da13d6360a6e8ec6c76144f9d88b414bd4cd3a684af295aa505ad74", func := "fresco/frescolaw19.CellsNew", spec := "cellsNew", unfollowed := true, recurses := true, apart := false }
def CellsNewSaid : Prop := cellsNewRow.holds Try.pinned (OpenSpec.ofChange cellsNewSpec)

/-- ITS FALSE NEIGHBOUR: 'it returns false'. Refute it at one input. -/
def cellsNewWrong : ChangeSpec := { name := "cellsNew", fn := fun _ => fun
  | [d1, d2] => { results := [.lit (.bool false)], args := [d1, d2] }
  | _ => none }
def CellsNewWrongFalsely : Prop := cellsNewRow.holds Try.pinned (OpenSpec.ofChange cellsNewWrong)

/-- 'frescolaw19.CellsMend': WHATEVER THE INPUT: true; the input reads as it did. -/
def cellsMendSpec : ChangeSpec := { name := "cellsMend", fn := fun _ => fun
  | [d1, d2] => { results := [.lit (.bool true)], args := [d1, d2] }
  | _ => none }
def cellsMendRow : OpenClaim := { program := "ytinnggiohalifaa", sum := "43c2d5fe8da13d6360a6e8ec6c76144f9d88b414bd4cd3a684af295aa505ad74", func := "fresco/frescolaw19.CellsMend", spec := "cellsMend", unfollowed := true, recurses := true, apart := false }
def CellsMendSaid : Prop := cellsMendRow.holds Try.pinned (OpenSpec.ofChange cellsMendSpec)

/-- ITS FALSE NEIGHBOUR: 'it returns false'. Refute it at one input. -/
def cellsMendWrong : ChangeSpec := { name := "cellsMend", fn := fun _ => fun
  | [d1, d2] => { results := [.lit (.bool false)], args := [d1, d2] }
  | _ => none }
def CellsMendWrongFalsely : Prop := cellsMendRow.holds Try.pinned (OpenSpec.ofChange cellsMendWrong)

/-- 'frescolaw19.CellsWhole': WHATEVER THE INPUT: true; the input reads as it did. -/
def cellsWholeSpec : ChangeSpec := { name := "cellsWhole", fn := fun _ => fun
  | [d] => { results := [.lit (.bool true)], args := [d] }
  | _ => none }
def cellsWholeRow : OpenClaim := { program := "ytinnggiohalifaa", sum := "43c2d5fe8da13d6360a6e8ec6c76144f9d88b414bd4cd3a684af295aa505ad74", func := "fresco/frescolaw19.CellsWhole", spec := "cellsWhole", unfollowed := true, recurses := true, apart := false }
def CellsWholeSaid : Prop := cellsWholeRow.holds Try.pinned (OpenSpec.ofChange cellsWholeSpec)

/-- ITS FALSE NEIGHBOUR: 'it returns false'. Refute it at one input. -/
def cellsWholeWrong : ChangeSpec := { name := "cellsWhole", fn := fun _ => fun
  | [d] => { results := [.lit (.bool false)], args := [d] }
  | _ => none }
def CellsWholeWrongFalsely : Prop := cellsWholeRow.holds Try.pinned (OpenSpec.ofChange cellsWholeWrong)

/-- 'frescolaw19.CellsRight': WHATEVER THE INPUT: true; the input reads as it did. -/
def cellsRightSpec : ChangeSpec := { name := "cellsRight", fn := fun _ => fun
  | [d] => { results := [.lit (.bool true)], args := [d] }
  | _ => none }
def cellsRightRow : OpenClaim := { program := "ytinnggiohalifaa", sum := "43c2d5fe8da13d6360a6e8ec6c76144f9d88b414bd4cd3a684af295aa505ad74", func := "fresco/frescolaw19.CellsRight", spec := "cellsRight", unfollowed := true, recurses := true, apart := false }
def CellsRightSaid : Prop := cellsRightRow.holds Try.pinned (OpenSpec.ofChange cellsRightSpec)

/-- ITS FALSE NEIGHBOUR: 'it returns false'. Refute it at one input. -/
def cellsRightWrong : ChangeSpec := { name := "cellsRight", fn := fun _ => fun
  | [d] => { results := [.lit (.bool false)], args := [d] }
  | _ => none }
def CellsRightWrongFalsely : Prop := cellsRightRow.holds Try.pinned (OpenSpec.ofChange cellsRightWrong)

/-- 'frescolaw19.CellsThere': WHATEVER THE INPUT: true; the input reads as it did. -/
def cellsThereSpec : ChangeSpec := { name := "cellsThere", fn := fun _ => fun
  | [d1, d2, d3] => { results := [.lit (.bool true)], args := [d1, d2, d3] }
  | _ => none }
def cellsThereRow : OpenClaim := { program := "ytinnggiohalifaa", sum := "43c2d5fe8da13d6360a6e8ec6c76144f9d88b414bd4cd3a684af295aa505ad74", func := "fresco/frescolaw19.CellsThere", spec := "cellsThere", unfollowed := true, recurses := true, apart := false }
def CellsThereSaid : Prop := cellsThereRow.holds Try.pinned (OpenSpec.ofChange cellsThereSpec)

/-- ITS FALSE NEIGHBOUR: 'it returns false'. Refute it at one input. -/
def cellsThereWrong : ChangeSpec := { name := "cellsThere", fn := fun _ => fun
  | [d1, d2, d3] => { results := [.lit (.bool false)], args := [d1, d2, d3] }
  | _ => none }
def CellsThereWrongFalsely : Prop := cellsThereRow.holds Try.pinned (OpenSpec.ofChange cellsThereWrong)

/-- 'frescolaw19.CellsNothing': WHATEVER THE INPUT: true; the input reads as it did. -/
def cellsNothingSpec : ChangeSpec := { name := "cellsNothing", fn := fun _ => fun
  | [d] => { results := [.lit (.bool true)], args := [d] }
  | _ => none }
def cellsNothingRow : OpenClaim := { program := "ytinnggiohalifaa", sum := "43c2d5fe8da13d6360a6e8ec6c76144f9d88b414bd4cd3a684af295aa505ad74", func := "fresco/frescolaw19.CellsNothing", spec := "cellsNothing", unfollowed := true, recurses := true, apart := false }
def CellsNothingSaid : Prop := cellsNothingRow.holds Try.pinned (OpenSpec.ofChange cellsNothingSpec)

/-- ITS FALSE NEIGHBOUR: 'it returns false'. Refute it at one input. -/
def cellsNothingWrong : ChangeSpec := { name := "cellsNothing", fn := fun _ => fun
  | [d] => { results := [.lit (.bool false)], args := [d] }
  | _ => none }
def CellsNothingWrongFalsely : Prop := cellsNothingRow.holds Try.pinned (OpenSpec.ofChange cellsNothingWrong)

/-- 'frescolaw19.CellsNil': WHATEVER THE INPUT: true; the input reads as it did. -/
def cellsNilSpec : ChangeSpec := { name := "cellsNil", fn := fun _ => fun
  | [d] => { results := [.lit (.bool true)], args := [d] }
  | _ => none }
def cellsNilRow : OpenClaim := { program := "ytinnggiohalifaa", sum := "43c2d5fe8da13d6360a6e8ec6c76144f9d88b414bd4cd3a684af295aa505ad74", func := "fresco/frescolaw19.CellsNil", spec := "cellsNil", unfollowed := true, recurses := true, apart := false }
def CellsNilSaid : Prop := cellsNilRow.holds Try.pinned (OpenSpec.ofChange cellsNilSpec)

/-- ITS FALSE NEIGHBOUR: 'it returns false'. Refute it at one input. -/
def cellsNilWrong : ChangeSpec := { name := "cellsNil", fn := fun _ => fun
  | [d] => { results := [.lit (.bool false)], args := [d] }
  | _ => none }
def CellsNilWrongFalsely : Prop := cellsNilRow.holds Try.pinned (OpenSpec.ofChange cellsNilWrong)

/-- 'frescolaw19.CellsAlways': WHATEVER THE INPUT: true; the input reads as it did. -/
def cellsAlwaysSpec : ChangeSpec := { name := "cellsAlways", fn := fun _ => fun
  | [d] => { results := [.lit (.bool true)], args := [d] }
  | _ => none }
def cellsAlwaysRow : OpenClaim := { program := "ytinnggiohalifaa", sum := "43c2d5fe8da13d6360a6e8ec6c76144f9d88b414bd4cd3a684af295aa505ad74", func := "fresco/frescolaw19.CellsAlways", spec := "cellsAlways", unfollowed := true, recurses := true, apart := false }
def CellsAlwaysSaid : Prop := cellsAlwaysRow.holds Try.pinned (OpenSpec.ofChange cellsAlwaysSpec)

/-- ITS FALSE NEIGHBOUR: 'it returns false'. Refute it at one input. -/
def cellsAlwaysWrong : ChangeSpec := { name := "cellsAlways", fn := fun _ => fun
  | [d] => { results := [.lit (.bool false)], args := [d] }
  | _ => none }
def CellsAlwaysWrongFalsely : Prop := cellsAlwaysRow.holds Try.pinned (OpenSpec.ofChange cellsAlwaysWrong)

/- THE SECOND FORM. 'bulk': how many values and letters a reading holds, each counted each time it is reached (what is shared counts as often as it is met; a slice's spare places count too). A statement '..UptoSaid' is the law's where the arguments, and the package variables that the reading takes, are together of bulk at most 1048576: NARROWER than '..Said'. Prove '..Said' where nothing that the law and all that it calls make is longer than what came in: it says more and counts as full. Else prove '..UptoSaid'. A law counts once. -/
mutual
def uptoBulk {H : Type} : DataW H → Nat
  | .lit (.string bytes) => bytes.length + 1
  | .lit _ => 1
  | .nil => 1
  | .ptr d => uptoBulk d + 1
  | .slice elems spare => uptoBulkAll elems + uptoBulkAll spare + 1
  | .agg parts => uptoBulkAll parts + 1
  | .iface _ d => uptoBulk d + 1
  | .map entries => uptoBulkEntries entries + 1
  | .held _ => 1
def uptoBulkAll {H : Type} : List (DataW H) → Nat
  | [] => 0
  | d :: r => uptoBulk d + uptoBulkAll r
def uptoBulkEntries {H : Type} : List (Lit × DataW H) → Nat
  | [] => 0
  | x :: r => uptoBulkEntry x + uptoBulkEntries r
def uptoBulkEntry {H : Type} : Lit × DataW H → Nat
  | (.string bytes, d) => bytes.length + uptoBulk d + 1
  | (_, d) => uptoBulk d + 1
 end
def uptoSmall : (H : Type) → List (DataW H) → Bool := fun _ ds => decide (uptoBulkAll ds ≤ 1048576)
def OpenSpec.upto (s : _root_.Go.ChangeSpec) : _root_.Go.OpenSpec := { _root_.Go.OpenSpec.ofChange s with cond := some uptoSmall }

/-- 'frescolaw19.CellsNames', WHERE WHAT IT READS IS OF BULK AT MOST 1048576: true; the input reads as it did. -/
def cellsNamesUptoRow : OpenClaim := { program := "ytinnggiohalifaa", sum := "43c2d5fe8da13d6360a6e8ec6c76144f9d88b414bd4cd3a684af295aa505ad74", func := "fresco/frescolaw19.CellsNames", spec := "cellsNames", unfollowed := true, recurses := true, apart := false, narrowed := true }
def CellsNamesUptoSaid : Prop := cellsNamesUptoRow.holds Try.pinned (OpenSpec.upto cellsNamesSpec)

/-- 'frescolaw19.CellsNew', WHERE WHAT IT READS IS OF BULK AT MOST 1048576: true; the input reads as it did. -/
def cellsNewUptoRow : OpenClaim := { program := "ytinnggiohalifaa", sum := "43c2d5fe8da13d6360a6e8ec6c76144f9d88b414bd4cd3a684af295aa505ad74", func := "fresco/frescolaw19.CellsNew", spec := "cellsNew", unfollowed := true, recurses := true, apart := false, narrowed := true }
def CellsNewUptoSaid : Prop := cellsNewUptoRow.holds Try.pinned (OpenSpec.upto cellsNewSpec)

/-- 'frescolaw19.CellsMend', WHERE WHAT IT READS IS OF BULK AT MOST 1048576: true; the input reads as it did. -/
def cellsMendUptoRow : OpenClaim := { program := "ytinnggiohalifaa", sum := "43c2d5fe8da13d6360a6e8ec6c76144f9d88b414bd4cd3a684af295aa505ad74", func := "fresco/frescolaw19.CellsMend", spec := "cellsMend", unfollowed := true, recurses := true, apart := false, narrowed := true }
def CellsMendUptoSaid : Prop := cellsMendUptoRow.holds Try.pinned (OpenSpec.upto cellsMendSpec)

/-- 'frescolaw19.CellsWhole', WHERE WHAT IT READS IS OF BULK AT MOST 1048576: true; the input reads as it did. -/
def cellsWholeUptoRow : OpenClaim := { program := "ytinnggiohalifaa", sum := "43c2d5fe8da13d6360a6e8ec6c76144f9d88b414bd4cd3a684af295aa505ad74", func := "fresco/frescolaw19.CellsWhole", spec := "cellsWhole", unfollowed := true, recurses := true, apart := false, narrowed := true }
def CellsWholeUptoSaid : Prop := cellsWholeUptoRow.holds Try.pinned (OpenSpec.upto cellsWholeSpec)

/-- 'frescolaw19.CellsRight', WHERE WHAT IT READS IS OF BULK AT MOST 1048576: true; the input reads as it did. -/
def cellsRightUptoRow : OpenClaim := { program := "ytinnggiohalifaa", sum := "43c2d5fe8da13d6360a6e8ec6c76144f9d88b414bd4cd3a684af295aa505ad74", func := "fresco/frescolaw19.CellsRight", spec := "cellsRight", unfollowed := true, recurses := true, apart := false, narrowed := true }
def CellsRightUptoSaid : Prop := cellsRightUptoRow.holds Try.pinned (OpenSpec.upto cellsRightSpec)

/-- 'frescolaw19.CellsThere', WHERE WHAT IT READS IS OF BULK AT MOST 1048576: true; the input reads as it did. -/
def cellsThereUptoRow : OpenClaim := { program := "ytinnggiohalifaa", sum := "43c2d5fe8da13d6360a6e8ec6c76144f9d88b414bd4cd3a684af295aa505ad74", func := "fresco/frescolaw19.CellsThere", spec := "cellsThere", unfollowed := true, recurses := true, apart := false, narrowed := true }
def CellsThereUptoSaid : Prop := cellsThereUptoRow.holds Try.pinned (OpenSpec.upto cellsThereSpec)

/-- 'frescolaw19.CellsNothing', WHERE WHAT IT READS IS OF BULK AT MOST 1048576: true; the input reads as it did. -/
def cellsNothingUptoRow : OpenClaim := { program := "ytinnggiohalifaa", sum := "43c2d5fe8da13d6360a6e8ec6c76144f9d88b414bd4cd3a684af295aa505ad74", func := "fresco/frescolaw19.CellsNothing", spec := "cellsNothing", unfollowed := true, recurses := true, apart := false, narrowed := true }
def CellsNothingUptoSaid : Prop := cellsNothingUptoRow.holds Try.pinned (OpenSpec.upto cellsNothingSpec)

/-- 'frescolaw19.CellsNil', WHERE WHAT IT READS IS OF BULK AT MOST 1048576: true; the input reads as it did. -/
def cellsNilUptoRow : OpenClaim := { program := "ytinnggiohalifaa", sum := "43c2d5fe8da13d6360a6e8ec6c76144f9d88b414bd4cd3a684af295aa505ad74", func := "fresco/frescolaw19.CellsNil", spec := "cellsNil", unfollowed := true, recurses := true, apart := false, narrowed := true }
def CellsNilUptoSaid : Prop := cellsNilUptoRow.holds Try.pinned (OpenSpec.upto cellsNilSpec)

/-- 'frescolaw19.CellsAlways', WHERE WHAT IT READS IS OF BULK AT MOST 1048576: true; the input reads as it did. -/
def cellsAlwaysUptoRow : OpenClaim := { program := "ytinnggiohalifaa", sum := "43c2d5fe8da13d6360a6e8ec6c76144f9d88b414bd4cd3a684af295aa505ad74", func := "fresco/frescolaw19.CellsAlways", spec := "cellsAlways", unfollowed := true, recurses := true, apart := false, narrowed := true }
def CellsAlwaysUptoSaid : Prop := cellsAlwaysUptoRow.holds Try.pinned (OpenSpec.upto cellsAlwaysSpec)

end Rows
end Go.Proofs.Ytinnggiohalifaa
