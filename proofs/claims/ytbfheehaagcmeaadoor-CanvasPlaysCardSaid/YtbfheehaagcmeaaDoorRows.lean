/-
  NARROWER THAN 'FOR EVERY INPUT', by the rows' own cells (each row's printed sentence says how): CanvasPlays: laid · CanvasRound: laid · CanvasWhole: laid.
  DERIVED. THE GIVEN ROWS OF THIS SEAT. 3 by the template 'for every input the law returns true; each argument reads behind the call as it read before'; 0 by the template 'total and deterministic' (their statements: YtbfheehaagcmeaaDoorTotals.lean).
  GIVEN WITH THE SEED: the statements are not yours to turn. If you find one false, say at which input.
  Laid BY PROGRAM, IN A SANDBOX (cutbox-rows.mjs): the forced cells as the released guide's own fill.sh prints them over the translation ec207b21e5de7f0f… (all of the seat's roots in one cut). By AI agents, Wed Nov 11 2026. No macro, syntax, notation, axiom, sorry.
-/
import Derived.Test.YtbfheehaagcmeaaDoorChecked
import GoSem.Claim
import GoSem.ClaimJoined
import GoSem.ClaimMapViews
import Derived.JoinedTies
import Derived.KernelRfl
namespace Go.Proofs.YtbfheehaagcmeaaDoor
/- THE CELL 'sum', in the pinned program and in every row, IS THE sha256 OF THE DUMP (.gsa) THAT YtbfheehaagcmeaaDoorProg.lean LOADS. Nothing in Lean hashes anything: it is a label: what it is worth is what the hold of that sum in a sandbox is worth. -/
noncomputable def Tryd.pinned : Pinned := { name := "ytbfheehaagcmeaadoor", sum := "ec207b21e5de7f0f9b32e5c1de6d37f48dab64fffcf551646c2fb45586064fea", checked := Tryd.checked }
namespace Rows
def none {H : Type} : Left H := { results := [], args := [] }

/- WHAT THE LISTED PACKAGE-LEVEL VARIABLES READ AS WHEN THE CALL BEGINS. Each datum BY PROGRAM (the guide's laid-datum.mjs) off the statement by which the dump's own 'gosem.cut.vars' lays the variable. In a bare row this is a premise. The card (YtbfheehaagcmeaaDoorCards.lean) ties it to the program's text. -/
def laid_fresco_canvas_dots {H : Type} : DataW H := .agg [.agg [.lit (.int .u8 1), .lit (.int .u8 2), .lit (.int .u8 4), .lit (.int .u8 64)], .agg [.lit (.int .u8 8), .lit (.int .u8 16), .lit (.int .u8 32), .lit (.int .u8 128)]]

/-- 'frescolaw18.CanvasPlays': WHATEVER THE INPUT: true; the input reads as it did. -/
def canvasPlaysSpec : ChangeSpec := { name := "canvasPlays", fn := fun _ => fun
  | [d1, d2] => { results := [.lit (.bool true)], args := [d1, d2] }
  | _ => none }
def canvasPlaysRow : OpenClaim := { program := "ytbfheehaagcmeaadoor", sum := "ec207b21e5de7f0f9b32e5c1de6d37f48dab64fffcf551646c2fb45586064fea", func := "fresco/frescolaw18.CanvasPlays", spec := "canvasPlays", inPlace := ["math.Float64frombits", "math.Float64bits", "math.archFloor", "math.archTrunc"], recurses := true, named := ["fresco/canvas.dots", "math/bits.divideError", "math/bits.overflowError"], apart := false, laid := [("fresco/canvas.dots", laid_fresco_canvas_dots)] }
def CanvasPlaysSaid : Prop := canvasPlaysRow.holds Tryd.pinned (OpenSpec.ofChange canvasPlaysSpec)

/-- ITS FALSE NEIGHBOUR: 'it returns false'. Refute it at one input. -/
def canvasPlaysWrong : ChangeSpec := { name := "canvasPlays", fn := fun _ => fun
  | [d1, d2] => { results := [.lit (.bool false)], args := [d1, d2] }
  | _ => none }
def CanvasPlaysWrongFalsely : Prop := canvasPlaysRow.holds Tryd.pinned (OpenSpec.ofChange canvasPlaysWrong)

/-- 'frescolaw18.CanvasRound': WHATEVER THE INPUT: true; the input reads as it did. -/
def canvasRoundSpec : ChangeSpec := { name := "canvasRound", fn := fun _ => fun
  | [d1, d2, d3, d4, d5] => { results := [.lit (.bool true)], args := [d1, d2, d3, d4, d5] }
  | _ => none }
def canvasRoundRow : OpenClaim := { program := "ytbfheehaagcmeaadoor", sum := "ec207b21e5de7f0f9b32e5c1de6d37f48dab64fffcf551646c2fb45586064fea", func := "fresco/frescolaw18.CanvasRound", spec := "canvasRound", inPlace := ["math.Float64frombits", "math.Float64bits"], unfollowed := true, recurses := true, named := ["math/bits.divideError", "math/bits.overflowError", "fresco/canvas.dots"], apart := false, laid := [("fresco/canvas.dots", laid_fresco_canvas_dots)] }
def CanvasRoundSaid : Prop := canvasRoundRow.holds Tryd.pinned (OpenSpec.ofChange canvasRoundSpec)

/-- ITS FALSE NEIGHBOUR: 'it returns false'. Refute it at one input. -/
def canvasRoundWrong : ChangeSpec := { name := "canvasRound", fn := fun _ => fun
  | [d1, d2, d3, d4, d5] => { results := [.lit (.bool false)], args := [d1, d2, d3, d4, d5] }
  | _ => none }
def CanvasRoundWrongFalsely : Prop := canvasRoundRow.holds Tryd.pinned (OpenSpec.ofChange canvasRoundWrong)

/-- 'frescolaw18.CanvasWhole': WHATEVER THE INPUT: true; the input reads as it did. -/
def canvasWholeSpec : ChangeSpec := { name := "canvasWhole", fn := fun _ => fun
  | [d1, d2, d3, d4] => { results := [.lit (.bool true)], args := [d1, d2, d3, d4] }
  | _ => none }
def canvasWholeRow : OpenClaim := { program := "ytbfheehaagcmeaadoor", sum := "ec207b21e5de7f0f9b32e5c1de6d37f48dab64fffcf551646c2fb45586064fea", func := "fresco/frescolaw18.CanvasWhole", spec := "canvasWhole", inPlace := ["math.Float64frombits", "math.Float64bits"], unfollowed := true, recurses := true, named := ["fresco/canvas.dots", "math/bits.divideError", "math/bits.overflowError"], apart := false, laid := [("fresco/canvas.dots", laid_fresco_canvas_dots)] }
def CanvasWholeSaid : Prop := canvasWholeRow.holds Tryd.pinned (OpenSpec.ofChange canvasWholeSpec)

/-- ITS FALSE NEIGHBOUR: 'it returns false'. Refute it at one input. -/
def canvasWholeWrong : ChangeSpec := { name := "canvasWhole", fn := fun _ => fun
  | [d1, d2, d3, d4] => { results := [.lit (.bool false)], args := [d1, d2, d3, d4] }
  | _ => none }
def CanvasWholeWrongFalsely : Prop := canvasWholeRow.holds Tryd.pinned (OpenSpec.ofChange canvasWholeWrong)

/- THE SECOND FORM. 'bulk': how many values and letters a reading holds, each counted each time it is reached (what is shared counts as often as it is met; a slice's spare places count too). A statement '..UptoSaid' is the law's where the arguments, and the package variables that the reading takes, are together of bulk at most 1048576: NARROWER than '..Said'. Prove '..Said' where nothing that the law and all that it calls make is longer than what came in: it says more and counts as full. Else prove '..UptoSaid'. A law counts once. -/
mutual
def uptoBulk {H : Type} : DataW H → Nat
  | .lit (.string bytes) => bytes.length + 1
  | .lit _ => 1
  | .nil => 1
  | .ptr d => uptoBulk d + 1
  | .slice elems spare => uptoBulkAll elems + uptoBulkAll spare + 1
  | .agg parts => uptoBulkAll parts + 1
  | .iface _ d => uptoBulk d + 1
  | .map entries => uptoBulkEntries entries + 1
  | .held _ => 1
def uptoBulkAll {H : Type} : List (DataW H) → Nat
  | [] => 0
  | d :: r => uptoBulk d + uptoBulkAll r
def uptoBulkEntries {H : Type} : List (Lit × DataW H) → Nat
  | [] => 0
  | x :: r => uptoBulkEntry x + uptoBulkEntries r
def uptoBulkEntry {H : Type} : Lit × DataW H → Nat
  | (.string bytes, d) => bytes.length + uptoBulk d + 1
  | (_, d) => uptoBulk d + 1
 end
def uptoSmall : (H : Type) → List (DataW H) → Bool := fun _ ds => decide (uptoBulkAll ds ≤ 1048576)
def OpenSpec.upto (s : _root_.Go.ChangeSpec) : _root_.Go.OpenSpec := { _root_.Go.OpenSpec.ofChange s with cond := some uptoSmall }

/-- 'frescolaw18.CanvasPlays', WHERE WHAT IT READS IS OF BULK AT MOST 1048576: true; the input reads as it did. -/
def canvasPlaysUptoRow : OpenClaim := { program := "ytbfheehaagcmeaadoor", sum := "ec207b21e5de7f0f9b32e5c1de6d37f48dab64fffcf551646c2fb45586064fea", func := "fresco/frescolaw18.CanvasPlays", spec := "canvasPlays", inPlace := ["math.Float64frombits", "math.Float64bits", "math.archFloor", "math.archTrunc"], recurses := true, named := ["fresco/canvas.dots", "math/bits.divideError", "math/bits.overflowError"], apart := false, laid := [("fresco/canvas.dots", laid_fresco_canvas_dots)], narrowed := true }
def CanvasPlaysUptoSaid : Prop := canvasPlaysUptoRow.holds Tryd.pinned (OpenSpec.upto canvasPlaysSpec)

/-- 'frescolaw18.CanvasRound', WHERE WHAT IT READS IS OF BULK AT MOST 1048576: true; the input reads as it did. -/
def canvasRoundUptoRow : OpenClaim := { program := "ytbfheehaagcmeaadoor", sum := "ec207b21e5de7f0f9b32e5c1de6d37f48dab64fffcf551646c2fb45586064fea", func := "fresco/frescolaw18.CanvasRound", spec := "canvasRound", inPlace := ["math.Float64frombits", "math.Float64bits"], unfollowed := true, recurses := true, named := ["math/bits.divideError", "math/bits.overflowError", "fresco/canvas.dots"], apart := false, laid := [("fresco/canvas.dots", laid_fresco_canvas_dots)], narrowed := true }
def CanvasRoundUptoSaid : Prop := canvasRoundUptoRow.holds Tryd.pinned (OpenSpec.upto canvasRoundSpec)

/-- 'frescolaw18.CanvasWhole', WHERE WHAT IT READS IS OF BULK AT MOST 1048576: true; the input reads as it did. -/
def canvasWholeUptoRow : OpenClaim := { program := "ytbfheehaagcmeaadoor", sum := "ec207b21e5de7f0f9b32e5c1de6d37f48dab64fffcf551646c2fb45586064fea", func := "fresco/frescolaw18.CanvasWhole", spec := "canvasWhole", inPlace := ["math.Float64frombits", "math.Float64bits"], unfollowed := true, recurses := true, named := ["fresco/canvas.dots", "math/bits.divideError", "math/bits.overflowError"], apart := false, laid := [("fresco/canvas.dots", laid_fresco_canvas_dots)], narrowed := true }
def CanvasWholeUptoSaid : Prop := canvasWholeUptoRow.holds Tryd.pinned (OpenSpec.upto canvasWholeSpec)

end Rows
end Go.Proofs.YtbfheehaagcmeaaDoor
