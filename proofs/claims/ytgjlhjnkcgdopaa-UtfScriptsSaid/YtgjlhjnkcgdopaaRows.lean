/-
  No cell of these rows narrows 'for every input' (looked for: loops, veiled, ifaces, maps, wideKeys, modest, calm, conditions, laid).
  DERIVED. THE GIVEN ROWS OF THIS SEAT. 4 by the template 'for every input the law returns true; each argument reads behind the call as it read before'; 0 by the template 'total and deterministic' (their statements: YtgjlhjnkcgdopaaTotals.lean).
  GIVEN WITH THE SEED: the statements are not yours to turn. If you find one false, say at which input.
  Laid BY PROGRAM, IN A SANDBOX (cutbox-rows.mjs): the forced cells as the released guide's own fill.sh prints them over the translation 171acca83240a8e9… (all of the seat's roots in one cut). By AI agents, Wed Nov 11 2026. No macro, syntax, notation, axiom, sorry.
-/
import Derived.Test.YtgjlhjnkcgdopaaChecked
import GoSem.Claim
import GoSem.ClaimJoined
import GoSem.ClaimMapViews
import Derived.JoinedTies
import Derived.KernelRfl
namespace Go.Proofs.Ytgjlhjnkcgdopaa
/- THE CELL 'sum', in the pinned program and in every row, IS THE sha256 OF THE DUMP (.gsa) THAT YtgjlhjnkcgdopaaProg.lean LOADS. Nothing in Lean hashes anything: it is a label: what it is worth is what the hold of that sum in a sandbox is worth. -/
noncomputable def Try.pinned : Pinned := { name := "ytgjlhjnkcgdopaa", sum := "171acca83240a8e91eafaf812886bb81193c61a74141c0a4e3549f5cb8d4ebda", checked := Try.checked }
namespace Rows
def none {H : Type} : Left H := { results := [], args := [] }

/-- 'frescolaw01.UtfText': WHATEVER THE INPUT: true; the input reads as it did. -/
def utfTextSpec : ChangeSpec := { name := "utfText", fn := fun _ => fun
  | [d] => { results := [.lit (.bool true)], args := [d] }
  | _ => none }
def utfTextRow : OpenClaim := { program := "ytgjlhjnkcgdopaa", sum := "171acca83240a8e91eafaf812886bb81193c61a74141c0a4e3549f5cb8d4ebda", func := "fresco/frescolaw01.UtfText", spec := "utfText", unfollowed := true, recurses := true, apart := false }
def UtfTextSaid : Prop := utfTextRow.holds Try.pinned (OpenSpec.ofChange utfTextSpec)

/-- ITS FALSE NEIGHBOUR: 'it returns false'. Refute it at one input. -/
def utfTextWrong : ChangeSpec := { name := "utfText", fn := fun _ => fun
  | [d] => { results := [.lit (.bool false)], args := [d] }
  | _ => none }
def UtfTextWrongFalsely : Prop := utfTextRow.holds Try.pinned (OpenSpec.ofChange utfTextWrong)

/-- 'frescolaw01.UtfRunes': WHATEVER THE INPUT: true; the input reads as it did. -/
def utfRunesSpec : ChangeSpec := { name := "utfRunes", fn := fun _ => fun
  | [d] => { results := [.lit (.bool true)], args := [d] }
  | _ => none }
def utfRunesRow : OpenClaim := { program := "ytgjlhjnkcgdopaa", sum := "171acca83240a8e91eafaf812886bb81193c61a74141c0a4e3549f5cb8d4ebda", func := "fresco/frescolaw01.UtfRunes", spec := "utfRunes", unfollowed := true, recurses := true, apart := false }
def UtfRunesSaid : Prop := utfRunesRow.holds Try.pinned (OpenSpec.ofChange utfRunesSpec)

/-- ITS FALSE NEIGHBOUR: 'it returns false'. Refute it at one input. -/
def utfRunesWrong : ChangeSpec := { name := "utfRunes", fn := fun _ => fun
  | [d] => { results := [.lit (.bool false)], args := [d] }
  | _ => none }
def UtfRunesWrongFalsely : Prop := utfRunesRow.holds Try.pinned (OpenSpec.ofChange utfRunesWrong)

/-- 'frescolaw01.UtfScripts': WHATEVER THE INPUT: true; the input reads as it did. -/
def utfScriptsSpec : ChangeSpec := { name := "utfScripts", fn := fun _ => fun
  | [d1, d2] => { results := [.lit (.bool true)], args := [d1, d2] }
  | _ => none }
def utfScriptsRow : OpenClaim := { program := "ytgjlhjnkcgdopaa", sum := "171acca83240a8e91eafaf812886bb81193c61a74141c0a4e3549f5cb8d4ebda", func := "fresco/frescolaw01.UtfScripts", spec := "utfScripts", unfollowed := true, recurses := true, apart := false }
def UtfScriptsSaid : Prop := utfScriptsRow.holds Try.pinned (OpenSpec.ofChange utfScriptsSpec)

/-- ITS FALSE NEIGHBOUR: 'it returns false'. Refute it at one input. -/
def utfScriptsWrong : ChangeSpec := { name := "utfScripts", fn := fun _ => fun
  | [d1, d2] => { results := [.lit (.bool false)], args := [d1, d2] }
  | _ => none }
def UtfScriptsWrongFalsely : Prop := utfScriptsRow.holds Try.pinned (OpenSpec.ofChange utfScriptsWrong)

/-- 'frescolaw01.UtfPieces': WHATEVER THE INPUT: true; the input reads as it did. -/
def utfPiecesSpec : ChangeSpec := { name := "utfPieces", fn := fun _ => fun
  | [d] => { results := [.lit (.bool true)], args := [d] }
  | _ => none }
def utfPiecesRow : OpenClaim := { program := "ytgjlhjnkcgdopaa", sum := "171acca83240a8e91eafaf812886bb81193c61a74141c0a4e3549f5cb8d4ebda", func := "fresco/frescolaw01.UtfPieces", spec := "utfPieces", unfollowed := true, recurses := true, apart := false }
def UtfPiecesSaid : Prop := utfPiecesRow.holds Try.pinned (OpenSpec.ofChange utfPiecesSpec)

/-- ITS FALSE NEIGHBOUR: 'it returns false'. Refute it at one input. -/
def utfPiecesWrong : ChangeSpec := { name := "utfPieces", fn := fun _ => fun
  | [d] => { results := [.lit (.bool false)], args := [d] }
  | _ => none }
def UtfPiecesWrongFalsely : Prop := utfPiecesRow.holds Try.pinned (OpenSpec.ofChange utfPiecesWrong)

/- THE SECOND FORM. 'bulk': how many values and letters a reading holds, each counted each time it is reached (what is shared counts as often as it is met; a slice's spare places count too). A statement '..UptoSaid' is the law's where the arguments, and the package variables that the reading takes, are together of bulk at most 1048576: NARROWER than '..Said'. Prove '..Said' where nothing that the law and all that it calls make is longer than what came in: it says more and counts as full. Else prove '..UptoSaid'. A law counts once. -/
mutual
def uptoBulk {H : Type} : DataW H → Nat
  | .lit (.string bytes) => bytes.length + 1
  | .lit _ => 1
  | .nil => 1
  | .ptr d => uptoBulk d + 1
  | .slice elems spare => uptoBulkAll elems + uptoBulkAll spare + 1
  | .agg parts => uptoBulkAll parts + 1
  | .iface _ d => uptoBulk d + 1
  | .map entries => uptoBulkEntries entries + 1
  | .held _ => 1
def uptoBulkAll {H : Type} : List (DataW H) → Nat
  | [] => 0
  | d :: r => uptoBulk d + uptoBulkAll r
def uptoBulkEntries {H : Type} : List (Lit × DataW H) → Nat
  | [] => 0
  | x :: r => uptoBulkEntry x + uptoBulkEntries r
def uptoBulkEntry {H : Type} : Lit × DataW H → Nat
  | (.string bytes, d) => bytes.length + uptoBulk d + 1
  | (_, d) => uptoBulk d + 1
 end
def uptoSmall : (H : Type) → List (DataW H) → Bool := fun _ ds => decide (uptoBulkAll ds ≤ 1048576)
def OpenSpec.upto (s : _root_.Go.ChangeSpec) : _root_.Go.OpenSpec := { _root_.Go.OpenSpec.ofChange s with cond := some uptoSmall }

/-- 'frescolaw01.UtfText', WHERE WHAT IT READS IS OF BULK AT MOST 1048576: true; the input reads as it did. -/
def utfTextUptoRow : OpenClaim := { program := "ytgjlhjnkcgdopaa", sum := "171acca83240a8e91eafaf812886bb81193c61a74141c0a4e3549f5cb8d4ebda", func := "fresco/frescolaw01.UtfText", spec := "utfText", unfollowed := true, recurses := true, apart := false, narrowed := true }
def UtfTextUptoSaid : Prop := utfTextUptoRow.holds Try.pinned (OpenSpec.upto utfTextSpec)

/-- 'frescolaw01.UtfRunes', WHERE WHAT IT READS IS OF BULK AT MOST 1048576: true; the input reads as it did. -/
def utfRunesUptoRow : OpenClaim := { program := "ytgjlhjnkcgdopaa", sum := "171acca83240a8e91eafaf812886bb81193c61a74141c0a4e3549f5cb8d4ebda", func := "fresco/frescolaw01.UtfRunes", spec := "utfRunes", unfollowed := true, recurses := true, apart := false, narrowed := true }
def UtfRunesUptoSaid : Prop := utfRunesUptoRow.holds Try.pinned (OpenSpec.upto utfRunesSpec)

/-- 'frescolaw01.UtfScripts', WHERE WHAT IT READS IS OF BULK AT MOST 1048576: true; the input reads as it did. -/
def utfScriptsUptoRow : OpenClaim := { program := "ytgjlhjnkcgdopaa", sum := "171acca83240a8e91eafaf812886bb81193c61a74141c0a4e3549f5cb8d4ebda", func := "fresco/frescolaw01.UtfScripts", spec := "utfScripts", unfollowed := true, recurses := true, apart := false, narrowed := true }
def UtfScriptsUptoSaid : Prop := utfScriptsUptoRow.holds Try.pinned (OpenSpec.upto utfScriptsSpec)

/-- 'frescolaw01.UtfPieces', WHERE WHAT IT READS IS OF BULK AT MOST 1048576: true; the input reads as it did. -/
def utfPiecesUptoRow : OpenClaim := { program := "ytgjlhjnkcgdopaa", sum := "171acca83240a8e91eafaf812886bb81193c61a74141c0a4e3549f5cb8d4ebda", func := "fresco/frescolaw01.UtfPieces", spec := "utfPieces", unfollowed := true, recurses := true, apart := false, narrowed := true }
def UtfPiecesUptoSaid : Prop := utfPiecesUptoRow.holds Try.pinned (OpenSpec.upto utfPiecesSpec)

end Rows
end Go.Proofs.Ytgjlhjnkcgdopaa
