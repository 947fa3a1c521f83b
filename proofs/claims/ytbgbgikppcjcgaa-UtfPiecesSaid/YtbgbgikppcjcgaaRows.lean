/-
  No cell of these rows narrows 'for every input' (looked for: loops, veiled, ifaces, maps, wideKeys, modest, calm, conditions, laid).
  DERIVED. THE GIVEN ROWS OF THIS SEAT. 10 by the template 'for every input the law returns true; each argument reads behind the call as it read before'; 0 by the template 'total and deterministic' (their statements: YtbgbgikppcjcgaaTotals.lean).
  GIVEN WITH THE SEED: the statements are not yours to turn. If you find one false, say at which input.
  Laid BY PROGRAM, IN A SANDBOX (cutbox-rows.mjs): the forced cells as the released guide's own fill.sh prints them over the translation 5b0743eaab63ab75… (all of the seat's roots in one cut). By AI agents, Wed Nov 11 2026. No macro, syntax, notation, axiom, sorry.
-/
import Derived.Test.YtbgbgikppcjcgaaChecked
import GoSem.Claim
import GoSem.ClaimJoined
import GoSem.ClaimMapViews
import Derived.JoinedTies
import Derived.KernelRfl
namespace Go.Proofs.Ytbgbgikppcjcgaa
/- THE CELL 'sum', in the pinned program and in every row, IS THE sha256 OF THE DUMP (.gsa) THAT YtbgbgikppcjcgaaProg.lean LOADS. Nothing in Lean hashes anything: it is a label: what it is worth is what the hold of that sum in a sandbox is worth. -/
noncomputable def Try.pinned : Pinned := { name := "ytbgbgikppcjcgaa", sum := "5b0743eaab63ab7558ec24ace58a66eb2d1f9bec57d51eb7e2f68bc8b6dd6e2d", checked := Try.checked }
namespace Rows
def none {H : Type} : Left H := { results := [], args := [] }

/-- 'frescolaw02.WidthKind': WHATEVER THE INPUT: true; the input reads as it did. -/
def widthKindSpec : ChangeSpec := { name := "widthKind", fn := fun _ => fun
  | [d] => { results := [.lit (.bool true)], args := [d] }
  | _ => none }
def widthKindRow : OpenClaim := { program := "ytbgbgikppcjcgaa", sum := "5b0743eaab63ab7558ec24ace58a66eb2d1f9bec57d51eb7e2f68bc8b6dd6e2d", func := "fresco/frescolaw02.WidthKind", spec := "widthKind", unfollowed := true, recurses := true, apart := false }
def WidthKindSaid : Prop := widthKindRow.holds Try.pinned (OpenSpec.ofChange widthKindSpec)

/-- ITS FALSE NEIGHBOUR: 'it returns false'. Refute it at one input. -/
def widthKindWrong : ChangeSpec := { name := "widthKind", fn := fun _ => fun
  | [d] => { results := [.lit (.bool false)], args := [d] }
  | _ => none }
def WidthKindWrongFalsely : Prop := widthKindRow.holds Try.pinned (OpenSpec.ofChange widthKindWrong)

/-- 'frescolaw01.UtfDecode': WHATEVER THE INPUT: true; the input reads as it did. -/
def utfDecodeSpec : ChangeSpec := { name := "utfDecode", fn := fun _ => fun
  | [d] => { results := [.lit (.bool true)], args := [d] }
  | _ => none }
def utfDecodeRow : OpenClaim := { program := "ytbgbgikppcjcgaa", sum := "5b0743eaab63ab7558ec24ace58a66eb2d1f9bec57d51eb7e2f68bc8b6dd6e2d", func := "fresco/frescolaw01.UtfDecode", spec := "utfDecode", unfollowed := true, recurses := true, apart := false }
def UtfDecodeSaid : Prop := utfDecodeRow.holds Try.pinned (OpenSpec.ofChange utfDecodeSpec)

/-- ITS FALSE NEIGHBOUR: 'it returns false'. Refute it at one input. -/
def utfDecodeWrong : ChangeSpec := { name := "utfDecode", fn := fun _ => fun
  | [d] => { results := [.lit (.bool false)], args := [d] }
  | _ => none }
def UtfDecodeWrongFalsely : Prop := utfDecodeRow.holds Try.pinned (OpenSpec.ofChange utfDecodeWrong)

/-- 'frescolaw01.UtfText': WHATEVER THE INPUT: true; the input reads as it did. -/
def utfTextSpec : ChangeSpec := { name := "utfText", fn := fun _ => fun
  | [d] => { results := [.lit (.bool true)], args := [d] }
  | _ => none }
def utfTextRow : OpenClaim := { program := "ytbgbgikppcjcgaa", sum := "5b0743eaab63ab7558ec24ace58a66eb2d1f9bec57d51eb7e2f68bc8b6dd6e2d", func := "fresco/frescolaw01.UtfText", spec := "utfText", unfollowed := true, recurses := true, apart := false }
def UtfTextSaid : Prop := utfTextRow.holds Try.pinned (OpenSpec.ofChange utfTextSpec)

/-- ITS FALSE NEIGHBOUR: 'it returns false'. Refute it at one input. -/
def utfTextWrong : ChangeSpec := { name := "utfText", fn := fun _ => fun
  | [d] => { results := [.lit (.bool false)], args := [d] }
  | _ => none }
def UtfTextWrongFalsely : Prop := utfTextRow.holds Try.pinned (OpenSpec.ofChange utfTextWrong)

/-- 'frescolaw01.UtfRunes': WHATEVER THE INPUT: true; the input reads as it did. -/
def utfRunesSpec : ChangeSpec := { name := "utfRunes", fn := fun _ => fun
  | [d] => { results := [.lit (.bool true)], args := [d] }
  | _ => none }
def utfRunesRow : OpenClaim := { program := "ytbgbgikppcjcgaa", sum := "5b0743eaab63ab7558ec24ace58a66eb2d1f9bec57d51eb7e2f68bc8b6dd6e2d", func := "fresco/frescolaw01.UtfRunes", spec := "utfRunes", unfollowed := true, recurses := true, apart := false }
def UtfRunesSaid : Prop := utfRunesRow.holds Try.pinned (OpenSpec.ofChange utfRunesSpec)

/-- ITS FALSE NEIGHBOUR: 'it returns false'. Refute it at one input. -/
def utfRunesWrong : ChangeSpec := { name := "utfRunes", fn := fun _ => fun
  | [d] => { results := [.lit (.bool false)], args := [d] }
  | _ => none }
def UtfRunesWrongFalsely : Prop := utfRunesRow.holds Try.pinned (OpenSpec.ofChange utfRunesWrong)

/-- 'frescolaw01.UtfBack': WHATEVER THE INPUT: true; the input reads as it did. -/
def utfBackSpec : ChangeSpec := { name := "utfBack", fn := fun _ => fun
  | [d] => { results := [.lit (.bool true)], args := [d] }
  | _ => none }
def utfBackRow : OpenClaim := { program := "ytbgbgikppcjcgaa", sum := "5b0743eaab63ab7558ec24ace58a66eb2d1f9bec57d51eb7e2f68bc8b6dd6e2d", func := "fresco/frescolaw01.UtfBack", spec := "utfBack", unfollowed := true, recurses := true, apart := false }
def UtfBackSaid : Prop := utfBackRow.holds Try.pinned (OpenSpec.ofChange utfBackSpec)

/-- ITS FALSE NEIGHBOUR: 'it returns false'. Refute it at one input. -/
def utfBackWrong : ChangeSpec := { name := "utfBack", fn := fun _ => fun
  | [d] => { results := [.lit (.bool false)], args := [d] }
  | _ => none }
def UtfBackWrongFalsely : Prop := utfBackRow.holds Try.pinned (OpenSpec.ofChange utfBackWrong)

/-- 'frescolaw01.UtfClean': WHATEVER THE INPUT: true; the input reads as it did. -/
def utfCleanSpec : ChangeSpec := { name := "utfClean", fn := fun _ => fun
  | [d] => { results := [.lit (.bool true)], args := [d] }
  | _ => none }
def utfCleanRow : OpenClaim := { program := "ytbgbgikppcjcgaa", sum := "5b0743eaab63ab7558ec24ace58a66eb2d1f9bec57d51eb7e2f68bc8b6dd6e2d", func := "fresco/frescolaw01.UtfClean", spec := "utfClean", unfollowed := true, recurses := true, apart := false }
def UtfCleanSaid : Prop := utfCleanRow.holds Try.pinned (OpenSpec.ofChange utfCleanSpec)

/-- ITS FALSE NEIGHBOUR: 'it returns false'. Refute it at one input. -/
def utfCleanWrong : ChangeSpec := { name := "utfClean", fn := fun _ => fun
  | [d] => { results := [.lit (.bool false)], args := [d] }
  | _ => none }
def UtfCleanWrongFalsely : Prop := utfCleanRow.holds Try.pinned (OpenSpec.ofChange utfCleanWrong)

/-- 'frescolaw01.UtfJoins': WHATEVER THE INPUT: true; the input reads as it did. -/
def utfJoinsSpec : ChangeSpec := { name := "utfJoins", fn := fun _ => fun
  | [d1, d2] => { results := [.lit (.bool true)], args := [d1, d2] }
  | _ => none }
def utfJoinsRow : OpenClaim := { program := "ytbgbgikppcjcgaa", sum := "5b0743eaab63ab7558ec24ace58a66eb2d1f9bec57d51eb7e2f68bc8b6dd6e2d", func := "fresco/frescolaw01.UtfJoins", spec := "utfJoins", unfollowed := true, recurses := true, apart := false }
def UtfJoinsSaid : Prop := utfJoinsRow.holds Try.pinned (OpenSpec.ofChange utfJoinsSpec)

/-- ITS FALSE NEIGHBOUR: 'it returns false'. Refute it at one input. -/
def utfJoinsWrong : ChangeSpec := { name := "utfJoins", fn := fun _ => fun
  | [d1, d2] => { results := [.lit (.bool false)], args := [d1, d2] }
  | _ => none }
def UtfJoinsWrongFalsely : Prop := utfJoinsRow.holds Try.pinned (OpenSpec.ofChange utfJoinsWrong)

/-- 'frescolaw01.UtfNil': WHATEVER THE INPUT: true; the input reads as it did. -/
def utfNilSpec : ChangeSpec := { name := "utfNil", fn := fun _ => fun
  | [d] => { results := [.lit (.bool true)], args := [d] }
  | _ => none }
def utfNilRow : OpenClaim := { program := "ytbgbgikppcjcgaa", sum := "5b0743eaab63ab7558ec24ace58a66eb2d1f9bec57d51eb7e2f68bc8b6dd6e2d", func := "fresco/frescolaw01.UtfNil", spec := "utfNil", unfollowed := true, recurses := true, apart := false }
def UtfNilSaid : Prop := utfNilRow.holds Try.pinned (OpenSpec.ofChange utfNilSpec)

/-- ITS FALSE NEIGHBOUR: 'it returns false'. Refute it at one input. -/
def utfNilWrong : ChangeSpec := { name := "utfNil", fn := fun _ => fun
  | [d] => { results := [.lit (.bool false)], args := [d] }
  | _ => none }
def UtfNilWrongFalsely : Prop := utfNilRow.holds Try.pinned (OpenSpec.ofChange utfNilWrong)

/-- 'frescolaw01.UtfScripts': WHATEVER THE INPUT: true; the input reads as it did. -/
def utfScriptsSpec : ChangeSpec := { name := "utfScripts", fn := fun _ => fun
  | [d1, d2] => { results := [.lit (.bool true)], args := [d1, d2] }
  | _ => none }
def utfScriptsRow : OpenClaim := { program := "ytbgbgikppcjcgaa", sum := "5b0743eaab63ab7558ec24ace58a66eb2d1f9bec57d51eb7e2f68bc8b6dd6e2d", func := "fresco/frescolaw01.UtfScripts", spec := "utfScripts", unfollowed := true, recurses := true, apart := false }
def UtfScriptsSaid : Prop := utfScriptsRow.holds Try.pinned (OpenSpec.ofChange utfScriptsSpec)

/-- ITS FALSE NEIGHBOUR: 'it returns false'. Refute it at one input. -/
def utfScriptsWrong : ChangeSpec := { name := "utfScripts", fn := fun _ => fun
  | [d1, d2] => { results := [.lit (.bool false)], args := [d1, d2] }
  | _ => none }
def UtfScriptsWrongFalsely : Prop := utfScriptsRow.holds Try.pinned (OpenSpec.ofChange utfScriptsWrong)

/-- 'frescolaw01.UtfPieces': WHATEVER THE INPUT: true; the input reads as it did. -/
def utfPiecesSpec : ChangeSpec := { name := "utfPieces", fn := fun _ => fun
  | [d] => { results := [.lit (.bool true)], args := [d] }
  | _ => none }
def utfPiecesRow : OpenClaim := { program := "ytbgbgikppcjcgaa", sum := "5b0743eaab63ab7558ec24ace58a66eb2d1f9bec57d51eb7e2f68bc8b6dd6e2d", func := "fresco/frescolaw01.UtfPieces", spec := "utfPieces", unfollowed := true, recurses := true, apart := false }
def UtfPiecesSaid : Prop := utfPiecesRow.holds Try.pinned (OpenSpec.ofChange utfPiecesSpec)

/-- ITS FALSE NEIGHBOUR: 'it returns false'. Refute it at one input. -/
def utfPiecesWrong : ChangeSpec := { name := "utfPieces", fn := fun _ => fun
  | [d] => { results := [.lit (.bool false)], args := [d] }
  | _ => none }
def UtfPiecesWrongFalsely : Prop := utfPiecesRow.holds Try.pinned (OpenSpec.ofChange utfPiecesWrong)

/- THE SECOND FORM. 'bulk': how many values and letters a reading holds, each counted each time it is reached (what is shared counts as often as it is met; a slice's spare places count too). A statement '..UptoSaid' is the law's where the arguments, and the package variables that the reading takes, are together of bulk at most 1048576: NARROWER than '..Said'. Prove '..Said' where nothing that the law and all that it calls make is longer than what came in: it says more and counts as full. Else prove '..UptoSaid'. A law counts once. -/
mutual
def uptoBulk {H : Type} : DataW H → Nat
  | .lit (.string bytes) => bytes.length + 1
  | .lit _ => 1
  | .nil => 1
  | .ptr d => uptoBulk d + 1
  | .slice elems spare => uptoBulkAll elems + uptoBulkAll spare + 1
  | .agg parts => uptoBulkAll parts + 1
  | .iface _ d => uptoBulk d + 1
  | .map entries => uptoBulkEntries entries + 1
  | .held _ => 1
def uptoBulkAll {H : Type} : List (DataW H) → Nat
  | [] => 0
  | d :: r => uptoBulk d + uptoBulkAll r
def uptoBulkEntries {H : Type} : List (Lit × DataW H) → Nat
  | [] => 0
  | x :: r => uptoBulkEntry x + uptoBulkEntries r
def uptoBulkEntry {H : Type} : Lit × DataW H → Nat
  | (.string bytes, d) => bytes.length + uptoBulk d + 1
  | (_, d) => uptoBulk d + 1
 end
def uptoSmall : (H : Type) → List (DataW H) → Bool := fun _ ds => decide (uptoBulkAll ds ≤ 1048576)
def OpenSpec.upto (s : _root_.Go.ChangeSpec) : _root_.Go.OpenSpec := { _root_.Go.OpenSpec.ofChange s with cond := some uptoSmall }

/-- 'frescolaw02.WidthKind', WHERE WHAT IT READS IS OF BULK AT MOST 1048576: true; the input reads as it did. -/
def widthKindUptoRow : OpenClaim := { program := "ytbgbgikppcjcgaa", sum := "5b0743eaab63ab7558ec24ace58a66eb2d1f9bec57d51eb7e2f68bc8b6dd6e2d", func := "fresco/frescolaw02.WidthKind", spec := "widthKind", unfollowed := true, recurses := true, apart := false, narrowed := true }
def WidthKindUptoSaid : Prop := widthKindUptoRow.holds Try.pinned (OpenSpec.upto widthKindSpec)

/-- 'frescolaw01.UtfDecode', WHERE WHAT IT READS IS OF BULK AT MOST 1048576: true; the input reads as it did. -/
def utfDecodeUptoRow : OpenClaim := { program := "ytbgbgikppcjcgaa", sum := "5b0743eaab63ab7558ec24ace58a66eb2d1f9bec57d51eb7e2f68bc8b6dd6e2d", func := "fresco/frescolaw01.UtfDecode", spec := "utfDecode", unfollowed := true, recurses := true, apart := false, narrowed := true }
def UtfDecodeUptoSaid : Prop := utfDecodeUptoRow.holds Try.pinned (OpenSpec.upto utfDecodeSpec)

/-- 'frescolaw01.UtfText', WHERE WHAT IT READS IS OF BULK AT MOST 1048576: true; the input reads as it did. -/
def utfTextUptoRow : OpenClaim := { program := "ytbgbgikppcjcgaa", sum := "5b0743eaab63ab7558ec24ace58a66eb2d1f9bec57d51eb7e2f68bc8b6dd6e2d", func := "fresco/frescolaw01.UtfText", spec := "utfText", unfollowed := true, recurses := true, apart := false, narrowed := true }
def UtfTextUptoSaid : Prop := utfTextUptoRow.holds Try.pinned (OpenSpec.upto utfTextSpec)

/-- 'frescolaw01.UtfRunes', WHERE WHAT IT READS IS OF BULK AT MOST 1048576: true; the input reads as it did. -/
def utfRunesUptoRow : OpenClaim := { program := "ytbgbgikppcjcgaa", sum := "5b0743eaab63ab7558ec24ace58a66eb2d1f9bec57d51eb7e2f68bc8b6dd6e2d", func := "fresco/frescolaw01.UtfRunes", spec := "utfRunes", unfollowed := true, recurses := true, apart := false, narrowed := true }
def UtfRunesUptoSaid : Prop := utfRunesUptoRow.holds Try.pinned (OpenSpec.upto utfRunesSpec)

/-- 'frescolaw01.UtfBack', WHERE WHAT IT READS IS OF BULK AT MOST 1048576: true; the input reads as it did. -/
def utfBackUptoRow : OpenClaim := { program := "ytbgbgikppcjcgaa", sum := "5b0743eaab63ab7558ec24ace58a66eb2d1f9bec57d51eb7e2f68bc8b6dd6e2d", func := "fresco/frescolaw01.UtfBack", spec := "utfBack", unfollowed := true, recurses := true, apart := false, narrowed := true }
def UtfBackUptoSaid : Prop := utfBackUptoRow.holds Try.pinned (OpenSpec.upto utfBackSpec)

/-- 'frescolaw01.UtfClean', WHERE WHAT IT READS IS OF BULK AT MOST 1048576: true; the input reads as it did. -/
def utfCleanUptoRow : OpenClaim := { program := "ytbgbgikppcjcgaa", sum := "5b0743eaab63ab7558ec24ace58a66eb2d1f9bec57d51eb7e2f68bc8b6dd6e2d", func := "fresco/frescolaw01.UtfClean", spec := "utfClean", unfollowed := true, recurses := true, apart := false, narrowed := true }
def UtfCleanUptoSaid : Prop := utfCleanUptoRow.holds Try.pinned (OpenSpec.upto utfCleanSpec)

/-- 'frescolaw01.UtfJoins', WHERE WHAT IT READS IS OF BULK AT MOST 1048576: true; the input reads as it did. -/
def utfJoinsUptoRow : OpenClaim := { program := "ytbgbgikppcjcgaa", sum := "5b0743eaab63ab7558ec24ace58a66eb2d1f9bec57d51eb7e2f68bc8b6dd6e2d", func := "fresco/frescolaw01.UtfJoins", spec := "utfJoins", unfollowed := true, recurses := true, apart := false, narrowed := true }
def UtfJoinsUptoSaid : Prop := utfJoinsUptoRow.holds Try.pinned (OpenSpec.upto utfJoinsSpec)

/-- 'frescolaw01.UtfNil', WHERE WHAT IT READS IS OF BULK AT MOST 1048576: true; the input reads as it did. -/
def utfNilUptoRow : OpenClaim := { program := "ytbgbgikppcjcgaa", sum := "5b0743eaab63ab7558ec24ace58a66eb2d1f9bec57d51eb7e2f68bc8b6dd6e2d", func := "fresco/frescolaw01.UtfNil", spec := "utfNil", unfollowed := true, recurses := true, apart := false, narrowed := true }
def UtfNilUptoSaid : Prop := utfNilUptoRow.holds Try.pinned (OpenSpec.upto utfNilSpec)

/-- 'frescolaw01.UtfScripts', WHERE WHAT IT READS IS OF BULK AT MOST 1048576: true; the input reads as it did. -/
def utfScriptsUptoRow : OpenClaim := { program := "ytbgbgikppcjcgaa", sum := "5b0743eaab63ab7558ec24ace58a66eb2d1f9bec57d51eb7e2f68bc8b6dd6e2d", func := "fresco/frescolaw01.UtfScripts", spec := "utfScripts", unfollowed := true, recurses := true, apart := false, narrowed := true }
def UtfScriptsUptoSaid : Prop := utfScriptsUptoRow.holds Try.pinned (OpenSpec.upto utfScriptsSpec)

/-- 'frescolaw01.UtfPieces', WHERE WHAT IT READS IS OF BULK AT MOST 1048576: true; the input reads as it did. -/
def utfPiecesUptoRow : OpenClaim := { program := "ytbgbgikppcjcgaa", sum := "5b0743eaab63ab7558ec24ace58a66eb2d1f9bec57d51eb7e2f68bc8b6dd6e2d", func := "fresco/frescolaw01.UtfPieces", spec := "utfPieces", unfollowed := true, recurses := true, apart := false, narrowed := true }
def UtfPiecesUptoSaid : Prop := utfPiecesUptoRow.holds Try.pinned (OpenSpec.upto utfPiecesSpec)

end Rows
end Go.Proofs.Ytbgbgikppcjcgaa
