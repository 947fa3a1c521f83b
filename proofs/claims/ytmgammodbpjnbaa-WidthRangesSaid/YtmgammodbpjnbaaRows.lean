/-
  No cell of these rows narrows 'for every input' (looked for: loops, veiled, ifaces, maps, wideKeys, modest, calm, conditions, laid).
  DERIVED. THE GIVEN ROWS OF THIS SEAT. 6 by the template 'for every input the law returns true; each argument reads behind the call as it read before'; 0 by the template 'total and deterministic' (their statements: YtmgammodbpjnbaaTotals.lean).
  GIVEN WITH THE SEED: the statements are not yours to turn. If you find one false, say at which input.
  Laid BY PROGRAM, IN A SANDBOX (cutbox-rows.mjs): the forced cells as the released guide's own fill.sh prints them over the translation 4f85133b9554d9ad… (all of the seat's roots in one cut). By AI agents, Wed Nov 11 2026. No macro, syntax, notation, axiom, sorry.
-/
import Derived.Test.YtmgammodbpjnbaaChecked
import GoSem.Claim
import GoSem.ClaimJoined
import GoSem.ClaimMapViews
import Derived.JoinedTies
import Derived.KernelRfl
namespace Go.Proofs.Ytmgammodbpjnbaa
/- THE CELL 'sum', in the pinned program and in every row, IS THE sha256 OF THE DUMP (.gsa) THAT YtmgammodbpjnbaaProg.lean LOADS. Nothing in Lean hashes anything: it is a label: what it is worth is what the hold of that sum in a sandbox is worth. -/
noncomputable def Try.pinned : Pinned := { name := "ytmgammodbpjnbaa", sum := "4f85133b9554d9adc15a775fccdd9276708be8a2990a1e8c3a04a47b33a624f6", checked := Try.checked }
namespace Rows
def none {H : Type} : Left H := { results := [], args := [] }

/-- 'frescolaw01.UtfScripts': WHATEVER THE INPUT: true; the input reads as it did. -/
def utfScriptsSpec : ChangeSpec := { name := "utfScripts", fn := fun _ => fun
  | [d1, d2] => { results := [.lit (.bool true)], args := [d1, d2] }
  | _ => none }
def utfScriptsRow : OpenClaim := { program := "ytmgammodbpjnbaa", sum := "4f85133b9554d9adc15a775fccdd9276708be8a2990a1e8c3a04a47b33a624f6", func := "fresco/frescolaw01.UtfScripts", spec := "utfScripts", unfollowed := true, recurses := true, apart := false }
def UtfScriptsSaid : Prop := utfScriptsRow.holds Try.pinned (OpenSpec.ofChange utfScriptsSpec)

/-- ITS FALSE NEIGHBOUR: 'it returns false'. Refute it at one input. -/
def utfScriptsWrong : ChangeSpec := { name := "utfScripts", fn := fun _ => fun
  | [d1, d2] => { results := [.lit (.bool false)], args := [d1, d2] }
  | _ => none }
def UtfScriptsWrongFalsely : Prop := utfScriptsRow.holds Try.pinned (OpenSpec.ofChange utfScriptsWrong)

/-- 'frescolaw02.WidthRanges': WHATEVER THE INPUT: true; the input reads as it did. -/
def widthRangesSpec : ChangeSpec := { name := "widthRanges", fn := fun _ => fun
  | [d1, d2] => { results := [.lit (.bool true)], args := [d1, d2] }
  | _ => none }
def widthRangesRow : OpenClaim := { program := "ytmgammodbpjnbaa", sum := "4f85133b9554d9adc15a775fccdd9276708be8a2990a1e8c3a04a47b33a624f6", func := "fresco/frescolaw02.WidthRanges", spec := "widthRanges", inPlace := ["internal/reflectlite.ValueOf", "internal/reflectlite.Swapper", "(internal/reflectlite.Value).Len"], unfollowed := true, recurses := true, apart := false }
def WidthRangesSaid : Prop := widthRangesRow.holds Try.pinned (OpenSpec.ofChange widthRangesSpec)

/-- ITS FALSE NEIGHBOUR: 'it returns false'. Refute it at one input. -/
def widthRangesWrong : ChangeSpec := { name := "widthRanges", fn := fun _ => fun
  | [d1, d2] => { results := [.lit (.bool false)], args := [d1, d2] }
  | _ => none }
def WidthRangesWrongFalsely : Prop := widthRangesRow.holds Try.pinned (OpenSpec.ofChange widthRangesWrong)

/-- 'frescolaw02.WidthOnce': WHATEVER THE INPUT: true; the input reads as it did. -/
def widthOnceSpec : ChangeSpec := { name := "widthOnce", fn := fun _ => fun
  | [d] => { results := [.lit (.bool true)], args := [d] }
  | _ => none }
def widthOnceRow : OpenClaim := { program := "ytmgammodbpjnbaa", sum := "4f85133b9554d9adc15a775fccdd9276708be8a2990a1e8c3a04a47b33a624f6", func := "fresco/frescolaw02.WidthOnce", spec := "widthOnce", inPlace := ["internal/reflectlite.ValueOf", "internal/reflectlite.Swapper", "(internal/reflectlite.Value).Len"], unfollowed := true, recurses := true, apart := false }
def WidthOnceSaid : Prop := widthOnceRow.holds Try.pinned (OpenSpec.ofChange widthOnceSpec)

/-- ITS FALSE NEIGHBOUR: 'it returns false'. Refute it at one input. -/
def widthOnceWrong : ChangeSpec := { name := "widthOnce", fn := fun _ => fun
  | [d] => { results := [.lit (.bool false)], args := [d] }
  | _ => none }
def WidthOnceWrongFalsely : Prop := widthOnceRow.holds Try.pinned (OpenSpec.ofChange widthOnceWrong)

/-- 'frescolaw02.WidthShape': WHATEVER THE INPUT: true; the input reads as it did. -/
def widthShapeSpec : ChangeSpec := { name := "widthShape", fn := fun _ => fun
  | [d] => { results := [.lit (.bool true)], args := [d] }
  | _ => none }
def widthShapeRow : OpenClaim := { program := "ytmgammodbpjnbaa", sum := "4f85133b9554d9adc15a775fccdd9276708be8a2990a1e8c3a04a47b33a624f6", func := "fresco/frescolaw02.WidthShape", spec := "widthShape", inPlace := ["internal/reflectlite.ValueOf", "internal/reflectlite.Swapper", "(internal/reflectlite.Value).Len"], unfollowed := true, recurses := true, apart := false }
def WidthShapeSaid : Prop := widthShapeRow.holds Try.pinned (OpenSpec.ofChange widthShapeSpec)

/-- ITS FALSE NEIGHBOUR: 'it returns false'. Refute it at one input. -/
def widthShapeWrong : ChangeSpec := { name := "widthShape", fn := fun _ => fun
  | [d] => { results := [.lit (.bool false)], args := [d] }
  | _ => none }
def WidthShapeWrongFalsely : Prop := widthShapeRow.holds Try.pinned (OpenSpec.ofChange widthShapeWrong)

/-- 'frescolaw02.WidthWhole': WHATEVER THE INPUT: true; the input reads as it did. -/
def widthWholeSpec : ChangeSpec := { name := "widthWhole", fn := fun _ => fun
  | [] => { results := [.lit (.bool true)], args := [] }
  | _ => none }
def widthWholeRow : OpenClaim := { program := "ytmgammodbpjnbaa", sum := "4f85133b9554d9adc15a775fccdd9276708be8a2990a1e8c3a04a47b33a624f6", func := "fresco/frescolaw02.WidthWhole", spec := "widthWhole", inPlace := ["internal/reflectlite.ValueOf", "internal/reflectlite.Swapper", "(internal/reflectlite.Value).Len"], unfollowed := true, recurses := true, apart := false }
def WidthWholeSaid : Prop := widthWholeRow.holds Try.pinned (OpenSpec.ofChange widthWholeSpec)

/-- ITS FALSE NEIGHBOUR: 'it returns false'. Refute it at one input. -/
def widthWholeWrong : ChangeSpec := { name := "widthWhole", fn := fun _ => fun
  | [] => { results := [.lit (.bool false)], args := [] }
  | _ => none }
def WidthWholeWrongFalsely : Prop := widthWholeRow.holds Try.pinned (OpenSpec.ofChange widthWholeWrong)

/-- 'frescolaw02.WidthNames': WHATEVER THE INPUT: true; the input reads as it did. -/
def widthNamesSpec : ChangeSpec := { name := "widthNames", fn := fun _ => fun
  | [] => { results := [.lit (.bool true)], args := [] }
  | _ => none }
def widthNamesRow : OpenClaim := { program := "ytmgammodbpjnbaa", sum := "4f85133b9554d9adc15a775fccdd9276708be8a2990a1e8c3a04a47b33a624f6", func := "fresco/frescolaw02.WidthNames", spec := "widthNames", inPlace := ["internal/reflectlite.ValueOf", "internal/reflectlite.Swapper", "(internal/reflectlite.Value).Len"], unfollowed := true, recurses := true, apart := false }
def WidthNamesSaid : Prop := widthNamesRow.holds Try.pinned (OpenSpec.ofChange widthNamesSpec)

/-- ITS FALSE NEIGHBOUR: 'it returns false'. Refute it at one input. -/
def widthNamesWrong : ChangeSpec := { name := "widthNames", fn := fun _ => fun
  | [] => { results := [.lit (.bool false)], args := [] }
  | _ => none }
def WidthNamesWrongFalsely : Prop := widthNamesRow.holds Try.pinned (OpenSpec.ofChange widthNamesWrong)

/- THE SECOND FORM. 'bulk': how many values and letters a reading holds, each counted each time it is reached (what is shared counts as often as it is met; a slice's spare places count too). A statement '..UptoSaid' is the law's where the arguments, and the package variables that the reading takes, are together of bulk at most 1048576: NARROWER than '..Said'. Prove '..Said' where nothing that the law and all that it calls make is longer than what came in: it says more and counts as full. Else prove '..UptoSaid'. A law counts once. -/
mutual
def uptoBulk {H : Type} : DataW H → Nat
  | .lit (.string bytes) => bytes.length + 1
  | .lit _ => 1
  | .nil => 1
  | .ptr d => uptoBulk d + 1
  | .slice elems spare => uptoBulkAll elems + uptoBulkAll spare + 1
  | .agg parts => uptoBulkAll parts + 1
  | .iface _ d => uptoBulk d + 1
  | .map entries => uptoBulkEntries entries + 1
  | .held _ => 1
def uptoBulkAll {H : Type} : List (DataW H) → Nat
  | [] => 0
  | d :: r => uptoBulk d + uptoBulkAll r
def uptoBulkEntries {H : Type} : List (Lit × DataW H) → Nat
  | [] => 0
  | x :: r => uptoBulkEntry x + uptoBulkEntries r
def uptoBulkEntry {H : Type} : Lit × DataW H → Nat
  | (.string bytes, d) => bytes.length + uptoBulk d + 1
  | (_, d) => uptoBulk d + 1
 end
def uptoSmall : (H : Type) → List (DataW H) → Bool := fun _ ds => decide (uptoBulkAll ds ≤ 1048576)
def OpenSpec.upto (s : _root_.Go.ChangeSpec) : _root_.Go.OpenSpec := { _root_.Go.OpenSpec.ofChange s with cond := some uptoSmall }

/-- 'frescolaw01.UtfScripts', WHERE WHAT IT READS IS OF BULK AT MOST 1048576: true; the input reads as it did. -/
def utfScriptsUptoRow : OpenClaim := { program := "ytmgammodbpjnbaa", sum := "4f85133b9554d9adc15a775fccdd9276708be8a2990a1e8c3a04a47b33a624f6", func := "fresco/frescolaw01.UtfScripts", spec := "utfScripts", unfollowed := true, recurses := true, apart := false, narrowed := true }
def UtfScriptsUptoSaid : Prop := utfScriptsUptoRow.holds Try.pinned (OpenSpec.upto utfScriptsSpec)

/-- 'frescolaw02.WidthRanges', WHERE WHAT IT READS IS OF BULK AT MOST 1048576: true; the input reads as it did. -/
def widthRangesUptoRow : OpenClaim := { program := "ytmgammodbpjnbaa", sum := "4f85133b9554d9adc15a775fccdd9276708be8a2990a1e8c3a04a47b33a624f6", func := "fresco/frescolaw02.WidthRanges", spec := "widthRanges", inPlace := ["internal/reflectlite.ValueOf", "internal/reflectlite.Swapper", "(internal/reflectlite.Value).Len"], unfollowed := true, recurses := true, apart := false, narrowed := true }
def WidthRangesUptoSaid : Prop := widthRangesUptoRow.holds Try.pinned (OpenSpec.upto widthRangesSpec)

/-- 'frescolaw02.WidthOnce', WHERE WHAT IT READS IS OF BULK AT MOST 1048576: true; the input reads as it did. -/
def widthOnceUptoRow : OpenClaim := { program := "ytmgammodbpjnbaa", sum := "4f85133b9554d9adc15a775fccdd9276708be8a2990a1e8c3a04a47b33a624f6", func := "fresco/frescolaw02.WidthOnce", spec := "widthOnce", inPlace := ["internal/reflectlite.ValueOf", "internal/reflectlite.Swapper", "(internal/reflectlite.Value).Len"], unfollowed := true, recurses := true, apart := false, narrowed := true }
def WidthOnceUptoSaid : Prop := widthOnceUptoRow.holds Try.pinned (OpenSpec.upto widthOnceSpec)

/-- 'frescolaw02.WidthShape', WHERE WHAT IT READS IS OF BULK AT MOST 1048576: true; the input reads as it did. -/
def widthShapeUptoRow : OpenClaim := { program := "ytmgammodbpjnbaa", sum := "4f85133b9554d9adc15a775fccdd9276708be8a2990a1e8c3a04a47b33a624f6", func := "fresco/frescolaw02.WidthShape", spec := "widthShape", inPlace := ["internal/reflectlite.ValueOf", "internal/reflectlite.Swapper", "(internal/reflectlite.Value).Len"], unfollowed := true, recurses := true, apart := false, narrowed := true }
def WidthShapeUptoSaid : Prop := widthShapeUptoRow.holds Try.pinned (OpenSpec.upto widthShapeSpec)

/-- 'frescolaw02.WidthWhole', WHERE WHAT IT READS IS OF BULK AT MOST 1048576: true; the input reads as it did. -/
def widthWholeUptoRow : OpenClaim := { program := "ytmgammodbpjnbaa", sum := "4f85133b9554d9adc15a775fccdd9276708be8a2990a1e8c3a04a47b33a624f6", func := "fresco/frescolaw02.WidthWhole", spec := "widthWhole", inPlace := ["internal/reflectlite.ValueOf", "internal/reflectlite.Swapper", "(internal/reflectlite.Value).Len"], unfollowed := true, recurses := true, apart := false, narrowed := true }
def WidthWholeUptoSaid : Prop := widthWholeUptoRow.holds Try.pinned (OpenSpec.upto widthWholeSpec)

/-- 'frescolaw02.WidthNames', WHERE WHAT IT READS IS OF BULK AT MOST 1048576: true; the input reads as it did. -/
def widthNamesUptoRow : OpenClaim := { program := "ytmgammodbpjnbaa", sum := "4f85133b9554d9adc15a775fccdd9276708be8a2990a1e8c3a04a47b33a624f6", func := "fresco/frescolaw02.WidthNames", spec := "widthNames", inPlace := ["internal/reflectlite.ValueOf", "internal/reflectlite.Swapper", "(internal/reflectlite.Value).Len"], unfollowed := true, recurses := true, apart := false, narrowed := true }
def WidthNamesUptoSaid : Prop := widthNamesUptoRow.holds Try.pinned (OpenSpec.upto widthNamesSpec)

end Rows
end Go.Proofs.Ytmgammodbpjnbaa
