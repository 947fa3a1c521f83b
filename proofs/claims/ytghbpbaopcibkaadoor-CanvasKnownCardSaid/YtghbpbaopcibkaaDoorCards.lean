/-
  DERIVED. GIVEN WITH THE SEED: THE CARDS: each row of YtghbpbaopcibkaaDoorRows.lean that lists a variable, with what it lists TIED to the program's text (the seventh form; the later family's looks); each row that meets fmt, with fmt's text TOLD by the authors' own Lean function (tested against real Go, not proved from fmt's source: count such statements apart). THE CARD IS WHAT COUNTS. Prove the row's statement (the work); the ties are given (YtghbpbaopcibkaaDoorTie.lean); close each card by the builder's one call (the guide's Derived/Test/ToyasCard.lean, 'card_holds'). Laid BY PROGRAM, IN A SANDBOX (cutbox-door.mjs). By AI agents, Wed Nov 11 2026. No macro, syntax, notation, axiom, sorry.
-/
import Derived.Test.YtghbpbaopcibkaaDoorRows
import GoSem.ClaimSeven
namespace Go.Proofs.YtghbpbaopcibkaaDoor
namespace Rows

/-- THE TIED CARD OF 'frescolaw18.CanvasBar'. -/
def canvasBarCard : Claim7 := { stood := { row := canvasBarRow, standIns := [], harness := (true, "6feb54a7d96f6bef9561898788e075a87a90589cf6dce2f1f7a565e7726dd4f1"), looks := false }, kinds := [], alts := [], laidByText := true, laidKinds := [.data], laidTests := true, laidLooks := .later }
def CanvasBarCardSaid : Prop := Claim7.holds Tryd.pinned (.plain (OpenSpec.ofChange canvasBarSpec)) canvasBarCard

/-- THE TIED CARD OF 'frescolaw18.CanvasLine'. -/
def canvasLineCard : Claim7 := { stood := { row := canvasLineRow, standIns := [], harness := (true, "6feb54a7d96f6bef9561898788e075a87a90589cf6dce2f1f7a565e7726dd4f1"), looks := false }, kinds := [], alts := [], laidByText := true, laidKinds := [.data], laidTests := true, laidLooks := .later }
def CanvasLineCardSaid : Prop := Claim7.holds Tryd.pinned (.plain (OpenSpec.ofChange canvasLineSpec)) canvasLineCard

/-- THE TIED CARD OF 'frescolaw18.CanvasTurn'. -/
def canvasTurnCard : Claim7 := { stood := { row := canvasTurnRow, standIns := [], harness := (true, "6feb54a7d96f6bef9561898788e075a87a90589cf6dce2f1f7a565e7726dd4f1"), looks := false }, kinds := [], alts := [], laidByText := true, laidKinds := [.data], laidTests := true, laidLooks := .later }
def CanvasTurnCardSaid : Prop := Claim7.holds Tryd.pinned (.plain (OpenSpec.ofChange canvasTurnSpec)) canvasTurnCard

/-- THE TIED CARD OF 'frescolaw18.CanvasCircle'. -/
def canvasCircleCard : Claim7 := { stood := { row := canvasCircleRow, standIns := [], harness := (true, "6feb54a7d96f6bef9561898788e075a87a90589cf6dce2f1f7a565e7726dd4f1"), looks := false }, kinds := [], alts := [], laidByText := true, laidKinds := [.data], laidTests := true, laidLooks := .later }
def CanvasCircleCardSaid : Prop := Claim7.holds Tryd.pinned (.plain (OpenSpec.ofChange canvasCircleSpec)) canvasCircleCard

/-- THE TIED CARD OF 'frescolaw18.CanvasSpark'. -/
def canvasSparkCard : Claim7 := { stood := { row := canvasSparkRow, standIns := [], harness := (true, "6feb54a7d96f6bef9561898788e075a87a90589cf6dce2f1f7a565e7726dd4f1"), looks := false }, kinds := [], alts := [], laidByText := true, laidKinds := [.data], laidTests := true, laidLooks := .later }
def CanvasSparkCardSaid : Prop := Claim7.holds Tryd.pinned (.plain (OpenSpec.ofChange canvasSparkSpec)) canvasSparkCard

/-- THE TIED CARD OF 'frescolaw18.CanvasKnown'. -/
def canvasKnownCard : Claim7 := { stood := { row := canvasKnownRow, standIns := [], harness := (true, "6feb54a7d96f6bef9561898788e075a87a90589cf6dce2f1f7a565e7726dd4f1"), looks := false }, kinds := [], alts := [], laidByText := true, laidKinds := [.data], laidTests := true, laidLooks := .later }
def CanvasKnownCardSaid : Prop := Claim7.holds Tryd.pinned (.plain (OpenSpec.ofChange canvasKnownSpec)) canvasKnownCard

/-- THE TIED CARD OF 'frescolaw18.CanvasPlays'. -/
def canvasPlaysCard : Claim7 := { stood := { row := canvasPlaysRow, standIns := [], harness := (true, "6feb54a7d96f6bef9561898788e075a87a90589cf6dce2f1f7a565e7726dd4f1"), looks := false }, kinds := [], alts := [], laidByText := true, laidKinds := [.data], laidTests := true, laidLooks := .later }
def CanvasPlaysCardSaid : Prop := Claim7.holds Tryd.pinned (.plain (OpenSpec.ofChange canvasPlaysSpec)) canvasPlaysCard

/-- THE TIED CARD OF 'frescolaw18.CanvasRound'. -/
def canvasRoundCard : Claim7 := { stood := { row := canvasRoundRow, standIns := [], harness := (true, "6feb54a7d96f6bef9561898788e075a87a90589cf6dce2f1f7a565e7726dd4f1"), looks := false }, kinds := [], alts := [], laidByText := true, laidKinds := [.data], laidTests := true, laidLooks := .later }
def CanvasRoundCardSaid : Prop := Claim7.holds Tryd.pinned (.plain (OpenSpec.ofChange canvasRoundSpec)) canvasRoundCard

/-- THE TIED CARD OF 'frescolaw18.CanvasWhole'. -/
def canvasWholeCard : Claim7 := { stood := { row := canvasWholeRow, standIns := [], harness := (true, "6feb54a7d96f6bef9561898788e075a87a90589cf6dce2f1f7a565e7726dd4f1"), looks := false }, kinds := [], alts := [], laidByText := true, laidKinds := [.data], laidTests := true, laidLooks := .later }
def CanvasWholeCardSaid : Prop := Claim7.holds Tryd.pinned (.plain (OpenSpec.ofChange canvasWholeSpec)) canvasWholeCard

/-- THE SECOND FORM's CARD OF 'frescolaw18.CanvasBar'. -/
def canvasBarUptoCard : Claim7 := { stood := { row := canvasBarUptoRow, standIns := [], harness := (true, "6feb54a7d96f6bef9561898788e075a87a90589cf6dce2f1f7a565e7726dd4f1"), looks := false }, kinds := [], alts := [], laidByText := true, laidKinds := [.data], laidTests := true, laidLooks := .later }
def CanvasBarUptoCardSaid : Prop := Claim7.holds Tryd.pinned (.plain (OpenSpec.upto canvasBarSpec)) canvasBarUptoCard

/-- THE SECOND FORM's CARD OF 'frescolaw18.CanvasLine'. -/
def canvasLineUptoCard : Claim7 := { stood := { row := canvasLineUptoRow, standIns := [], harness := (true, "6feb54a7d96f6bef9561898788e075a87a90589cf6dce2f1f7a565e7726dd4f1"), looks := false }, kinds := [], alts := [], laidByText := true, laidKinds := [.data], laidTests := true, laidLooks := .later }
def CanvasLineUptoCardSaid : Prop := Claim7.holds Tryd.pinned (.plain (OpenSpec.upto canvasLineSpec)) canvasLineUptoCard

/-- THE SECOND FORM's CARD OF 'frescolaw18.CanvasTurn'. -/
def canvasTurnUptoCard : Claim7 := { stood := { row := canvasTurnUptoRow, standIns := [], harness := (true, "6feb54a7d96f6bef9561898788e075a87a90589cf6dce2f1f7a565e7726dd4f1"), looks := false }, kinds := [], alts := [], laidByText := true, laidKinds := [.data], laidTests := true, laidLooks := .later }
def CanvasTurnUptoCardSaid : Prop := Claim7.holds Tryd.pinned (.plain (OpenSpec.upto canvasTurnSpec)) canvasTurnUptoCard

/-- THE SECOND FORM's CARD OF 'frescolaw18.CanvasCircle'. -/
def canvasCircleUptoCard : Claim7 := { stood := { row := canvasCircleUptoRow, standIns := [], harness := (true, "6feb54a7d96f6bef9561898788e075a87a90589cf6dce2f1f7a565e7726dd4f1"), looks := false }, kinds := [], alts := [], laidByText := true, laidKinds := [.data], laidTests := true, laidLooks := .later }
def CanvasCircleUptoCardSaid : Prop := Claim7.holds Tryd.pinned (.plain (OpenSpec.upto canvasCircleSpec)) canvasCircleUptoCard

/-- THE SECOND FORM's CARD OF 'frescolaw18.CanvasSpark'. -/
def canvasSparkUptoCard : Claim7 := { stood := { row := canvasSparkUptoRow, standIns := [], harness := (true, "6feb54a7d96f6bef9561898788e075a87a90589cf6dce2f1f7a565e7726dd4f1"), looks := false }, kinds := [], alts := [], laidByText := true, laidKinds := [.data], laidTests := true, laidLooks := .later }
def CanvasSparkUptoCardSaid : Prop := Claim7.holds Tryd.pinned (.plain (OpenSpec.upto canvasSparkSpec)) canvasSparkUptoCard

/-- THE SECOND FORM's CARD OF 'frescolaw18.CanvasKnown'. -/
def canvasKnownUptoCard : Claim7 := { stood := { row := canvasKnownUptoRow, standIns := [], harness := (true, "6feb54a7d96f6bef9561898788e075a87a90589cf6dce2f1f7a565e7726dd4f1"), looks := false }, kinds := [], alts := [], laidByText := true, laidKinds := [.data], laidTests := true, laidLooks := .later }
def CanvasKnownUptoCardSaid : Prop := Claim7.holds Tryd.pinned (.plain (OpenSpec.upto canvasKnownSpec)) canvasKnownUptoCard

/-- THE SECOND FORM's CARD OF 'frescolaw18.CanvasPlays'. -/
def canvasPlaysUptoCard : Claim7 := { stood := { row := canvasPlaysUptoRow, standIns := [], harness := (true, "6feb54a7d96f6bef9561898788e075a87a90589cf6dce2f1f7a565e7726dd4f1"), looks := false }, kinds := [], alts := [], laidByText := true, laidKinds := [.data], laidTests := true, laidLooks := .later }
def CanvasPlaysUptoCardSaid : Prop := Claim7.holds Tryd.pinned (.plain (OpenSpec.upto canvasPlaysSpec)) canvasPlaysUptoCard

/-- THE SECOND FORM's CARD OF 'frescolaw18.CanvasRound'. -/
def canvasRoundUptoCard : Claim7 := { stood := { row := canvasRoundUptoRow, standIns := [], harness := (true, "6feb54a7d96f6bef9561898788e075a87a90589cf6dce2f1f7a565e7726dd4f1"), looks := false }, kinds := [], alts := [], laidByText := true, laidKinds := [.data], laidTests := true, laidLooks := .later }
def CanvasRoundUptoCardSaid : Prop := Claim7.holds Tryd.pinned (.plain (OpenSpec.upto canvasRoundSpec)) canvasRoundUptoCard

/-- THE SECOND FORM's CARD OF 'frescolaw18.CanvasWhole'. -/
def canvasWholeUptoCard : Claim7 := { stood := { row := canvasWholeUptoRow, standIns := [], harness := (true, "6feb54a7d96f6bef9561898788e075a87a90589cf6dce2f1f7a565e7726dd4f1"), looks := false }, kinds := [], alts := [], laidByText := true, laidKinds := [.data], laidTests := true, laidLooks := .later }
def CanvasWholeUptoCardSaid : Prop := Claim7.holds Tryd.pinned (.plain (OpenSpec.upto canvasWholeSpec)) canvasWholeUptoCard
end Rows
end Go.Proofs.YtghbpbaopcibkaaDoor
