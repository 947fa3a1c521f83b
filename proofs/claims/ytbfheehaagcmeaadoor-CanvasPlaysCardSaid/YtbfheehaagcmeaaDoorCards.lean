/-
  DERIVED. GIVEN WITH THE SEED: THE CARDS: each row of YtbfheehaagcmeaaDoorRows.lean that lists a variable, with what it lists TIED to the program's text (the seventh form; the later family's looks); each row that meets fmt, with fmt's text TOLD by the authors' own Lean function (tested against real Go, not proved from fmt's source: count such statements apart). THE CARD IS WHAT COUNTS. Prove the row's statement (the work); the ties are given (YtbfheehaagcmeaaDoorTie.lean); close each card by the builder's one call (the guide's Derived/Test/ToyasCard.lean, 'card_holds'). Laid BY PROGRAM, IN A SANDBOX (cutbox-door.mjs). By AI agents, Wed Nov 11 2026. No macro, syntax, notation, axiom, sorry.
-/
import Derived.Test.YtbfheehaagcmeaaDoorRows
import GoSem.ClaimSeven
namespace Go.Proofs.YtbfheehaagcmeaaDoor
namespace Rows

/-- THE TIED CARD OF 'frescolaw18.CanvasPlays'. -/
def canvasPlaysCard : Claim7 := { stood := { row := canvasPlaysRow, standIns := [], harness := (true, "27bbeb3141f559c5b2b1b9586750c8685c72b965a91707b3c2fd6a239f04dc8d"), looks := false }, kinds := [], alts := [], laidByText := true, laidKinds := [.data], laidTests := true, laidLooks := .later }
def CanvasPlaysCardSaid : Prop := Claim7.holds Tryd.pinned (.plain (OpenSpec.ofChange canvasPlaysSpec)) canvasPlaysCard

/-- THE TIED CARD OF 'frescolaw18.CanvasRound'. -/
def canvasRoundCard : Claim7 := { stood := { row := canvasRoundRow, standIns := [], harness := (true, "27bbeb3141f559c5b2b1b9586750c8685c72b965a91707b3c2fd6a239f04dc8d"), looks := false }, kinds := [], alts := [], laidByText := true, laidKinds := [.data], laidTests := true, laidLooks := .later }
def CanvasRoundCardSaid : Prop := Claim7.holds Tryd.pinned (.plain (OpenSpec.ofChange canvasRoundSpec)) canvasRoundCard

/-- THE TIED CARD OF 'frescolaw18.CanvasWhole'. -/
def canvasWholeCard : Claim7 := { stood := { row := canvasWholeRow, standIns := [], harness := (true, "27bbeb3141f559c5b2b1b9586750c8685c72b965a91707b3c2fd6a239f04dc8d"), looks := false }, kinds := [], alts := [], laidByText := true, laidKinds := [.data], laidTests := true, laidLooks := .later }
def CanvasWholeCardSaid : Prop := Claim7.holds Tryd.pinned (.plain (OpenSpec.ofChange canvasWholeSpec)) canvasWholeCard

/-- THE SECOND FORM's CARD OF 'frescolaw18.CanvasPlays'. -/
def canvasPlaysUptoCard : Claim7 := { stood := { row := canvasPlaysUptoRow, standIns := [], harness := (true, "27bbeb3141f559c5b2b1b9586750c8685c72b965a91707b3c2fd6a239f04dc8d"), looks := false }, kinds := [], alts := [], laidByText := true, laidKinds := [.data], laidTests := true, laidLooks := .later }
def CanvasPlaysUptoCardSaid : Prop := Claim7.holds Tryd.pinned (.plain (OpenSpec.upto canvasPlaysSpec)) canvasPlaysUptoCard

/-- THE SECOND FORM's CARD OF 'frescolaw18.CanvasRound'. -/
def canvasRoundUptoCard : Claim7 := { stood := { row := canvasRoundUptoRow, standIns := [], harness := (true, "27bbeb3141f559c5b2b1b9586750c8685c72b965a91707b3c2fd6a239f04dc8d"), looks := false }, kinds := [], alts := [], laidByText := true, laidKinds := [.data], laidTests := true, laidLooks := .later }
def CanvasRoundUptoCardSaid : Prop := Claim7.holds Tryd.pinned (.plain (OpenSpec.upto canvasRoundSpec)) canvasRoundUptoCard

/-- THE SECOND FORM's CARD OF 'frescolaw18.CanvasWhole'. -/
def canvasWholeUptoCard : Claim7 := { stood := { row := canvasWholeUptoRow, standIns := [], harness := (true, "27bbeb3141f559c5b2b1b9586750c8685c72b965a91707b3c2fd6a239f04dc8d"), looks := false }, kinds := [], alts := [], laidByText := true, laidKinds := [.data], laidTests := true, laidLooks := .later }
def CanvasWholeUptoCardSaid : Prop := Claim7.holds Tryd.pinned (.plain (OpenSpec.upto canvasWholeSpec)) canvasWholeUptoCard
end Rows
end Go.Proofs.YtbfheehaagcmeaaDoor
