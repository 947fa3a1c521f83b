/-
  The document's Split, for use.
-/
import Derived.Test.YtinnggiohalifaaCluRef2
import Derived.Test.YtinnggiohalifaaCluUse
namespace Go.Proofs.Ytinnggiohalifaa.clu
open Go.RowKit Go.Proofs
open Go.Proofs.Ytinnggiohalifaa.wid Go.Proofs.Ytinnggiohalifaa.utf
set_option linter.unusedVariables false

theorem refSplit_use (s : ByteArray) (w : World) (hs : s.size ≤ 1099511627776) : Calls Try.prog 85 #[.string s] w fun e w' =>
    ∃ v, e = .returned v ∧ w'.ownsRow w.heap.size 55 2 v (told s).length (cells2 (told s)) ∧ Reads2 w' v (told s) ∧ Below w.heap.size w w' :=
  (refSplit_any s w hs).mono fun _ _ ⟨v, he, ho, hb⟩ => by
    rw [cc_seen, ← seen_length] at ho
    exact ⟨v, he, ho, reads2_own ho, hb⟩

end Go.Proofs.Ytinnggiohalifaa.clu
