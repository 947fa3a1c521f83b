/-
  The document's Split, for use.
-/
import Derived.Test.YtbhhfagifdjmmaaGreatCluRef2
import Derived.Test.YtbhhfagifdjmmaaGreatCluUse
namespace Go.Proofs.YtbhhfagifdjmmaaGreat.clu
open Go.RowKit Go.Proofs
open Go.Proofs.YtbhhfagifdjmmaaGreat.wid Go.Proofs.YtbhhfagifdjmmaaGreat.utf
set_option linter.unusedVariables false

theorem refSplit_use (s : ByteArray) (w : World) (hs : s.size ≤ 1099511627776) : Calls Tryz.prog 63 #[.string s] w fun e w' =>
    ∃ v, e = .returned v ∧ w'.ownsRow w.heap.size 40 2 v (told s).length (cells2 (told s)) ∧ Reads2 w' v (told s) ∧ Below w.heap.size w w' :=
  (refSplit_any s w hs).mono fun _ _ ⟨v, he, ho, hb⟩ => by
    rw [cc_seen, ← seen_length] at ho
    exact ⟨v, he, ho, reads2_own ho, hb⟩

end Go.Proofs.YtbhhfagifdjmmaaGreat.clu
