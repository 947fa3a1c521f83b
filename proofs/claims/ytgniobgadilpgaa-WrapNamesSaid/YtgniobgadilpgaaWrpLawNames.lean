/-
  The walk of the law WrapNames.
-/
import Derived.Test.YtgniobgadilpgaaWrpLawWakes
namespace Go.Proofs.Ytgniobgadilpgaa.wrp
open Go.RowKit Go.Proofs
set_option linter.unusedVariables false

theorem lawNames_any (w : World) : Calls Try.prog 7 #[] w fun e w' => e = .returned (.bool true) ∧ Below w.heap.size w w' := by
  have HK := run.hid (fun w => wakes_any w)
  go_enter Try.func7, Try.ntmps7
  go_wp2_with fail
  refine (HK.out _).mono ?_
  rintro e w1 ⟨rfl, hb1⟩
  go_wp2
  go_ret
  exact ⟨rfl, hb1⟩

end Go.Proofs.Ytgniobgadilpgaa.wrp
