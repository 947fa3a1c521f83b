/-
  The walk of the law WrapAlign.
-/
import Derived.Test.YtgniobgadilpgaaWrpLawWakes
import Derived.Test.YtgniobgadilpgaaWrpRefAlign
namespace Go.Proofs.Ytgniobgadilpgaa.wrp
open Go.RowKit Go.Proofs
set_option linter.unusedVariables false

theorem lawAlign_any (s : ByteArray) (wd how : Int) (w : World) (hs : s.size ≤ 1048576) : Calls Try.prog 5 #[.string s, .int .i64 wd, .int .i8 how] w fun e w' => e = .returned (.bool true) ∧ Below w.heap.size w w' := by
  have HK := run.hid (fun w => wakes_any w)
  have H1 := run.hid (fun w => align_any s wd how w (by omega))
  have H2 := run.hid (fun w => refAlign_any s wd how w (by omega))
  generalize alignT s wd how = a at *
  go_enter Try.func5, Try.ntmps5
  go_wp2_with fail
  refine (H1.out _).mono ?_
  rintro e w1 ⟨rfl, hb1⟩
  go_wp2_with fail
  refine (H2.out _).mono ?_
  rintro e w2 ⟨rfl, hb2⟩
  replace hb2 := hb1.trans (hb2.mono hb1.size)
  go_wp2_with fail
  refine (HK.out _).mono ?_
  rintro e w3 ⟨rfl, hb3⟩
  replace hb3 := hb2.trans (hb3.mono hb2.size)
  go_wp2
  go_ret
  exact ⟨rfl, hb3⟩

end Go.Proofs.Ytgniobgadilpgaa.wrp
