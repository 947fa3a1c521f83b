/-
  The walk of the law WrapWidths.
-/
import Derived.Test.YtgniobgadilpgaaWrpLawWakes
import Derived.Test.YtgniobgadilpgaaWrpRefLeast
namespace Go.Proofs.Ytgniobgadilpgaa.wrp
open Go.RowKit Go.Proofs
set_option linter.unusedVariables false

theorem lawWidths_any (s : ByteArray) (mode : Int) (w : World) (hs : s.size ≤ 1048576) : Calls Try.prog 4 #[.string s, .int .i8 mode] w fun e w' => e = .returned (.bool true) ∧ Below w.heap.size w w' := by
  have HK := run.hid (fun w => wakes_any w)
  have H1 := run.hid (fun w => least_any s mode w (by omega))
  have H2 := run.hid (fun w => refLeast_any s mode w (by omega))
  have H3 := run.hid (fun w => most_any s w (by omega))
  have H4 := run.hid (fun w => refMost_any s w (by omega))
  generalize leastT s mode = a at *
  generalize leastT s 2 = b at *
  go_enter Try.func4, Try.ntmps4
  go_wp2_with fail
  refine (H1.out _).mono ?_
  rintro e w1 ⟨rfl, hb1⟩
  go_wp2_with fail
  refine (H2.out _).mono ?_
  rintro e w2 ⟨rfl, hb2⟩
  replace hb2 := hb1.trans (hb2.mono hb1.size)
  go_wp2_with fail
  refine (H3.out _).mono ?_
  rintro e w3 ⟨rfl, hb3⟩
  replace hb3 := hb2.trans (hb3.mono hb2.size)
  go_wp2_with fail
  refine (H4.out _).mono ?_
  rintro e w4 ⟨rfl, hb4⟩
  replace hb4 := hb3.trans (hb4.mono hb3.size)
  go_wp2_with fail
  refine (HK.out _).mono ?_
  rintro e w5 ⟨rfl, hb5⟩
  replace hb5 := hb4.trans (hb5.mono hb4.size)
  go_wp2
  go_ret
  exact ⟨rfl, hb5⟩

end Go.Proofs.Ytgniobgadilpgaa.wrp
