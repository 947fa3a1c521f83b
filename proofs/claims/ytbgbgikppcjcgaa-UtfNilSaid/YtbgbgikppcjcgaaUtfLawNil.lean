/-
  The law UtfNil: a nil decoder tells nothing.
-/
import Derived.Test.YtbgbgikppcjcgaaUtfWakes
namespace Go.Proofs.Ytbgbgikppcjcgaa.utf
open Go.RowKit Go.Proofs
set_option linter.unusedVariables false

theorem feed_none (b : Value) (w : World) : Calls Try.prog 32 #[.pointer none, b] w fun e w' => e = .returned (.slice none 0 0) ∧ w' = w := by
  go_enter Try.func32, Try.ntmps32
  go_wp2
  go_ret
  exact ⟨rfl, rfl⟩
theorem held_none (w : World) : Calls Try.prog 33 #[.pointer none] w fun e w' => e = .returned (.int .i64 0) ∧ w' = w := by
  go_enter Try.func33, Try.ntmps33
  go_wp2
  go_ret
  exact ⟨rfl, rfl⟩
theorem end_none (w : World) : Calls Try.prog 34 #[.pointer none] w fun e w' => e = .returned (.slice none 0 0) ∧ w' = w := by
  go_enter Try.func34, Try.ntmps34
  go_wp2
  go_ret
  exact ⟨rfl, rfl⟩

set_option maxHeartbeats 1000000 in
theorem lawNil_any (b : Value) (w : World) : Calls Try.prog 10 #[b] w fun e w' => e = .returned (.bool true) ∧ Below w.heap.size w w' := by
  have H1 := run.hid (feed_none b)
  go_enter Try.func10, Try.ntmps10
  go_wp2_with fail
  refine (H1.out _).mono ?_
  rintro e w1 ⟨rfl, rfl⟩
  go_wp2_with fail
  refine (held_none _).mono ?_
  rintro e w2 ⟨rfl, rfl⟩
  go_wp2_with fail
  refine (end_none _).mono ?_
  rintro e w3 ⟨rfl, rfl⟩
  have HW := run.hid (wakes_any w3)
  go_wp2_with fail
  refine (HW.out).mono ?_
  rintro e w4 ⟨rfl, hb⟩
  go_wp2
  go_ret
  exact ⟨rfl, hb⟩

end Go.Proofs.Ytbgbgikppcjcgaa.utf
