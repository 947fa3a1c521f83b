/-
  The walk of the clean text.
-/
import Derived.Test.YtgjlhjnkcgdopaaUtfUse
namespace Go.Proofs.Ytgjlhjnkcgdopaa.utf
open Go.RowKit Go.Proofs
set_option linter.unusedVariables false

set_option maxHeartbeats 400000 in
theorem clean_any (s : ByteArray) (w : World) (hs : s.size < 4611686018427387904) (hn : (runes (bs s)).length ≤ 35184372088832) : Calls Try.prog 14 #[.string s] w fun e w' => e = .returned (.string (str (clean (bs s)))) ∧ Below w.heap.size w w' := by
  have hl := runes_len s
  go_enter Try.func14, Try.ntmps14
  go_wp2_with fail
  refine (runes_use s w hs hn).mono ?_
  rintro e w1 ⟨v, rfl, _, hr, hb, _⟩
  have HT := run.hid (text_any v (runes (bs s)) w1 hr (by omega))
  clear hr
  go_wp2_with fail
  refine (HT.out).mono ?_
  rintro e w2 ⟨rfl, hb2⟩
  go_wp2
  go_ret
  exact ⟨rfl, hb.trans (hb2.mono hb.size)⟩

end Go.Proofs.Ytgjlhjnkcgdopaa.utf
