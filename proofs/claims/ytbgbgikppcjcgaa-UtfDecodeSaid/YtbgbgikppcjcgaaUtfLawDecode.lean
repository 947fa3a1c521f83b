/-
  The law UtfDecode: of a text and of each of its endings the first character.
-/
import Derived.Test.YtbgbgikppcjcgaaUtfWakes
import Derived.Test.YtbgbgikppcjcgaaUtfRefDec
namespace Go.Proofs.Ytbgbgikppcjcgaa.utf
open Go.RowKit Go.Proofs
set_option linter.unusedVariables false

set_option maxHeartbeats 1000000 in
theorem lawDecode_any (s : ByteArray) (w : World) (hs : s.size < 4611686018427387904) : Calls Try.prog 4 #[.string s] w fun e w' => e = .returned (.bool true) ∧ Below w.heap.size w w' := by
  go_enter Try.func4, Try.ntmps4
  go_wp2
  go_loopw [3] (fun vi wr => ∃ i : Nat, i ≤ s.size + 1 ∧ vi = .int .i64 i ∧ Below w.heap.size w wr) (fun i _ => (s.size + 1 - intOf i).toNat)
  case atStart => exact ⟨0, by omega, rfl, Below.refl _ _⟩
  case round =>
    obtain ⟨i, hi, rfl, hbel⟩ := hrel
    by_cases hle : i ≤ s.size
    · have hsz : (s.extract i s.size).size < 4611686018427387904 := by rw [← bs_length, bs_drop, List.length_drop, bs_length]; omega
      have H1 := run.hid (fun w => decode_any (s.extract i s.size) w hsz)
      have H2 := run.hid (fun w => refDecode_any (s.extract i s.size) w hsz)
      clear hsz
      generalize first (bs (s.extract i s.size)) = q at *
      obtain ⟨r, n, o⟩ := q
      go_wp2_with fail
      refine (H1.out _).mono ?_
      rintro e w1 ⟨rfl, hb1⟩
      go_wp2_with fail
      refine (H2.out _).mono ?_
      rintro e w2 ⟨rfl, hb2⟩
      have hc := hbel.trans (hb1.mono hbel.size)
      have hd := hc.trans (hb2.mono hc.size)
      clear H1 H2 hbel hb1 hb2 hc
      go_wp2
      go_roundw
      case rel => exact ⟨i + 1, by omega, by go_num, hd⟩
      case measure => simp [intOf]; omega
    · have HW := run.hid (wakes_any wr)
      go_wp2_with fail
      refine (HW.out).mono ?_
      rintro e w1 ⟨rfl, hb1⟩
      have hc := hbel.trans (hb1.mono hbel.size)
      go_wp2
      go_ret
      exact ⟨rfl, hc⟩

end Go.Proofs.Ytbgbgikppcjcgaa.utf
