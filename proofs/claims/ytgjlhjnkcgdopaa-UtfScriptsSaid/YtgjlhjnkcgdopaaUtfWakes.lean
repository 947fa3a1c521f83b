/-
  The walks of the layer utf: what every law of the layer asks first.
-/
import Derived.Test.YtgjlhjnkcgdopaaUtfClean
namespace Go.Proofs.Ytgjlhjnkcgdopaa.utf
open Go.RowKit Go.Proofs
set_option linter.unusedVariables false

def valid (s : ByteArray) : Bool := (str (clean (bs s))).toList == s.toList

set_option maxHeartbeats 400000 in
theorem valid_any (s : ByteArray) (w : World) (hs : s.size < 4611686018427387904) (hn : (runes (bs s)).length ≤ 35184372088832) : Calls Try.prog 15 #[.string s] w fun e w' => e = .returned (.bool (valid s)) ∧ Below w.heap.size w w' := by
  have HV := run.hid (show valid s = ((str (clean (bs s))).toList == s.toList) from rfl)
  go_enter Try.func15, Try.ntmps15
  go_wp2_with fail
  refine (clean_any s w hs hn).mono ?_
  generalize str (clean (bs s)) = c at *
  rintro e w1 ⟨rfl, hb⟩
  go_wp2
  go_ret
  exact ⟨by rw [HV.out]; rfl, hb⟩

theorem k1 : first (bs ⟨#[226, 130, 172]⟩) = (8364, 3, false) := by decide
theorem k2 : first (bs ⟨#[226, 130, 65]⟩) = (65533, 2, false) := by decide
theorem k3 : runes (bs ⟨#[97, 226, 130, 195, 169, 255]⟩) = [97, 65533, 233, 65533] := by decide
theorem k4 : str (text [97, -1]) = ⟨#[97, 239, 191, 189]⟩ := by decide

set_option maxHeartbeats 1000000 in
theorem wakes_any (w : World) : Calls Try.prog 10 #[] w fun e w' => e = .returned (.bool true) ∧ Below w.heap.size w w' := by
  have H1 := run.hid (fun w => decode_any ⟨#[226, 130, 172]⟩ w (by simp [ByteArray.size]))
  have H2 := run.hid (fun w => decode_any ⟨#[226, 130, 65]⟩ w (by simp [ByteArray.size]))
  have H3 := run.hid (fun w => runes_use ⟨#[97, 226, 130, 195, 169, 255]⟩ w (by simp [ByteArray.size]) (by rw [k3]; simp))
  have H4 := run.hid (fun v w hr => text_any v [97, -1] w hr (by simp))
  rw [k1] at H1
  rw [k2] at H2
  rw [k3] at H3
  rw [k4] at H4
  go_enter Try.func10, Try.ntmps10
  go_wp2_with fail
  refine (H1.out _).mono ?_
  rintro e w1 ⟨rfl, hb1⟩
  go_wp2_with fail
  refine (H2.out _).mono ?_
  rintro e w2 ⟨rfl, hb2⟩
  have hb := hb1.trans (hb2.mono hb1.size)
  go_wp2_with fail
  refine (H3.out _).mono ?_
  rintro e w3 ⟨v, rfl, _, hr, hb3, _⟩
  have hc := hb.trans (hb3.mono hb.size)
  obtain ⟨b, off, cap, rfl, hlt, hcell⟩ := reads_get hr (by simp [rv])
  have c2 := hcell 2 (.int .i32 233) rfl
  clear hcell hr hb1 hb2 hb hb3 H1 H2 H3
  have hn := run.hid (two_new w3 97 (-1) 21)
  have hbn := run.below_one w3 (.cells #[.int .i32 97, .int .i32 (-1)] 21)
  go_wp2_with fail
  refine (H4.out _ _ hn.out).mono ?_
  rintro e w4 ⟨rfl, hb4⟩
  have hd := (hc.trans (hbn.mono hc.size)).trans (hb4.mono (Nat.le_trans hc.size hbn.size))
  go_wp2
  go_ret
  exact ⟨rfl, hd⟩

end Go.Proofs.Ytgjlhjnkcgdopaa.utf
