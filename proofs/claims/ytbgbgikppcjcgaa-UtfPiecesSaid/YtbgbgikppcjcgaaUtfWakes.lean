/-
  The walks of the layer utf: the clean text; what every law of the layer asks first.
-/
import Derived.Test.YtbgbgikppcjcgaaUtfText
namespace Go.Proofs.Ytbgbgikppcjcgaa.utf
open Go.RowKit Go.Proofs
set_option linter.unusedVariables false

/-- what Runes gives, for use: a value that reads as the characters, in memory of its own -/
theorem runes_use (s : ByteArray) (w : World) (hs : s.size < 4611686018427387904) (hn : (runes (bs s)).length ≤ 35184372088832) : Calls Try.prog 24 #[.string s] w fun e w' =>
    ∃ v, e = .returned v ∧ w'.ownsRow w.heap.size 21 1 v (runes (bs s)).length (rv (runes (bs s))) ∧ run.Reads w' v (rv (runes (bs s))) ∧ Below w.heap.size w w' ∧ (v = .slice none 0 0 ↔ runes (bs s) = []) :=
  (runes_any s w hs hn).mono fun _ _ ⟨v, he, ho, hb, hn⟩ => ⟨v, he, ho, run.reads_own ho, hb, hn⟩

theorem runes_len (s : ByteArray) : (runes (bs s)).length ≤ s.size := by
  have := runes_length _ (bs s) (Nat.le_refl _)
  rw [bs_length] at this; exact this

set_option maxHeartbeats 400000 in
theorem clean_any (s : ByteArray) (w : World) (hs : s.size < 4611686018427387904) (hn : (runes (bs s)).length ≤ 35184372088832) : Calls Try.prog 26 #[.string s] w fun e w' => e = .returned (.string (str (clean (bs s)))) ∧ Below w.heap.size w w' := by
  have hl := runes_len s
  go_enter Try.func26, Try.ntmps26
  go_wp2_with fail
  refine (runes_use s w hs hn).mono ?_
  rintro e w1 ⟨v, rfl, _, hr, hb, _⟩
  have HT := run.hid (text_any v (runes (bs s)) w1 hr (by omega))
  clear hr
  go_wp2_with fail
  refine (HT.out).mono ?_
  rintro e w2 ⟨rfl, hb2⟩
  go_wp2
  go_ret
  exact ⟨rfl, hb.trans (hb2.mono hb.size)⟩

theorem toList_eq_iff (a b : ByteArray) : (a.toList == b.toList) = decide (a = b) := by
  rw [Bool.eq_iff_iff]
  simp only [beq_iff_eq, decide_eq_true_eq, ByteArray.toList_eq]
  constructor
  · intro h
    obtain ⟨⟨a⟩⟩ := a
    obtain ⟨⟨b⟩⟩ := b
    simp only at h
    rw [h]
  · intro h; rw [h]

def valid (s : ByteArray) : Bool := (str (clean (bs s))).toList == s.toList

set_option maxHeartbeats 400000 in
theorem valid_any (s : ByteArray) (w : World) (hs : s.size < 4611686018427387904) (hn : (runes (bs s)).length ≤ 35184372088832) : Calls Try.prog 27 #[.string s] w fun e w' => e = .returned (.bool (valid s)) ∧ Below w.heap.size w w' := by
  have HV := run.hid (show valid s = ((str (clean (bs s))).toList == s.toList) from rfl)
  go_enter Try.func27, Try.ntmps27
  go_wp2_with fail
  refine (clean_any s w hs hn).mono ?_
  generalize str (clean (bs s)) = c at *
  rintro e w1 ⟨rfl, hb⟩
  go_wp2
  go_ret
  exact ⟨by rw [HV.out]; rfl, hb⟩

theorem reads_get {w : World} {v : Value} {xs : List Value} (h : run.Reads w v xs) (h0 : xs ≠ []) : ∃ b off cap, v = .slice (some ⟨b, off, none⟩) xs.length cap ∧ b < w.heap.size ∧ ∀ i u, xs[i]? = some u → w.cell? ⟨b, off + i, none⟩ = some u := by
  obtain ⟨a, cap, rfl, h, _⟩ := h
  obtain ⟨b, off, rfl, hb, hc⟩ := h h0
  exact ⟨b, off, cap, rfl, hb, hc⟩

theorem k1 : first (bs ⟨#[226, 130, 172]⟩) = (8364, 3, false) := by decide
theorem k2 : first (bs ⟨#[226, 130, 65]⟩) = (65533, 2, false) := by decide
theorem k3 : runes (bs ⟨#[97, 226, 130, 195, 169, 255]⟩) = [97, 65533, 233, 65533] := by decide
theorem k4 : str (text [97, -1]) = ⟨#[97, 239, 191, 189]⟩ := by decide

theorem two_new (w : World) (x y : Int) (t : TypeId) : run.Reads (w.alloc (.cells #[.int .i32 x, .int .i32 y] t)) (.slice (some ⟨w.heap.size, 0, none⟩) 2 2) (rv [x, y]) := by
  refine ⟨_, 2, rfl, fun _ => ⟨w.heap.size, 0, rfl, by simp, ?_⟩, fun h => by cases h⟩
  intro i u hi
  have hh := run.heap_new w (.cells #[.int .i32 x, .int .i32 y] t)
  simp only [World.cell?, Nat.zero_add]
  rw [hh]
  simpa [rv] using hi

set_option maxHeartbeats 1000000 in
theorem wakes_any (w : World) : Calls Try.prog 19 #[] w fun e w' => e = .returned (.bool true) ∧ Below w.heap.size w w' := by
  have H1 := run.hid (fun w => decode_any ⟨#[226, 130, 172]⟩ w (by simp [ByteArray.size]))
  have H2 := run.hid (fun w => decode_any ⟨#[226, 130, 65]⟩ w (by simp [ByteArray.size]))
  have H3 := run.hid (fun w => runes_use ⟨#[97, 226, 130, 195, 169, 255]⟩ w (by simp [ByteArray.size]) (by rw [k3]; simp))
  have H4 := run.hid (fun v w hr => text_any v [97, -1] w hr (by simp))
  rw [k1] at H1
  rw [k2] at H2
  rw [k3] at H3
  rw [k4] at H4
  go_enter Try.func19, Try.ntmps19
  go_wp2_with fail
  refine (H1.out _).mono ?_
  rintro e w1 ⟨rfl, hb1⟩
  go_wp2_with fail
  refine (H2.out _).mono ?_
  rintro e w2 ⟨rfl, hb2⟩
  have hb := hb1.trans (hb2.mono hb1.size)
  go_wp2_with fail
  refine (H3.out _).mono ?_
  rintro e w3 ⟨v, rfl, _, hr, hb3, _⟩
  have hc := hb.trans (hb3.mono hb.size)
  obtain ⟨b, off, cap, rfl, hlt, hcell⟩ := reads_get hr (by simp [rv])
  have c2 := hcell 2 (.int .i32 233) rfl
  clear hcell hr hb1 hb2 hb hb3 H1 H2 H3
  have hn := run.hid (two_new w3 97 (-1) 21)
  have hbn := run.below_one w3 (.cells #[.int .i32 97, .int .i32 (-1)] 21)
  go_wp2_with fail
  refine (H4.out _ _ hn.out).mono ?_
  rintro e w4 ⟨rfl, hb4⟩
  have hd := (hc.trans (hbn.mono hc.size)).trans (hb4.mono (Nat.le_trans hc.size hbn.size))
  go_wp2
  go_ret
  exact ⟨rfl, hd⟩

end Go.Proofs.Ytbgbgikppcjcgaa.utf
