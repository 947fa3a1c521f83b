/-
  The law ClusterSeams: where nothing joins widths add up.
-/
import Derived.Test.YtinedhocmlcfpaaCluAlive
import Derived.Test.YtinedhocmlcfpaaCluCut
namespace Go.Proofs.Ytinedhocmlcfpaa.clu
open Go.RowKit Go.Proofs
open Go.Proofs.Ytinedhocmlcfpaa.wid Go.Proofs.Ytinedhocmlcfpaa.utf
set_option linter.unusedVariables false

theorem told_width (s : ByteArray) : width s = ((told s).map (·.2)).sum := by
  unfold width wsum told seen
  rw [List.map_map]
  rfl
theorem width_le (s : ByteArray) : width s ≤ 2 * s.size := by
  unfold width
  have h1 := wsum_le (cl (runes (bs s)))
  have h2 := cl_length _ (runes (bs s)) (Nat.le_refl _)
  have h3 := runes_len s
  omega
theorem told_empty : told ⟨#[]⟩ = [] := by decide +kernel
theorem add_empty (a : ByteArray) : a ++ ⟨#[]⟩ = a := by apply ByteArray.ext; simp [ByteArray.data_append]
theorem empty_add (a : ByteArray) : ⟨#[]⟩ ++ a = a := by apply ByteArray.ext; simp [ByteArray.data_append]
theorem joins_right (a : ByteArray) : joins a ⟨#[]⟩ = false := by unfold joins; rw [add_empty, told_empty]; simp
theorem joins_left (b : ByteArray) : joins ⟨#[]⟩ b = false := by unfold joins; rw [empty_add, told_empty]; simp
theorem bs_add' (a b : ByteArray) : bs (a ++ b) = bs a ++ bs b := by simp [bs, ByteArray.data_append]
theorem joins_x (s : ByteArray) : joins (str (clean (bs s))) ⟨#[120]⟩ = false := by
  have h1 : runes (bs (str (clean (bs s)) ++ ⟨#[120]⟩)) = runes (bs s) ++ [120] := by
    rw [bs_add', show bs ⟨#[120]⟩ = text [120] from by decide]
    unfold clean
    rw [bs_str (text_byte _), ← text_append, runes_text]
    have hc : ∀ r ∈ runes (bs s) ++ [120], isChar r = true := by
      intro r hr
      rcases List.mem_append.1 hr with h | h
      · exact runes_char _ _ (Nat.le_refl _) _ h
      · rw [List.mem_singleton] at h; subst h; decide
    exact map_fix_of_char hc
  have h2 : runes (bs (str (clean (bs s)))) = runes (bs s) := by
    unfold clean
    rw [bs_str (text_byte _)]
    exact runes_clean _
  have h3 : told ⟨#[120]⟩ = [(⟨#[120]⟩, 1)] := by decide +kernel
  unfold joins
  have h4 : told (str (clean (bs s)) ++ ⟨#[120]⟩) = told (str (clean (bs s))) ++ told ⟨#[120]⟩ := by
    rw [h3]
    unfold told
    rw [h1, h2, cl_snoc 120 letter_kind.1 _ _ (Nat.le_refl _)]
    unfold seen
    rw [List.map_append]
    have h5 : seen [[120]] = [(⟨#[120]⟩, 1)] := by decide +kernel
    unfold seen at h5
    rw [h5]
  rw [h4]
  simp
theorem seam {a b : ByteArray} (h : joins a b = false) : width (a ++ b) = width a + width b := by
  unfold joins at h
  simp at h
  rw [told_width, told_width, told_width, h]
  simp

set_option maxRecDepth 100000 in
set_option maxHeartbeats 4000000 in
theorem lawSeams_any (a b : ByteArray) (w : World) (ha : a.size ≤ 1048576) (hb : b.size ≤ 1048576) : Calls Try.prog 9 #[.string a, .string b] w fun e w' => e = .returned (.bool true) ∧ Below w.heap.size w w' := by
  have e0 : (⟨#[]⟩ : ByteArray).size = 0 := rfl
  have e1 : (⟨#[120]⟩ : ByteArray).size = 1 := rfl
  have hl := runes_len a
  have hsz : (str (clean (bs a))).size ≤ 4 * a.size := by
    rw [str_size]
    have := (text_length (runes (bs a))).2
    unfold clean
    omega
  have H1 := run.hid (fun w => joins_any a ⟨#[]⟩ w (by omega) (by omega))
  have H2 := run.hid (fun w => joins_any ⟨#[]⟩ b w (by omega) (by omega))
  have H3 := run.hid (fun w => clean_any a w (by omega) (by omega))
  have H4 := run.hid (fun w => joins_any (str (clean (bs a))) ⟨#[120]⟩ w (by omega) (by omega))
  have H5 := run.hid (fun w => joins_any a b w (by omega) (by omega))
  have H6 := run.hid (fun w => width_any (a ++ b) w (by rw [ByteArray.size_append]; omega))
  have H7 := run.hid (fun w => width_any a w (by omega))
  have H8 := run.hid (fun w => width_any b w (by omega))
  rw [joins_right] at H1
  rw [joins_left] at H2
  rw [joins_x] at H4
  have hs := run.hid (@seam a b)
  have hwa := width_le a
  have hwb := width_le b
  generalize str (clean (bs a)) = c at *
  clear hl hsz e0 e1
  go_enter Try.func9, Try.ntmps9
  go_wp2_with fail
  refine (H1.out _).mono ?_
  rintro e w1 ⟨rfl, hb1⟩
  go_wp2_with fail
  refine (H2.out _).mono ?_
  rintro e w2 ⟨rfl, hb2⟩
  have hB := hb1.trans (hb2.mono hb1.size)
  go_wp2_with fail
  refine (H3.out _).mono ?_
  rintro e w3 ⟨rfl, hb3⟩
  replace hB := hB.trans (hb3.mono hB.size)
  go_wp2_with fail
  refine (H4.out _).mono ?_
  rintro e w4 ⟨rfl, hb4⟩
  replace hB := hB.trans (hb4.mono hB.size)
  go_wp2_with fail
  refine (alive_any _).mono ?_
  rintro e w5 ⟨rfl, hb5⟩
  replace hB := hB.trans (hb5.mono hB.size)
  clear H1 H2 H3 H4 hb1 hb2 hb3 hb4 hb5
  go_wp2_with fail
  refine (H5.out _).mono ?_
  rintro e w6 ⟨rfl, hb6⟩
  replace hB := hB.trans (hb6.mono hB.size)
  cases hj : joins a b with
  | true =>
    clear hj
    go_wp2
    go_ret
    exact ⟨rfl, hB⟩
  | false =>
    have hsum := hs.out hj
    rw [hsum] at H6
    clear hj hs hsum
    generalize width a = x at *
    generalize width b = y at *
    go_wp2_with fail
    refine (H6.out _).mono ?_
    rintro e w7 ⟨rfl, hb7⟩
    replace hB := hB.trans (hb7.mono hB.size)
    go_wp2_with fail
    refine (H7.out _).mono ?_
    rintro e w8 ⟨rfl, hb8⟩
    replace hB := hB.trans (hb8.mono hB.size)
    go_wp2_with fail
    refine (H8.out _).mono ?_
    rintro e w9 ⟨rfl, hb9⟩
    replace hB := hB.trans (hb9.mono hB.size)
    go_wp2
    go_ret
    exact ⟨by simp, hB⟩

end Go.Proofs.Ytinedhocmlcfpaa.clu
