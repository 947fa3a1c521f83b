/-
  The law ClusterCuts: a cut is as far as can be.
-/
import Derived.Test.YtinedhocmlcfpaaCluLawSeams
import Derived.Test.YtinedhocmlcfpaaInts
namespace Go.Proofs.Ytinedhocmlcfpaa.clu
open Go.RowKit Go.Proofs
open Go.Proofs.Ytinedhocmlcfpaa.wid Go.Proofs.Ytinedhocmlcfpaa.utf
set_option linter.unusedVariables false

theorem str_add (a b : List Nat) : str a ++ str b = str (a ++ b) := by unfold str; apply ByteArray.ext; simp [ByteArray.data_append]
theorem cut_sum (s : ByteArray) (n : Int) : cutA s n ++ cutB s n = str (clean (bs s)) := by
  unfold cutA cutB clean
  rw [str_add, ← text_append, flat_parts]
theorem piece_char {s : ByteArray} {l : List (List Int)} (h : ∀ p ∈ l, p ∈ cl (runes (bs s))) : ∀ r ∈ l.flatten, isChar r = true := by
  intro r hr
  obtain ⟨p, hp, hr⟩ := List.mem_flatten.1 hr
  exact runes_char _ _ (Nat.le_refl _) _ ((cl_piece _ _ (Nat.le_refl _) p (h p hp)).2.2 r hr)
theorem told_parts {s : ByteArray} {l : List (List Int)} (h : ∀ p ∈ l, p ∈ cl (runes (bs s))) (hc : cl l.flatten = l) : told (str (text l.flatten)) = seen l := by
  unfold told
  rw [bs_str (text_byte _), runes_text, map_fix_of_char (piece_char h), hc]
theorem told_cutA (s : ByteArray) (n : Int) : told (cutA s n) = (told s).take (cutK s n) := by
  unfold cutA
  rw [told_parts (fun p hp => List.mem_of_mem_take hp) (cl_take _ _)]
  unfold told seen
  rw [List.map_take]
theorem told_cutB (s : ByteArray) (n : Int) : told (cutB s n) = (told s).drop (cutK s n) := by
  unfold cutB
  rw [told_parts (fun p hp => List.mem_of_mem_drop hp) (cl_drop _ _)]
  unfold told seen
  rw [List.map_drop]
def sum2 (l : List (ByteArray × Nat)) : Nat := (l.map (·.2)).sum
theorem seen_sum (l : List (List Int)) : sum2 (seen l) = wsum l := by unfold sum2 seen wsum; rw [List.map_map]; rfl
theorem fit_sum : ∀ (l : List (List Int)) (left : Nat), wsum (l.take (fitN l left)) ≤ left ∧ (fitN l left < l.length → left < wsum (l.take (fitN l left)) + wide (l.getD (fitN l left) []))
  | [], left => ⟨by simp [wsum], fun h => by simp [fitN] at h⟩
  | p :: t, left => by
    rw [fit_cons]
    by_cases h : wide p ≤ left
    · rw [if_pos h]
      obtain ⟨h1, h2⟩ := fit_sum t (left - wide p)
      have e : ∀ q : List (List Int), wsum (p :: q) = wide p + wsum q := fun q => by simp [wsum]
      rw [List.take_succ_cons, e]
      refine ⟨by omega, fun hl => ?_⟩
      rw [List.length_cons] at hl
      have := h2 (by omega)
      rw [List.getD_cons_succ]
      omega
    · rw [if_neg h]
      refine ⟨by simp [wsum], fun _ => ?_⟩
      simp [wsum]
      omega
/-- what the law asks of both pieces -/
theorem cut_facts (s : ByteArray) (n : Int) : ((width (cutA s n) : Nat) : Int) ≤ max 0 n ∧ (0 < (told (cutB s n)).length → max 0 n - ((width (cutA s n) : Nat) : Int) < (((told (cutB s n)).getD 0 (ByteArray.empty, 0)).2 : Nat)) := by
  have hw : width (cutA s n) = wsum ((cl (runes (bs s))).take (cutK s n)) := by
    rw [told_width, told_cutA]
    have := seen_sum ((cl (runes (bs s))).take (cutK s n))
    unfold sum2 at this
    rw [← this]
    unfold told seen
    simp only [List.map_take]
  obtain ⟨h1, h2⟩ := fit_sum (cl (runes (bs s))) (max 0 n).toNat
  have hk : cutK s n = fitN (cl (runes (bs s))) (max 0 n).toNat := rfl
  rw [← hk] at h1 h2
  rw [hw, told_cutB]
  refine ⟨by omega, fun hl => ?_⟩
  rw [List.length_drop] at hl
  have hlt : cutK s n < (cl (runes (bs s))).length := by
    have : (told s).length = (cl (runes (bs s))).length := by unfold told; rw [seen_length]
    omega
  have h3 := h2 hlt
  have e : (((told s).drop (cutK s n)).getD 0 (ByteArray.empty, 0)).2 = wide ((cl (runes (bs s))).getD (cutK s n) []) := by
    unfold told seen
    simp [List.getD_eq_getElem?_getD, List.getElem?_drop, hlt]
  rw [e]
  omega

set_option maxRecDepth 100000 in
set_option maxHeartbeats 4000000 in
theorem lawCuts_any (s : ByteArray) (n : Int) (w : World) (hs : s.size ≤ 1048576) (hn : (Lit.int .i64 n).wf = true) : Calls Try.prog 11 #[.string s, .int .i64 n] w fun e w' => e = .returned (.bool true) ∧ Below w.heap.size w w' := by
  have hl := runes_len s
  have hsz : (str (clean (bs s))).size ≤ 4 * s.size := by
    rw [str_size]
    have := (text_length (runes (bs s))).2
    unfold clean
    omega
  have hAB := cut_sum s n
  have hsA : (cutA s n).size + (cutB s n).size = (str (clean (bs s))).size := by rw [← hAB, ByteArray.size_append]
  have hnb := ints.wf64 hn
  obtain ⟨f1, f2⟩ := cut_facts s n
  have hwA := width_le (cutA s n)
  have H1 := run.hid (fun w => cut_any s n w (by omega) (by omega))
  have H2 := run.hid (fun w => width_any (cutA s n) w (by omega))
  have H3 := run.hid (fun w => clean_any s w (by omega) (by omega))
  have H4 := run.hid (fun w => split_use (cutB s n) w (by omega))
  obtain ⟨m, hm, hmn⟩ : ∃ m : Int, m = max 0 n ∧ (if 0 < n then n else 0) = m := ⟨_, rfl, by split <;> omega⟩
  rw [← hm] at f1 f2
  have hmb : m ≤ 9223372036854775807 := by omega
  clear hm hn hnb
  generalize str (clean (bs s)) = c at *
  generalize cutA s n = A at *
  generalize cutB s n = B at *
  generalize width A = x at *
  subst hAB
  have hlB := told_length B
  have hcat : ¬ 9223372036854775807 < A.size + B.size := by omega
  have HF2 := run.hid f2
  clear hl hsz hsA f2
  go_enter Try.func11, Try.ntmps11
  go_wp2_with fail
  refine (H1.out _).mono ?_
  rintro e w1 ⟨rfl, hb1⟩
  go_wp2_with fail
  refine (H2.out _).mono ?_
  rintro e w2 ⟨rfl, hb2⟩
  have hB := hb1.trans (hb2.mono hb1.size)
  go_wp2_with fail
  refine (H3.out _).mono ?_
  rintro e w3 ⟨rfl, hb3⟩
  replace hB := hB.trans (hb3.mono hB.size)
  go_wp2_with fail
  refine (alive_any _).mono ?_
  rintro e w5 ⟨rfl, hb5⟩
  replace hB := hB.trans (hb5.mono hB.size)
  clear H1 H2 H3 hb1 hb2 hb3 hb5
  go_wp2_with fail
  refine (H4.out _).mono ?_
  rintro e w6 ⟨v6, rfl, -, hr6, hb6⟩
  replace hB := hB.trans (hb6.mono hB.size)
  obtain ⟨a6, c6, rfl, hrow⟩ := hr6
  by_cases h0 : 0 < (told B).length
  · obtain ⟨b, off, rfl, hlt, -, hx1⟩ := hrow 0 h0
    have hlast := HF2.out h0
    generalize ((told B).getD 0 (ByteArray.empty, 0)).2 = y at *
    generalize (told B).length = N at *
    clear hrow HF2 H4
    have hdd : decide (m - (x : Int) < y) = true := decide_eq_true hlast
    simp only [Nat.zero_mul, Nat.add_zero] at hx1
    go_wp2
    go_ret
    exact ⟨rfl, hB⟩
  · have h0' : (told B).length = 0 := by omega
    rw [h0']
    clear hrow HF2 H4
    go_wp2
    go_ret
    exact ⟨rfl, hB⟩

end Go.Proofs.Ytinedhocmlcfpaa.clu
