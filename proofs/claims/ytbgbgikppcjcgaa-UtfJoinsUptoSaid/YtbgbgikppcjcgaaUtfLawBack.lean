/-
  The laws UtfBack, UtfClean, UtfJoins: there and back; what is clean; behind what is clean.
-/
import Derived.Test.YtbgbgikppcjcgaaUtfHelp
namespace Go.Proofs.Ytbgbgikppcjcgaa.utf
open Go.RowKit Go.Proofs
set_option linter.unusedVariables false

theorem fix_a {r : Int} (h : r < 0) : fix r = 0xFFFD := by unfold fix; rw [char_1 h]; rfl
theorem fix_b {r : Int} (h : 0x10FFFF < r) : fix r = 0xFFFD := by unfold fix; rw [char_2 h]; rfl
theorem fix_c {r : Int} (h : 0xD800 ≤ r) (h1 : r ≤ 0xDFFF) : fix r = 0xFFFD := by unfold fix; rw [char_5 h h1]; rfl
theorem fix_d {r : Int} (h : 0 ≤ r) (h1 : r < 0xD800) : fix r = r := fix_of_char (char_3 h h1)
theorem fix_e {r : Int} (h : 0xDFFF < r) (h1 : r ≤ 0x10FFFF) : fix r = r := fix_of_char (char_4 h h1)
theorem map_get {xs : List Int} {k : Nat} (h : k < xs.length) : (xs.map fix).getD k 0 = fix (xs.getD k 0) := by simp [List.getD_eq_getElem?_getD, h]
theorem valid_text (xs : List Int) : valid (str (text xs)) = true := by
  unfold valid
  rw [bs_str (text_byte xs), clean_text]; simp
theorem clean_back (xs : List Int) : str (clean (bs (str (text xs)))) = str (text xs) := by rw [bs_str (text_byte xs), clean_text]

set_option maxRecDepth 100000 in
set_option maxHeartbeats 4000000 in
theorem lawBack_any (v : Value) (xs : List Int) (w : World) (hv : run.Reads w v (rv xs)) (hl : xs.length * 4 ≤ 140737488351232) : Calls Try.prog 7 #[v] w fun e w' => e = .returned (.bool true) ∧ Below w.heap.size w w' := by
  have HV := run.hid hv
  obtain ⟨a, cap, rfl, _, _⟩ := hv
  rw [rv_length] at HV ⊢
  have htl := (text_length xs).2
  have hsz : (str (text xs)).size < 4611686018427387904 := by rw [str_size]; omega
  have hru : runes (bs (str (text xs))) = xs.map fix := by rw [bs_str (text_byte xs), runes_text]
  have hrl : (runes (bs (str (text xs)))).length ≤ 35184372088832 := by rw [hru, List.length_map]; omega
  have HT := run.hid (text_any _ xs w HV.out (by omega))
  have HR := run.hid (fun w => runes_use (str (text xs)) w hsz hrl)
  have HVA := run.hid (fun w => valid_any (str (text xs)) w hsz hrl)
  have HC := run.hid (fun w => clean_any (str (text xs)) w hsz hrl)
  rw [valid_text] at HVA
  rw [clean_back] at HC
  rw [hru] at HR
  clear hru hrl hsz htl
  generalize str (text xs) = t at *
  go_enter Try.func7, Try.ntmps7
  go_wp2_with fail
  refine (HT.out).mono ?_
  rintro e w1 ⟨rfl, hb1⟩
  go_wp2_with fail
  refine (HR.out w1).mono ?_
  rintro e w2 ⟨kv, rfl, -, hk2, hb2, -⟩
  have hB2 := hb1.trans (hb2.mono hb1.size)
  have HK2 := run.hid hk2
  obtain ⟨ak, capk, rfl, _, _⟩ := hk2
  rw [rv_length, List.length_map] at HK2 ⊢
  go_wp2_with fail
  refine (HVA.out w2).mono ?_
  rintro e w3 ⟨rfl, hb3⟩
  have hB3 := hB2.trans (hb3.mono hB2.size)
  have HK3 := run.hid (HK2.out.below hb3)
  go_wp2_with fail
  refine (HC.out w3).mono ?_
  rintro e w4 ⟨rfl, hb4⟩
  have hB4 := hB3.trans (hb4.mono hB3.size)
  have HK4 := run.hid (HK3.out.below hb4)
  have HV4 := run.hid (HV.out.below hB4)
  clear HT HR HVA HC HK2 HK3 hb1 hb2 hb3 hb4 hB2 hB3
  go_wp2
  go_loopw [5] (fun vk wr => ∃ k : Nat, k ≤ xs.length ∧ vk = .int .i64 k ∧ Below w4.heap.size w4 wr) (fun k _ => (xs.length - intOf k).toNat)
  case atStart => exact ⟨0, by omega, rfl, Below.refl _ _⟩
  case round =>
    obtain ⟨k, hk, rfl, hbel⟩ := hrel
    have hB := hB4.trans (hbel.mono hB4.size)
    by_cases hkl : k < xs.length
    · obtain ⟨aa, cc, e1, h1, _⟩ := HV4.out
      obtain ⟨b, off, ha, hlt, hcell⟩ := reads_at h1 hkl
      simp only [Value.slice.injEq] at e1
      obtain ⟨rfl, -, -⟩ := e1
      subst ha
      obtain ⟨aa2, cc2, e2, h2, _⟩ := HK4.out
      obtain ⟨b2, off2, ha2, hlt2, hcell2⟩ := reads_at h2 (show k < (xs.map fix).length by rw [List.length_map]; exact hkl)
      simp only [Value.slice.injEq] at e2
      obtain ⟨rfl, -, -⟩ := e2
      subst ha2
      rw [map_get hkl] at hcell2
      have hc1 := (hbel.cell (p := ⟨b, off + k, none⟩) hlt).trans hcell
      have hc2 := (hbel.cell (p := ⟨b2, off2 + k, none⟩) hlt2).trans hcell2
      clear hcell hcell2 h1 h2
      generalize xs.getD k 0 = r at *
      by_cases q1 : r < 0
      · rw [fix_a q1] at hc2
        go_wp2
        go_roundw
        case rel => exact ⟨k + 1, by omega, by go_num, hbel⟩
        case measure => simp [intOf]; omega
      by_cases q2 : 0x10FFFF < r
      · rw [fix_b q2] at hc2
        go_wp2
        go_roundw
        case rel => exact ⟨k + 1, by omega, by go_num, hbel⟩
        case measure => simp [intOf]; omega
      by_cases q3 : r < 0xD800
      · rw [fix_d (by omega) q3] at hc2
        go_wp2
        go_roundw
        case rel => exact ⟨k + 1, by omega, by go_num, hbel⟩
        case measure => simp [intOf]; omega
      by_cases q4 : 0xDFFF < r
      · rw [fix_e q4 (by omega)] at hc2
        go_wp2
        go_roundw
        case rel => exact ⟨k + 1, by omega, by go_num, hbel⟩
        case measure => simp [intOf]; omega
      · rw [fix_c (by omega) (by omega)] at hc2
        go_wp2
        go_roundw
        case rel => exact ⟨k + 1, by omega, by go_num, hbel⟩
        case measure => simp [intOf]; omega
    · have hW := run.hid (wakes_any wr)
      go_wp2_with fail
      refine (hW.out).mono ?_
      rintro e w5 ⟨rfl, hb5⟩
      have hf := hB.trans (hb5.mono hB.size)
      go_wp2
      go_ret
      exact ⟨rfl, hf⟩

/-! UtfClean -/
theorem char_at {s : ByteArray} {at_ : Nat} (h : at_ < s.size) : isChar (first (bs (s.extract at_ s.size))).1 = true := by
  have hne : bs (s.extract at_ s.size) ≠ [] := by
    intro e
    have h0 : (bs (s.extract at_ s.size)).length = 0 := by rw [e]; rfl
    rw [bs_length, drop_bs _ _ (by omega)] at h0; omega
  exact first_char _ hne
theorem runes_pos {s : ByteArray} {k : Nat} {r : Int} {ys : List Int} (h : runes ((bs s).drop k) = r :: ys) : k < s.size := by
  rcases Nat.lt_or_ge k s.size with h1 | h1
  · exact h1
  · rw [List.drop_eq_nil_of_le (by rw [bs_length]; exact h1)] at h; simp [runes_nil] at h
theorem runes_done {s : ByteArray} {k : Nat} (h : runes ((bs s).drop k) = []) (hk : k ≤ s.size) : k = s.size := by
  rcases Nat.lt_or_ge k s.size with h1 | h1
  · rw [runes_at h1] at h; cases h
  · omega
theorem clean_len (s : ByteArray) (n : Nat) (hs : s.size ≤ n) : (str (clean (bs s))).size ≤ 4 * n := by
  rw [str_size]
  have h1 := (text_length (runes (bs s))).2
  have h2 := runes_len s
  unfold clean; omega
theorem bs_clean (s : ByteArray) : bs (str (clean (bs s))) = clean (bs s) := bs_str (text_byte _)
theorem valid_clean (s : ByteArray) : valid (str (clean (bs s))) = true := by
  unfold valid; rw [bs_clean, clean_clean]; simp
theorem drop_get {l : List Int} {k : Nat} {r : Int} {ys : List Int} (h : l.drop k = r :: ys) : k < l.length ∧ l.getD k 0 = r ∧ ys = l.drop (k + 1) := by
  have hk : k < l.length := by
    rcases Nat.lt_or_ge k l.length with h1 | h1
    · exact h1
    · rw [List.drop_eq_nil_of_le h1] at h; cases h
  rw [List.drop_eq_getElem_cons hk] at h
  simp only [List.cons.injEq] at h
  exact ⟨hk, by simp [List.getD_eq_getElem?_getD, hk, h.1], h.2.symm⟩

set_option maxRecDepth 100000 in
set_option maxHeartbeats 4000000 in
theorem lawClean_any (s : ByteArray) (w : World) (hs : s.size ≤ 1048576) : Calls Try.prog 8 #[.string s] w fun e w' => e = .returned (.bool true) ∧ Below w.heap.size w w' := by
  have hl := runes_len s
  have hcl := clean_len s _ hs
  have HR := run.hid (runes_use s w (by omega) (by omega))
  have HCL := run.hid (fun w => clean_any s w (by omega) (by omega))
  have HVA := run.hid (fun w => valid_any s w (by omega) (by omega))
  have HVD := run.hid (show valid s = ((str (clean (bs s))).toList == s.toList) from rfl)
  have hl2 : (runes (bs (str (clean (bs s))))).length ≤ 1048576 := by rw [bs_clean, runes_clean]; omega
  have HRC := run.hid (fun w => runes_use (str (clean (bs s))) w (by omega) (by omega))
  have HCC := run.hid (fun w => clean_any (str (clean (bs s))) w (by omega) (by omega))
  have HVC := run.hid (fun w => valid_any (str (clean (bs s))) w (by omega) (by omega))
  rw [bs_clean] at HRC HCC
  rw [runes_clean] at HRC
  rw [clean_clean] at HCC
  rw [valid_clean] at HVC
  clear hcl hl2
  generalize str (clean (bs s)) = c at *
  generalize hR : runes (bs s) = R at *
  have HRD := run.hid hR
  clear hR
  go_enter Try.func8, Try.ntmps8
  go_wp2_with fail
  refine (HR.out).mono ?_
  rintro e w1 ⟨lv, rfl, _, hk1, hb1, _⟩
  have HK1 := run.hid hk1
  obtain ⟨al, capl, rfl, hcl, _⟩ := hk1
  have HCE := run.hid (fun k => @reads_at w1 al R k hcl)
  clear hcl
  rw [rv_length] at HK1 ⊢
  go_wp2_with fail
  go_wp2
  go_loopw [4, 5] (fun va vk wr => ∃ k at_ : Nat, k ≤ R.length ∧ at_ ≤ s.size ∧ vk = .int .i64 k ∧ va = .int .i64 at_ ∧ Below w1.heap.size w1 wr ∧ Hid (runes ((bs s).drop at_) = R.drop k)) (fun _ k _ => (R.length - intOf k).toNat)
  case atStart => exact ⟨0, 0, by omega, by omega, rfl, rfl, Below.refl _ _, run.hid (by simpa using HRD.out)⟩
  case round =>
    obtain ⟨k, at_, hk, hat, rfl, rfl, hbel, HX⟩ := hrel
    have hB := hb1.trans (hbel.mono hb1.size)
    by_cases hkl : k < R.length
    · have hd : R.drop k = R[k] :: R.drop (k + 1) := List.drop_eq_getElem_cons hkl
      have hpos := runes_pos (HX.out.trans hd)
      have hra := runes_at hpos
      have hch := char_bounds (char_at hpos)
      have hco := count_at hpos
      have hx2 := HX.out
      rw [hra, hd] at hx2
      simp only [List.cons.injEq] at hx2
      have HX2 := run.hid hx2.2
      obtain ⟨b, off, rfl, hlt, hcell⟩ := HCE.out k hkl
      have hgk : R.getD k 0 = ((first (bs (s.extract at_ s.size))).1 : Int) := by rw [hx2.1]; simp [List.getD_eq_getElem?_getD, hkl]
      rw [hgk] at hcell
      have hc1 := (hbel.cell (p := ⟨b, off + k, none⟩) hlt).trans hcell
      have HD := run.hid (fun w => decode_any (s.extract at_ s.size) w (by rw [drop_bs _ _ hat]; omega))
      clear hra hd hx2 hgk hcell HX
      generalize first (bs (s.extract at_ s.size)) = q at *
      obtain ⟨r, n, o⟩ := q
      simp only at hch hco hc1
      obtain ⟨q1, q2, q3⟩ := hch
      obtain ⟨q4, q5, q6⟩ := hco
      dsimp only at HD
      generalize (r : Int) = ri at *
      go_wp2_with fail
      refine (HD.out wr).mono ?_
      rintro e w2 ⟨rfl, hb2⟩
      have hbel2 := hbel.trans (hb2.mono hbel.size)
      have hc2 := (hbel2.cell (p := ⟨b, off + k, none⟩) hlt).trans ((hbel.cell (p := ⟨b, off + k, none⟩) hlt).symm.trans hc1)
      clear HD hc1 hb2 hbel
      rcases q3 with q3 | q3
      all_goals
        go_wp2
        try go_quiet (fail)
        try go_wp2
        go_roundw
        case rel => exact ⟨k + 1, at_ + n, by omega, by omega, by go_num, by go_num, hbel2, HX2⟩
        case measure => simp [intOf]; omega
    · obtain rfl : k = R.length := by omega
      have hend := runes_done (by rw [HX.out]; simp) hat
      subst hend
      clear HX
      go_wp2_with fail
      refine (HCL.out wr).mono ?_
      rintro e w2 ⟨rfl, hb2⟩
      have hB2 := hB.trans (hb2.mono hB.size)
      have hbel2 := hbel.trans (hb2.mono hbel.size)
      go_wp2_with fail
      refine (HRC.out w2).mono ?_
      rintro e w3 ⟨lc, rfl, _, hk3, hb3, _⟩
      have hB3 := hB2.trans (hb3.mono hB2.size)
      have hbel3 := hbel2.trans (hb3.mono hbel2.size)
      have HSM := run.hid (same_eq _ _ R w3 hk3 (HK1.out.below hbel3) (by omega))
      clear hk3
      go_wp2_with fail
      refine (HSM.out).mono ?_
      rintro e w4 ⟨rfl, hb4⟩
      have hB4 := hB3.trans (hb4.mono hB3.size)
      go_wp2_with fail
      refine (HCC.out w4).mono ?_
      rintro e w5 ⟨rfl, hb5⟩
      have hB5 := hB4.trans (hb5.mono hB4.size)
      go_wp2_with fail
      refine (HVC.out w5).mono ?_
      rintro e w6 ⟨rfl, hb6⟩
      have hB6 := hB5.trans (hb6.mono hB5.size)
      go_wp2_with fail
      refine (HVA.out w6).mono ?_
      rw [HVD.out]
      rintro e w7 ⟨rfl, hb7⟩
      have hB7 := hB6.trans (hb7.mono hB6.size)
      have hW := run.hid (wakes_any w7)
      clear hB hbel hb2 hB2 hbel2 hb3 hB3 hbel3 hb4 hB4 hb5 hB5 hb6 hB6 hb7 HSM HCL HRC HCC HVC HVA HK1 HCE HR
      cases hcmp : (c.toList == s.toList) with
      | true | false =>
        go_wp2_with fail
        refine (hW.out).mono ?_
        rintro e w8 ⟨rfl, hb8⟩
        have hf := hB7.trans (hb8.mono hB7.size)
        go_wp2
        go_ret
        exact ⟨rfl, hf⟩

end Go.Proofs.Ytbgbgikppcjcgaa.utf
