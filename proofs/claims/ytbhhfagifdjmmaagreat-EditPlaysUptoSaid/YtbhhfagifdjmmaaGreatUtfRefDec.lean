/-
  The walk of the layer utf: the document's first character of a text.
-/
import Derived.Test.YtbhhfagifdjmmaaGreatUtfRef
namespace Go.Proofs.YtbhhfagifdjmmaaGreat.utf
open Go.RowKit Go.Proofs
set_option linter.unusedVariables false

theorem row_fits (i : Nat) (hi : i < 9) : RowFits (row i) := by
  match i, hi with
  | 0, _ | 1, _ | 2, _ | 3, _ | 4, _ | 5, _ | 6, _ | 7, _ | 8, _ => simp [RowFits, row, rows]

theorem empty_first {s : ByteArray} (h : s.size = 0) : first (bs s) = (0, 0, false) := by
  rw [List.length_eq_zero_iff.1 (show (bs s).length = 0 by rw [bs_length]; exact h)]; rfl

theorem tail_get {s : ByteArray} {b : Nat} {t : List Nat} (h : bs s = b :: t) {j : Nat} (hj : j < s.size) (h1 : 1 ≤ j) : (s[j]'hj).toNat = t.getD (j - 1) 0 := by
  rw [← bs_get s j hj, h]
  obtain ⟨m, rfl⟩ : ∃ m, j = m + 1 := ⟨j - 1, by omega⟩
  simp
theorem step_val {r : Nat} {t : List Nat} {j : Nat} (hj : j < t.length) (h : 0x80 ≤ t.getD j 0 ∧ t.getD j 0 ≤ 0xBF) : vals r (t.take (j + 1)) = vals r (t.take j) * 64 + t.getD j 0 - 0x80 := by
  rw [vals_take r t j hj]; omega

set_option maxHeartbeats 2000000 in
theorem refDecode_any (s : ByteArray) (w : World) (hs : s.size < 4611686018427387904) :
    Calls Tryz.prog 79 #[.string s] w fun e w' => e = .returned (.tuple #[.int .i32 (first (bs s)).1, .int .i64 (first (bs s)).2.1]) ∧ Below w.heap.size w w' := by
  by_cases h0 : s.size = 0
  · have hn := run.hid (empty_first h0)
    have hd : ((s.size : Int) == 0) = true := by simp [h0]
    go_enter Tryz.func79, Tryz.ntmps79
    go_wp2
    go_ret2
    exact ⟨by rw [hn.out]; rfl, Below.refl _ _⟩
  have hd : ((s.size : Int) == 0) = false := by simp [h0]
  have hpos : 0 < s.size := by omega
  obtain ⟨b, t, hbt, hst⟩ := bs_cons hpos
  have hb : b < 256 := bs_byte s b (by rw [hbt]; simp)
  have hg0 : (s[0]'hpos).toNat = b := by rw [← bs_get s 0 hpos, hbt]; rfl
  have HBT := run.hid hbt
  have hst1 : s.size ≤ t.length + 1 := by omega
  have hst2 : t.length + 1 ≤ s.size := by omega
  clear hst
  rw [hbt]
  clear hbt
  go_enter Tryz.func79, Tryz.ntmps79
  go_wp2_with fail
  refine (rows_any w).mono ?_
  rintro e w1 ⟨rfl, hrows, hlt, hb1⟩
  have HT := run.hid hrows
  clear hrows
  go_wp2_with fail
  obtain ⟨B, hB⟩ : ∃ B, B = w.heap.size := ⟨_, rfl⟩
  rw [← hB] at HT hlt ⊢
  have HW := run.hid hB
  clear hB
  go_loopw [5] (fun vi wr => ∃ i : Nat, i ≤ 9 ∧ vi = .int .i64 i ∧ Below w1.heap.size w1 wr ∧ Hid (∀ j, j < i → ¬ ((row j).1 ≤ b ∧ b ≤ (row j).2.1))) (fun i _ => (9 - intOf i).toNat)
  case atStart => exact ⟨0, by omega, rfl, Below.refl _ _, run.hid (none_start b)⟩
  case round =>
    obtain ⟨i, hi9, rfl, hbel, HN⟩ := hrel
    have hb2 := hb1.trans (hbel.mono hb1.size)
    by_cases hi : i < 9
    · have hrow := (HT.out.below hbel hlt) i hi
      have hfit := run.hid (row_fits i hi)
      have HP := run.hid (fun h0 h => @first_part i b t hi h0 h)
      have HF := run.hid (fun h0 h => @first_whole i b t hi h0 h)
      have HZ := run.hid (fun h => none_next HN.out (fits_zero (l := b :: t) (x := row i) (b := b) (t := t) h rfl))
      clear HN
      obtain ⟨c0, c1, c2, c3, c4, c5⟩ := hrow
      generalize row i = x at *
      obtain ⟨lo, hi', n, lo2, hi2, off⟩ := x
      have hf1 := hfit.out.2.2.2.1
      have hf2 := hfit.out.2.2.2.2.2.2
      simp only at c0 c1 c2 c3 c4 c5 hf1 hf2
      have FA := run.hid (fun w => fits_any s lo hi' n lo2 hi2 off w hs hfit.out)
      rw [HBT.out] at FA
      go_wp2_with fail
      refine (FA.out wr).mono ?_
      generalize hk : fits (b :: t) (lo, hi', n, lo2, hi2, off) = k at *
      have HK := run.hid hk
      clear hk
      rintro e w2 ⟨rfl, hb3⟩
      have hbel2 := hbel.trans (hb3.mono hbel.size)
      have hb4 := hb2.trans (hb3.mono hb2.size)
      have hBw : B < w1.heap.size := hlt
      have d2 := (hbel2.cell (p := ⟨B, i * 6 + 2, none⟩) hBw).trans ((hbel.cell (p := ⟨B, i * 6 + 2, none⟩) hBw).symm.trans c2)
      have d5 := (hbel2.cell (p := ⟨B, i * 6 + 5, none⟩) hBw).trans ((hbel.cell (p := ⟨B, i * 6 + 5, none⟩) hBw).symm.trans c5)
      clear c0 c1 c2 c3 c4 c5 hb3
      by_cases hk0 : k = 0
      · have hz := run.hid (HZ.out hk0)
        subst hk0
        go_wp2
        go_roundw
        case rel => exact ⟨i + 1, by omega, by go_num, hbel2, hz⟩
        case measure => simp [intOf]; omega
      · have hd1 : ((k : Int) == 0) = false := by simp; omega
        by_cases hkn : k < n
        · have hp := run.hid (HP.out hk0 hkn)
          clear HP HF HZ
          go_wp2
          go_ret2
          exact ⟨by rw [hp.out.1, hp.out.2]; rfl, hb4⟩
        · have hw := HF.out hk0 hkn
          try simp only at hw
          obtain ⟨v1, v2, v3, v4, v5, v6, v7⟩ := hw
          have HV1 := run.hid v1
          have HV2 := run.hid v2
          have HV7 := run.hid v7
          clear HP HF HZ v1 v2 v7
          go_wp2
          go_quiet (fail)
          go_wp2
          go_loopw [7, 8] (fun vn vj wr => ∃ j m : Nat, 1 ≤ j ∧ j ≤ k ∧ m < 67108864 ∧ vj = .int .i64 j ∧ vn = .int .i64 m ∧ Below w1.heap.size w1 wr ∧ Below w.heap.size w wr ∧ Hid (m = vals (b - off) (t.take (j - 1)))) (fun _ j _ => (4 - intOf j).toNat)
          case atStart => exact ⟨1, b - off, by omega, by omega, by omega, rfl, by go_num, below_drewN hbel2 _, below_drewN hb4 _, run.hid (by simp [vals])⟩
          case round =>
            clear hbel hbel2 hb2 hb4 d2 d5
            obtain ⟨j, m, hj1, hjk, hm, rfl, rfl, hbel, hb5, HM⟩ := hrel
            by_cases hjl : j < k
            · have hjs : j < s.size := by omega
              have hgj := tail_get HBT.out hjs hj1
              have hv := HV7.out (j - 1) (by omega)
              have hs1 := step_val (r := b - off) (t := t) (j := j - 1) (by omega) hv
              have hbd := vals_bound (b - off) t j (by omega) (by omega)
              rw [show j - 1 + 1 = j by omega] at hs1
              rw [hs1, ← HM.out] at hbd
              rw [← HM.out] at hs1
              have HS := run.hid hs1
              clear hs1
              generalize t.getD (j - 1) 0 = c at *
              obtain ⟨hc1, hc2⟩ := hv
              go_wp2
              go_roundw
              case rel => exact ⟨j + 1, m * 64 + c - 128, by omega, by omega, hbd, by go_num, by go_num, hbel, hb5, run.hid (HS.out.symm.trans (by rw [Nat.add_sub_cancel]))⟩
              case measure => simp [intOf]; omega
            · obtain rfl : j = k := by omega
              have hmv := run.hid (HV1.out.trans HM.out.symm)
              go_wp2
              go_ret2
              exact ⟨by rw [hmv.out, HV2.out]; rfl, hb5⟩
    · obtain rfl : i = 9 := by omega
      have hn := run.hid (first_none (t := t) HN.out)
      go_wp2
      go_ret2
      exact ⟨by rw [hn.out]; rfl, hb2⟩
end Go.Proofs.YtbhhfagifdjmmaaGreat.utf
