/-
  The law UtfJoins: behind what is clean any bytes are read as they would be alone.
-/
import Derived.Test.YtbgbgikppcjcgaaUtfLawBack
namespace Go.Proofs.Ytbgbgikppcjcgaa.utf
open Go.RowKit Go.Proofs
set_option linter.unusedVariables false

theorem bs_append (a b : ByteArray) : bs (a ++ b) = bs a ++ bs b := by simp [bs, ByteArray.data_append]

theorem rv_app (a b : List Int) : rv (a ++ b) = rv a ++ rv b := by simp [rv]

theorem reads_part {w : World} {B n cap g off len c : Nat} {xs ys : List Value} (h : w.ownsRow B 21 1 (.slice (some ⟨g, 0, none⟩) n cap) n xs) (hy : ys.length = len) (hp : ∀ i, i < len → ys[i]? = xs[off + i]?) (hl : off + len ≤ n) :
    run.Reads w (.slice (some ⟨g, off, none⟩) len c) ys := by
  have hx : xs.length = n := by have := h.1; omega
  subst hy
  refine ⟨_, c, rfl, fun _ => ⟨g, off, rfl, (h.lt g rfl).2, ?_⟩, fun h => by cases h⟩
  intro i u hi
  have hi2 : i < ys.length := by
    rcases Nat.lt_or_ge i ys.length with h1 | h1
    · exact h1
    · rw [List.getElem?_eq_none h1] at hi; cases hi
  rw [h.cellAt (off + i) (by omega), ← hp i hi2]; exact hi
theorem reads_none (w : World) (a : Option Addr) (c : Nat) (h : a = none → c = 0) : run.Reads w (.slice a 0 c) [] := ⟨a, c, rfl, fun h => absurd rfl h, h⟩

set_option maxRecDepth 100000 in
set_option maxHeartbeats 4000000 in
theorem lawJoins_any (v : Value) (xs : List Int) (b : ByteArray) (w : World) (hv : run.Reads w v (rv xs)) (hl : xs.length ≤ 1048576) (hbz : b.size ≤ 1048576) : Calls Try.prog 9 #[v, .string b] w fun e w' => e = .returned (.bool true) ∧ Below w.heap.size w w' := by
  have HV := run.hid hv
  obtain ⟨a, cap, rfl, -, -⟩ := hv
  rw [rv_length] at HV ⊢
  have htl := (text_length xs).2
  have hts : (str (text xs)).size ≤ 4194304 := by rw [str_size]; omega
  have hru : runes (bs (str (text xs))) = xs.map fix := by rw [bs_str (text_byte xs), runes_text]
  have hrl : (runes (bs (str (text xs)))).length ≤ 1048576 := by rw [hru, List.length_map]; omega
  have hrb := runes_len b
  have hrz : runes (bs (str (text xs) ++ b)) = xs.map fix ++ runes (bs b) := by rw [bs_append, bs_str (text_byte xs), runes_text_append]
  have hrzl : (runes (bs (str (text xs) ++ b))).length ≤ 2097152 := by rw [hrz, List.length_append, List.length_map]; omega
  have hzs : (str (text xs) ++ b).size ≤ 5242880 := by rw [ByteArray.size_append]; omega
  have HT := run.hid (text_any _ xs w HV.out (by omega))
  have HR := run.hid (fun w => runes_use (str (text xs)) w (by omega) (by omega))
  have HRB := run.hid (fun w => runes_use b w (by omega) (by omega))
  have HRZ := run.hid (fun w => runes_use (str (text xs) ++ b) w (by omega) (by omega))
  have HVA := run.hid (fun w => valid_any (str (text xs)) w (by omega) (by omega))
  rw [valid_text] at HVA
  rw [hru] at HR
  rw [hrz] at HRZ
  clear hru hrl htl hrz hrzl hzs
  generalize str (text xs) = t at *
  generalize runes (bs b) = R at *
  have hml : (xs.map fix).length = xs.length := List.length_map ..
  generalize xs.map fix = X at *
  rw [List.length_append] at HRZ
  rw [hml] at HR HRZ
  have HML := run.hid hml
  clear hml
  generalize xs.length = n at *
  obtain ⟨m, hm⟩ : ∃ m, m = R.length := ⟨_, rfl⟩
  rw [← hm] at HRB HRZ hrb
  have HM := run.hid hm
  clear hm
  go_enter Try.func9, Try.ntmps9
  go_wp2_with fail
  refine (HT.out).mono ?_
  rintro e w1 ⟨rfl, hb1⟩
  go_wp2_with fail
  refine (HR.out w1).mono ?_
  rintro e w2 ⟨xv, rfl, hxo, -, hb2, -⟩
  have hB2 := hb1.trans (hb2.mono hb1.size)
  have HX2 := run.hid hxo
  obtain ⟨ax, capx, rfl⟩ := run.own_value hxo
  clear hxo
  go_wp2_with fail
  refine (HRB.out w2).mono ?_
  rintro e w3 ⟨yv, rfl, hyo, -, hb3, -⟩
  have hB3 := hB2.trans (hb3.mono hB2.size)
  have HX3 := run.hid (run.own_below HX2.out hb3)
  have HY3 := run.hid hyo
  obtain ⟨ay, capy, rfl⟩ := run.own_value hyo
  clear hyo HX2
  go_wp2_with fail
  refine (HRZ.out w3).mono ?_
  rintro e w4 ⟨zv, rfl, hzo, -, hb4, hznil⟩
  have hB4 := hB3.trans (hb4.mono hB3.size)
  have HX4 := run.hid (run.own_below HX3.out hb4)
  have HY4 := run.hid (run.own_below HY3.out hb4)
  have HZ4 := run.hid hzo
  obtain ⟨az, capz, rfl⟩ := run.own_value hzo
  have hz2 := hzo.2
  clear hzo HX3 HY3 HT HR HRB HRZ hB2 hB3 hb1 hb2 hb3 hb4 hznil
  go_wp2_with fail
  refine (HVA.out w4).mono ?_
  rintro e w5 ⟨rfl, hb5⟩
  have hB5 := hB4.trans (hb5.mono hB4.size)
  have HX5 := run.hid (run.own_below HX4.out hb5)
  have HY5 := run.hid (run.own_below HY4.out hb5)
  have HZ5 := run.hid (run.own_below HZ4.out hb5)
  clear HX4 HY4 HZ4 HVA hB4 hb5
  have hXn := run.hid (show X.length = n from HML.out)
  have hRm := run.hid (show R.length = m from HM.out.symm)
  have e1 : ((n : Int) + (m : Int) == (n : Int) + (m : Int)) = true := by simp
  rcases hz2 with ⟨hnil, h0⟩ | ⟨g, cap', cur, hsl, _, _, hnc, hcm, _, _⟩
  · simp only [Value.slice.injEq] at hnil
    obtain ⟨rfl, -, rfl⟩ := hnil
    obtain rfl : n = 0 := by omega
    obtain rfl : m = 0 := by omega
    have hX0 : X = [] := List.length_eq_zero_iff.1 hXn.out
    have hR0 : R = [] := List.length_eq_zero_iff.1 hRm.out
    subst hX0 hR0
    have HS1 := run.hid (same_eq _ _ [] w5 (reads_none w5 none 0 (fun _ => rfl)) (run.reads_own HX5.out) (by simp))
    go_wp2_with fail
    refine (HS1.out).mono ?_
    rintro e w6 ⟨rfl, hb6⟩
    have hB6 := hB5.trans (hb6.mono hB5.size)
    have HS2 := run.hid (same_eq _ _ [] w6 (reads_none w6 none 0 (fun _ => rfl)) (run.reads_own (run.own_below HY5.out hb6)) (by simp))
    go_wp2_with fail
    refine (HS2.out).mono ?_
    rintro e w7 ⟨rfl, hb7⟩
    have hB7 := hB6.trans (hb7.mono hB6.size)
    have HW := run.hid (wakes_any w7)
    go_wp2_with fail
    refine (HW.out).mono ?_
    rintro e w8 ⟨rfl, hb8⟩
    have hB8 := hB7.trans (hb8.mono hB7.size)
    go_wp2
    go_ret
    exact ⟨rfl, hB8⟩
  · simp only [Value.slice.injEq] at hsl
    obtain ⟨rfl, -, rfl⟩ := hsl
    have hcm2 : capz ≤ 9223372036854775807 := hcm
    have HR1 := run.hid (reads_part (c := capz) (off := 0) (len := n) (ys := rv X) HZ5.out (by rw [rv_length]; exact hXn.out) (fun i hi => by rw [rv_app, Nat.zero_add, List.getElem?_append_left (by rw [rv_length, hXn.out]; exact hi)]) (by omega))
    have HS1 := run.hid (same_eq _ _ X w5 HR1.out (run.reads_own HX5.out) (by rw [hXn.out]; omega))
    clear hcm
    go_wp2_with fail
    refine (HS1.out).mono ?_
    rintro e w6 ⟨rfl, hb6⟩
    have hB6 := hB5.trans (hb6.mono hB5.size)
    have HZ6 := run.hid (run.own_below HZ5.out hb6)
    have HY6 := run.hid (run.own_below HY5.out hb6)
    clear HS1 HR1 HX5 HY5 HZ5 hB5 hb6
    by_cases hcn : n = capz
    · obtain rfl : m = 0 := by omega
      have hR0 : R = [] := List.length_eq_zero_iff.1 hRm.out
      subst hR0
      subst hcn
      have HS2 := run.hid (same_eq _ _ [] w6 (reads_none w6 (some ⟨g, 0, none⟩) 0 (fun h => by cases h)) (run.reads_own HY6.out) (by simp))
      go_wp2_with fail
      refine (HS2.out).mono ?_
      rintro e w7 ⟨rfl, hb7⟩
      have hB7 := hB6.trans (hb7.mono hB6.size)
      have HW := run.hid (wakes_any w7)
      go_wp2_with fail
      refine (HW.out).mono ?_
      rintro e w8 ⟨rfl, hb8⟩
      have hB8 := hB7.trans (hb8.mono hB7.size)
      go_wp2
      go_ret
      exact ⟨rfl, hB8⟩
    · have hlt : n < capz := by omega
      have HR2 := run.hid (reads_part (c := capz - n) (off := n) (len := m) (ys := rv R) HZ6.out (by rw [rv_length]; exact hRm.out) (fun i hi => by rw [rv_app, List.getElem?_append_right (by rw [rv_length, hXn.out]; omega)]; congr 1; rw [rv_length, hXn.out]; omega) (by omega))
      have HS2 := run.hid (same_eq _ _ R w6 HR2.out (run.reads_own HY6.out) (by rw [hRm.out]; omega))
      go_wp2_with fail
      refine (HS2.out).mono ?_
      rintro e w7 ⟨rfl, hb7⟩
      have hB7 := hB6.trans (hb7.mono hB6.size)
      have HW := run.hid (wakes_any w7)
      go_wp2_with fail
      refine (HW.out).mono ?_
      rintro e w8 ⟨rfl, hb8⟩
      have hB8 := hB7.trans (hb8.mono hB7.size)
      go_wp2
      go_ret
      exact ⟨rfl, hB8⟩

end Go.Proofs.Ytbgbgikppcjcgaa.utf
