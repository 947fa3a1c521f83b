/-
  The walk of the layer utf: the first character of the bytes that a variable of the call's own leads to.
-/
import Derived.Test.YtgjlhjnkcgdopaaUtfHelp
namespace Go.Proofs.Ytgjlhjnkcgdopaa.utf
open Go.RowKit Go.Proofs
set_option linter.unusedVariables false

theorem bv_get {l : List Nat} {i : Nat} (h : i < l.length) : (bv l)[i]? = some (.int .u8 (l.getD i 0)) := by
  simp [bv, List.getD_eq_getElem?_getD, h]
set_option maxHeartbeats 400000 in
theorem at_bytes (l : List Nat) (V i : Nat) (av : Value) (w : World) (hV : w.cell? ⟨V, 0, none⟩ = some av) (hr : run.Reads w av (bv l)) (hi : i < l.length) (hl : l.length < 4611686018427387904) :
    Calls Try.prog 36 #[.int .i64 i, .pointer (some ⟨V, 0, none⟩)] w fun e w' => e = .returned (.int .u8 (l.getD i 0)) ∧ Below w.heap.size w w' := by
  obtain ⟨a, cap, rfl, hc, -⟩ := hr
  obtain ⟨b, off, rfl, -, hcell⟩ := hc (by intro e; have h0 : (bv l).length = 0 := by rw [e]; rfl
                                           rw [bv_length] at h0; omega)
  have hci := hcell i _ (bv_get hi)
  rw [bv_length] at hV
  clear hc hcell
  generalize l.getD i 0 = c at *
  go_enter Try.func36, Try.ntmps36
  go_wp2
  go_ret
  exact ⟨rfl, Below.refl _ _⟩
theorem tells_bytes (l : List Nat) (V : Nat) (av : Value) (w : World) (hlt : V < w.heap.size) (hV : w.cell? ⟨V, 0, none⟩ = some av) (hr : run.Reads w av (bv l)) (hl : l.length < 4611686018427387904) :
    Tells 36 (.pointer (some ⟨V, 0, none⟩)) l w := by
  intro i w1 hi hb
  exact at_bytes l V i av w1 ((hb.cell (p := ⟨V, 0, none⟩) hlt).trans hV) (hr.below hb) hi hl

set_option maxHeartbeats 2000000 in
theorem first_bytes (x : Value) (b : Nat) (t : List Nat) (w : World) (hlen : t.length < 4611686018427387904) (hbyte : ∀ c ∈ (b :: t), c < 256) (hat : Tells 36 x (b :: t) w) :
    Calls Try.prog 35 #[.func (.func 36) #[] #[x], .int .i64 ((b :: t).length : Nat)] w fun e w' =>
      e = .returned (.tuple #[.int .i32 (first (b :: t)).1, .int .i64 (first (b :: t)).2.1, .bool (first (b :: t)).2.2]) ∧ Below w.heap.size w w' := by
  have HA := run.hid hat
  have HB := run.hid hbyte
  have hb : b < 256 := hbyte b (by simp)
  have HF := run.hid (first_cons b t)
  clear hat hbyte
  generalize first (b :: t) = res at *
  have h0 := run.hid (HA.out 0 w (by simp) (Below.refl _ _))
  go_enter Try.func35, Try.ntmps35
  go_wp2_with fail
  refine (h0.out).mono ?_
  rintro e w1 ⟨rfl, hb1⟩
  clear h0
  go_wp2_with fail
  refine (lead_any b hb w1).mono ?_
  rintro e w2 ⟨rfl, rfl⟩
  have hlf := lead_fits b
  generalize lead b = q at *
  obtain ⟨n, lo, hi⟩ := q
  obtain ⟨hn, hlo, hhi⟩ := hlf
  simp only at hn hlo hhi
  rcases (show n = 0 ∨ n = 1 ∨ n = 2 ∨ n = 3 ∨ n = 4 by omega) with rfl | rfl | rfl | rfl | rfl
  · have hf := run.hid (HF.out.trans (if_pos rfl))
    clear HF
    go_wp2
    go_ret3
    exact ⟨by rw [hf.out]; rfl, hb1⟩
  · have hf := run.hid (HF.out.trans (by simp : _ = (b, 1, false)))
    clear HF
    go_wp2
    go_ret3
    exact ⟨by rw [hf.out]; rfl, hb1⟩
  · have ha := and31 b hb
    go_wp2
    clear ha
    go_loopw [9, 10, 11, 12] (fun vlo vhi vr vi wr => ∃ k i r lo hi : Nat, ∃ u : List Nat, i + k ≤ 2 ∧ 2 ≤ i + k ∧ 1 ≤ i ∧ (k ≠ 0 → r < 131072) ∧ (2 ≤ k → r < 2048) ∧ (3 ≤ k → r < 32) ∧ r < 8388608 ∧ lo < 256 ∧ hi < 256 ∧ vlo = .int .u8 lo ∧ vhi = .int .u8 hi ∧ vr = .int .i32 r ∧ vi = .int .i64 i ∧ i ≤ t.length + 1 ∧ Below w.heap.size w wr ∧ Hid (u = (b :: t).drop i) ∧ Hid (res = cont k r i lo hi u)) (fun _ _ _ i _ => (4 - intOf i).toNat)
    case atStart => exact ⟨1, 1, b % 32, lo, hi, t, by omega, by omega, by omega, by omega, by omega, by omega, by omega, by omega, by omega, rfl, rfl, (by first | rfl | go_num | simp), rfl, by omega, hb1, run.hid rfl, run.hid (HF.out.trans rfl)⟩
    case round =>
      clear HF hb1 hlo hhi
      obtain ⟨k, i, r, lo, hi, u, hk1, hk2, hi1, hr1, hr2, hr3, hr4, hlo, hhi, rfl, rfl, rfl, rfl, hit, hbel, HU, HR⟩ := hrel
      match k with
      | 0 =>
        obtain rfl : i = 2 := by omega
        go_wp2
        go_ret3
        exact ⟨by rw [HR.out]; rfl, hbel⟩
      | k + 1 =>
        have hiN : i < 2 := by omega
        have hr5 : r < 131072 := hr1 (by omega)
        match u with
        | [] =>
          have hlen0 : t.length + 1 ≤ i := by simpa using drop_nil HU.out
          obtain rfl : i = t.length + 1 := by omega
          go_wp2
          go_ret3
          exact ⟨by rw [HR.out]; rfl, hbel⟩
        | c :: u =>
          have hc := drop_cons HU.out
          have hi2 : i < t.length + 1 := by have := hc.1; simpa using this
          have hcb : c < 256 := HB.out c (by rw [← hc.2.1]; exact getD_mem hc.1)
          have HU2 := run.hid hc.2.2
          have H0 := run.hid (HA.out i wr hc.1 hbel)
          have HC := run.hid hc.2.1
          clear hc
          go_wp2_with fail
          refine (H0.out).mono ?_
          rw [HC.out]
          rintro e w3 ⟨rfl, hb3⟩
          have hbel2 := hbel.trans (hb3.mono hbel.size)
          clear H0 HC hb3
          by_cases h1 : c < lo
          · have HR2 := run.hid (HR.out.trans (cont_bad k r i u (.inl h1)))
            go_wp2
            go_ret3
            exact ⟨by rw [HR2.out]; rfl, hbel2⟩
          · by_cases h2 : hi < c
            · have HR2 := run.hid (HR.out.trans (cont_bad k r i u (.inr h2)))
              go_wp2
              go_ret3
              exact ⟨by rw [HR2.out]; rfl, hbel2⟩
            · have HR2 := run.hid (HR.out.trans (cont_good k r i u (by omega)))
              go_wp2
              go_roundw
              case rel => exact ⟨k, i + 1, r * 64 + c % 64, 0x80, 0xBF, u, by omega, by omega, by omega, by omega, by omega, by omega, by omega, by omega, by omega, rfl, rfl, by go_num, by go_num, by omega, hbel2, HU2, HR2⟩
              case measure => simp [intOf]; omega
  · have ha := and15 b hb
    go_wp2
    clear ha
    go_loopw [9, 10, 11, 12] (fun vlo vhi vr vi wr => ∃ k i r lo hi : Nat, ∃ u : List Nat, i + k ≤ 3 ∧ 3 ≤ i + k ∧ 1 ≤ i ∧ (k ≠ 0 → r < 131072) ∧ (2 ≤ k → r < 2048) ∧ (3 ≤ k → r < 32) ∧ r < 8388608 ∧ lo < 256 ∧ hi < 256 ∧ vlo = .int .u8 lo ∧ vhi = .int .u8 hi ∧ vr = .int .i32 r ∧ vi = .int .i64 i ∧ i ≤ t.length + 1 ∧ Below w.heap.size w wr ∧ Hid (u = (b :: t).drop i) ∧ Hid (res = cont k r i lo hi u)) (fun _ _ _ i _ => (4 - intOf i).toNat)
    case atStart => exact ⟨2, 1, b % 16, lo, hi, t, by omega, by omega, by omega, by omega, by omega, by omega, by omega, by omega, by omega, rfl, rfl, (by first | rfl | go_num | simp), rfl, by omega, hb1, run.hid rfl, run.hid (HF.out.trans rfl)⟩
    case round =>
      clear HF hb1 hlo hhi
      obtain ⟨k, i, r, lo, hi, u, hk1, hk2, hi1, hr1, hr2, hr3, hr4, hlo, hhi, rfl, rfl, rfl, rfl, hit, hbel, HU, HR⟩ := hrel
      match k with
      | 0 =>
        obtain rfl : i = 3 := by omega
        go_wp2
        go_ret3
        exact ⟨by rw [HR.out]; rfl, hbel⟩
      | k + 1 =>
        have hiN : i < 3 := by omega
        have hr5 : r < 131072 := hr1 (by omega)
        match u with
        | [] =>
          have hlen0 : t.length + 1 ≤ i := by simpa using drop_nil HU.out
          obtain rfl : i = t.length + 1 := by omega
          go_wp2
          go_ret3
          exact ⟨by rw [HR.out]; rfl, hbel⟩
        | c :: u =>
          have hc := drop_cons HU.out
          have hi2 : i < t.length + 1 := by have := hc.1; simpa using this
          have hcb : c < 256 := HB.out c (by rw [← hc.2.1]; exact getD_mem hc.1)
          have HU2 := run.hid hc.2.2
          have H0 := run.hid (HA.out i wr hc.1 hbel)
          have HC := run.hid hc.2.1
          clear hc
          go_wp2_with fail
          refine (H0.out).mono ?_
          rw [HC.out]
          rintro e w3 ⟨rfl, hb3⟩
          have hbel2 := hbel.trans (hb3.mono hbel.size)
          clear H0 HC hb3
          by_cases h1 : c < lo
          · have HR2 := run.hid (HR.out.trans (cont_bad k r i u (.inl h1)))
            go_wp2
            go_ret3
            exact ⟨by rw [HR2.out]; rfl, hbel2⟩
          · by_cases h2 : hi < c
            · have HR2 := run.hid (HR.out.trans (cont_bad k r i u (.inr h2)))
              go_wp2
              go_ret3
              exact ⟨by rw [HR2.out]; rfl, hbel2⟩
            · have HR2 := run.hid (HR.out.trans (cont_good k r i u (by omega)))
              go_wp2
              go_roundw
              case rel => exact ⟨k, i + 1, r * 64 + c % 64, 0x80, 0xBF, u, by omega, by omega, by omega, by omega, by omega, by omega, by omega, by omega, by omega, rfl, rfl, by go_num, by go_num, by omega, hbel2, HU2, HR2⟩
              case measure => simp [intOf]; omega
  · have ha := and7 b hb
    go_wp2
    clear ha
    go_loopw [9, 10, 11, 12] (fun vlo vhi vr vi wr => ∃ k i r lo hi : Nat, ∃ u : List Nat, i + k ≤ 4 ∧ 4 ≤ i + k ∧ 1 ≤ i ∧ (k ≠ 0 → r < 131072) ∧ (2 ≤ k → r < 2048) ∧ (3 ≤ k → r < 32) ∧ r < 8388608 ∧ lo < 256 ∧ hi < 256 ∧ vlo = .int .u8 lo ∧ vhi = .int .u8 hi ∧ vr = .int .i32 r ∧ vi = .int .i64 i ∧ i ≤ t.length + 1 ∧ Below w.heap.size w wr ∧ Hid (u = (b :: t).drop i) ∧ Hid (res = cont k r i lo hi u)) (fun _ _ _ i _ => (4 - intOf i).toNat)
    case atStart => exact ⟨3, 1, b % 8, lo, hi, t, by omega, by omega, by omega, by omega, by omega, by omega, by omega, by omega, by omega, rfl, rfl, (by first | rfl | go_num | simp), rfl, by omega, hb1, run.hid rfl, run.hid (HF.out.trans rfl)⟩
    case round =>
      clear HF hb1 hlo hhi
      obtain ⟨k, i, r, lo, hi, u, hk1, hk2, hi1, hr1, hr2, hr3, hr4, hlo, hhi, rfl, rfl, rfl, rfl, hit, hbel, HU, HR⟩ := hrel
      match k with
      | 0 =>
        obtain rfl : i = 4 := by omega
        go_wp2
        go_ret3
        exact ⟨by rw [HR.out]; rfl, hbel⟩
      | k + 1 =>
        have hiN : i < 4 := by omega
        have hr5 : r < 131072 := hr1 (by omega)
        match u with
        | [] =>
          have hlen0 : t.length + 1 ≤ i := by simpa using drop_nil HU.out
          obtain rfl : i = t.length + 1 := by omega
          go_wp2
          go_ret3
          exact ⟨by rw [HR.out]; rfl, hbel⟩
        | c :: u =>
          have hc := drop_cons HU.out
          have hi2 : i < t.length + 1 := by have := hc.1; simpa using this
          have hcb : c < 256 := HB.out c (by rw [← hc.2.1]; exact getD_mem hc.1)
          have HU2 := run.hid hc.2.2
          have H0 := run.hid (HA.out i wr hc.1 hbel)
          have HC := run.hid hc.2.1
          clear hc
          go_wp2_with fail
          refine (H0.out).mono ?_
          rw [HC.out]
          rintro e w3 ⟨rfl, hb3⟩
          have hbel2 := hbel.trans (hb3.mono hbel.size)
          clear H0 HC hb3
          by_cases h1 : c < lo
          · have HR2 := run.hid (HR.out.trans (cont_bad k r i u (.inl h1)))
            go_wp2
            go_ret3
            exact ⟨by rw [HR2.out]; rfl, hbel2⟩
          · by_cases h2 : hi < c
            · have HR2 := run.hid (HR.out.trans (cont_bad k r i u (.inr h2)))
              go_wp2
              go_ret3
              exact ⟨by rw [HR2.out]; rfl, hbel2⟩
            · have HR2 := run.hid (HR.out.trans (cont_good k r i u (by omega)))
              go_wp2
              go_roundw
              case rel => exact ⟨k, i + 1, r * 64 + c % 64, 0x80, 0xBF, u, by omega, by omega, by omega, by omega, by omega, by omega, by omega, by omega, by omega, rfl, rfl, by go_num, by go_num, by omega, hbel2, HU2, HR2⟩
              case measure => simp [intOf]; omega

end Go.Proofs.Ytgjlhjnkcgdopaa.utf
