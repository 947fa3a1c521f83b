/-
  The walks of the layer utf: the first character of some bytes, told by a function; of a text.
-/
import Derived.Test.YtgpgbbbcodnieaaProg
import Derived.Test.YtgpgbbbcodnieaaUtfPlain
import Derived.Test.YtgpgbbbcodnieaaRun
import Derived.WalkKit
import Derived.WalkSpells
import Derived.WalkLawsBesides
import Derived.KernelRfl
import Derived.Deep.QuietTactic
import Derived.BigQuiet
namespace Go.Proofs.Ytgpgbbbcodnieaa.utf
open Go.RowKit Go.Proofs

theorem lead_fits (b : Nat) : (lead b).1 ≤ 4 ∧ (lead b).2.1 < 256 ∧ (lead b).2.2 < 256 := by
  rcases lead_cases b with h | h | h | h | h | h | h | h | h <;> rw [h.1] <;> decide

set_option maxRecDepth 100000 in
set_option maxHeartbeats 1000000 in
theorem lead_any (b : Nat) (hb : b < 256) (w : World) : Calls Try.prog 67 #[.int .u8 b] w fun e w' => e = .returned (.tuple #[.int .i64 (lead b).1, .int .u8 (lead b).2.1, .int .u8 (lead b).2.2]) ∧ w' = w := by
  have hc := lead_cases b
  generalize lead b = q at *
  rcases hc with ⟨rfl, h1⟩ | ⟨rfl, ⟨h1, h2⟩ | h1⟩ | ⟨rfl, h1, h2⟩ | ⟨rfl, h1⟩ | ⟨rfl, h1⟩ | ⟨rfl, h1, h2, h3⟩ | ⟨rfl, h1⟩ | ⟨rfl, h1, h2⟩ | ⟨rfl, h1⟩
  all_goals try subst h1
  all_goals
    go_enter Try.func67, Try.ntmps67
    go_wp2
    go_ret3
    exact ⟨rfl, rfl⟩

/-- a function that tells the bytes of l -/
def Tells (f : FuncId) (x : Value) (l : List Nat) (w : World) : Prop :=
  ∀ (i : Nat) (w1 : World), i < l.length → Below w.heap.size w w1 → Calls Try.prog f #[.int .i64 i, x] w1 fun e w' => e = .returned (.int .u8 (l.getD i 0)) ∧ Below w1.heap.size w1 w'

theorem first_cons (b : Nat) (t : List Nat) : first (b :: t) = if (lead b).1 = 0 then (0xfffd, 1, false) else if (lead b).1 = 1 then (b, 1, false) else cont ((lead b).1 - 1) (low (lead b).1 b) 1 (lead b).2.1 (lead b).2.2 t := rfl

theorem and31 (b : Nat) (h : b < 256) : bits .and .i32 (b : Int) 31 = ((b % 32 : Nat) : Int) := (bits_mask .i32 31 (by decide) wraps_i32 5 (by decide) b (by omega) (by omega)).trans (by simp)
theorem and15 (b : Nat) (h : b < 256) : bits .and .i32 (b : Int) 15 = ((b % 16 : Nat) : Int) := (bits_mask .i32 31 (by decide) wraps_i32 4 (by decide) b (by omega) (by omega)).trans (by simp)
theorem and7 (b : Nat) (h : b < 256) : bits .and .i32 (b : Int) 7 = ((b % 8 : Nat) : Int) := (bits_mask .i32 31 (by decide) wraps_i32 3 (by decide) b (by omega) (by omega)).trans (by simp)

theorem drop_nil {l : List Nat} {i : Nat} (h : [] = l.drop i) : l.length ≤ i := by
  have := congrArg List.length h
  simp at this; omega
theorem drop_cons {l u : List Nat} {c i : Nat} (h : c :: u = l.drop i) : i < l.length ∧ l.getD i 0 = c ∧ u = l.drop (i + 1) := by
  have hl := congrArg List.length h
  simp only [List.length_cons, List.length_drop] at hl
  have hi : i < l.length := by omega
  rw [List.drop_eq_getElem_cons hi] at h
  simp only [List.cons.injEq] at h
  exact ⟨hi, by rw [h.1]; simp [List.getD_eq_getElem?_getD, hi], h.2⟩
theorem getD_mem {l : List Nat} {i : Nat} (h : i < l.length) : l.getD i 0 ∈ l := by
  rw [List.getD_eq_getElem?_getD, List.getElem?_eq_getElem h]; exact List.getElem_mem _
theorem cont_bad {c lo hi : Nat} (k r i : Nat) (u : List Nat) (h : c < lo ∨ hi < c) : cont (k + 1) r i lo hi (c :: u) = (0xfffd, i, false) := by simp only [cont]; rw [if_pos h]
theorem cont_good {c lo hi : Nat} (k r i : Nat) (u : List Nat) (h : ¬ (c < lo ∨ hi < c)) : cont (k + 1) r i lo hi (c :: u) = cont k (r * 64 + c % 64) (i + 1) 0x80 0xBF u := by simp only [cont]; rw [if_neg h]

set_option maxHeartbeats 2000000 in
theorem first_text (x : Value) (b : Nat) (t : List Nat) (w : World) (hlen : t.length < 4611686018427387904) (hbyte : ∀ c ∈ (b :: t), c < 256) (hat : Tells 59 x (b :: t) w) :
    Calls Try.prog 58 #[.func (.func 59) #[] #[x], .int .i64 ((b :: t).length : Nat)] w fun e w' =>
      e = .returned (.tuple #[.int .i32 (first (b :: t)).1, .int .i64 (first (b :: t)).2.1, .bool (first (b :: t)).2.2]) ∧ Below w.heap.size w w' := by
  have HA := run.hid hat
  have HB := run.hid hbyte
  have hb : b < 256 := hbyte b (by simp)
  have HF := run.hid (first_cons b t)
  clear hat hbyte
  generalize first (b :: t) = res at *
  have h0 := run.hid (HA.out 0 w (by simp) (Below.refl _ _))
  go_enter Try.func58, Try.ntmps58
  go_wp2_with fail
  refine (h0.out).mono ?_
  rintro e w1 ⟨rfl, hb1⟩
  clear h0
  go_wp2_with fail
  refine (lead_any b hb w1).mono ?_
  rintro e w2 ⟨rfl, rfl⟩
  have hlf := lead_fits b
  generalize lead b = q at *
  obtain ⟨n, lo, hi⟩ := q
  obtain ⟨hn, hlo, hhi⟩ := hlf
  simp only at hn hlo hhi
  rcases (show n = 0 ∨ n = 1 ∨ n = 2 ∨ n = 3 ∨ n = 4 by omega) with rfl | rfl | rfl | rfl | rfl
  · have hf := run.hid (HF.out.trans (if_pos rfl))
    clear HF
    go_wp2
    go_ret3
    exact ⟨by rw [hf.out]; rfl, hb1⟩
  · have hf := run.hid (HF.out.trans (by simp : _ = (b, 1, false)))
    clear HF
    go_wp2
    go_ret3
    exact ⟨by rw [hf.out]; rfl, hb1⟩
  · have ha := and31 b hb
    go_wp2
    clear ha
    go_loopw [9, 10, 11, 12] (fun vlo vhi vr vi wr => ∃ k i r lo hi : Nat, ∃ u : List Nat, i + k ≤ 2 ∧ 2 ≤ i + k ∧ 1 ≤ i ∧ (k ≠ 0 → r < 131072) ∧ (2 ≤ k → r < 2048) ∧ (3 ≤ k → r < 32) ∧ r < 8388608 ∧ lo < 256 ∧ hi < 256 ∧ vlo = .int .u8 lo ∧ vhi = .int .u8 hi ∧ vr = .int .i32 r ∧ vi = .int .i64 i ∧ i ≤ t.length + 1 ∧ Below w.heap.size w wr ∧ Hid (u = (b :: t).drop i) ∧ Hid (res = cont k r i lo hi u)) (fun _ _ _ i _ => (4 - intOf i).toNat)
    case atStart => exact ⟨1, 1, b % 32, lo, hi, t, by omega, by omega, by omega, by omega, by omega, by omega, by omega, by omega, by omega, rfl, rfl, (by first | rfl | go_num | simp), rfl, by omega, hb1, run.hid rfl, run.hid (HF.out.trans rfl)⟩
    case round =>
      clear HF hb1 hlo hhi
      obtain ⟨k, i, r, lo, hi, u, hk1, hk2, hi1, hr1, hr2, hr3, hr4, hlo, hhi, rfl, rfl, rfl, rfl, hit, hbel, HU, HR⟩ := hrel
      match k with
      | 0 =>
        obtain rfl : i = 2 := by omega
        go_wp2
        go_ret3
        exact ⟨by rw [HR.out]; rfl, hbel⟩
      | k + 1 =>
        have hiN : i < 2 := by omega
        have hr5 : r < 131072 := hr1 (by omega)
        match u with
        | [] =>
          have hlen0 : t.length + 1 ≤ i := by simpa using drop_nil HU.out
          obtain rfl : i = t.length + 1 := by omega
          go_wp2
          go_ret3
          exact ⟨by rw [HR.out]; rfl, hbel⟩
        | c :: u =>
          have hc := drop_cons HU.out
          have hi2 : i < t.length + 1 := by have := hc.1; simpa using this
          have hcb : c < 256 := HB.out c (by rw [← hc.2.1]; exact getD_mem hc.1)
          have HU2 := run.hid hc.2.2
          have H0 := run.hid (HA.out i wr hc.1 hbel)
          have HC := run.hid hc.2.1
          clear hc
          go_wp2_with fail
          refine (H0.out).mono ?_
          rw [HC.out]
          rintro e w3 ⟨rfl, hb3⟩
          have hbel2 := hbel.trans (hb3.mono hbel.size)
          clear H0 HC hb3
          by_cases h1 : c < lo
          · have HR2 := run.hid (HR.out.trans (cont_bad k r i u (.inl h1)))
            go_wp2
            go_ret3
            exact ⟨by rw [HR2.out]; rfl, hbel2⟩
          · by_cases h2 : hi < c
            · have HR2 := run.hid (HR.out.trans (cont_bad k r i u (.inr h2)))
              go_wp2
              go_ret3
              exact ⟨by rw [HR2.out]; rfl, hbel2⟩
            · have HR2 := run.hid (HR.out.trans (cont_good k r i u (by omega)))
              go_wp2
              go_roundw
              case rel => exact ⟨k, i + 1, r * 64 + c % 64, 0x80, 0xBF, u, by omega, by omega, by omega, by omega, by omega, by omega, by omega, by omega, by omega, rfl, rfl, by go_num, by go_num, by omega, hbel2, HU2, HR2⟩
              case measure => simp [intOf]; omega
  · have ha := and15 b hb
    go_wp2
    clear ha
    go_loopw [9, 10, 11, 12] (fun vlo vhi vr vi wr => ∃ k i r lo hi : Nat, ∃ u : List Nat, i + k ≤ 3 ∧ 3 ≤ i + k ∧ 1 ≤ i ∧ (k ≠ 0 → r < 131072) ∧ (2 ≤ k → r < 2048) ∧ (3 ≤ k → r < 32) ∧ r < 8388608 ∧ lo < 256 ∧ hi < 256 ∧ vlo = .int .u8 lo ∧ vhi = .int .u8 hi ∧ vr = .int .i32 r ∧ vi = .int .i64 i ∧ i ≤ t.length + 1 ∧ Below w.heap.size w wr ∧ Hid (u = (b :: t).drop i) ∧ Hid (res = cont k r i lo hi u)) (fun _ _ _ i _ => (4 - intOf i).toNat)
    case atStart => exact ⟨2, 1, b % 16, lo, hi, t, by omega, by omega, by omega, by omega, by omega, by omega, by omega, by omega, by omega, rfl, rfl, (by first | rfl | go_num | simp), rfl, by omega, hb1, run.hid rfl, run.hid (HF.out.trans rfl)⟩
    case round =>
      clear HF hb1 hlo hhi
      obtain ⟨k, i, r, lo, hi, u, hk1, hk2, hi1, hr1, hr2, hr3, hr4, hlo, hhi, rfl, rfl, rfl, rfl, hit, hbel, HU, HR⟩ := hrel
      match k with
      | 0 =>
        obtain rfl : i = 3 := by omega
        go_wp2
        go_ret3
        exact ⟨by rw [HR.out]; rfl, hbel⟩
      | k + 1 =>
        have hiN : i < 3 := by omega
        have hr5 : r < 131072 := hr1 (by omega)
        match u with
        | [] =>
          have hlen0 : t.length + 1 ≤ i := by simpa using drop_nil HU.out
          obtain rfl : i = t.length + 1 := by omega
          go_wp2
          go_ret3
          exact ⟨by rw [HR.out]; rfl, hbel⟩
        | c :: u =>
          have hc := drop_cons HU.out
          have hi2 : i < t.length + 1 := by have := hc.1; simpa using this
          have hcb : c < 256 := HB.out c (by rw [← hc.2.1]; exact getD_mem hc.1)
          have HU2 := run.hid hc.2.2
          have H0 := run.hid (HA.out i wr hc.1 hbel)
          have HC := run.hid hc.2.1
          clear hc
          go_wp2_with fail
          refine (H0.out).mono ?_
          rw [HC.out]
          rintro e w3 ⟨rfl, hb3⟩
          have hbel2 := hbel.trans (hb3.mono hbel.size)
          clear H0 HC hb3
          by_cases h1 : c < lo
          · have HR2 := run.hid (HR.out.trans (cont_bad k r i u (.inl h1)))
            go_wp2
            go_ret3
            exact ⟨by rw [HR2.out]; rfl, hbel2⟩
          · by_cases h2 : hi < c
            · have HR2 := run.hid (HR.out.trans (cont_bad k r i u (.inr h2)))
              go_wp2
              go_ret3
              exact ⟨by rw [HR2.out]; rfl, hbel2⟩
            · have HR2 := run.hid (HR.out.trans (cont_good k r i u (by omega)))
              go_wp2
              go_roundw
              case rel => exact ⟨k, i + 1, r * 64 + c % 64, 0x80, 0xBF, u, by omega, by omega, by omega, by omega, by omega, by omega, by omega, by omega, by omega, rfl, rfl, by go_num, by go_num, by omega, hbel2, HU2, HR2⟩
              case measure => simp [intOf]; omega
  · have ha := and7 b hb
    go_wp2
    clear ha
    go_loopw [9, 10, 11, 12] (fun vlo vhi vr vi wr => ∃ k i r lo hi : Nat, ∃ u : List Nat, i + k ≤ 4 ∧ 4 ≤ i + k ∧ 1 ≤ i ∧ (k ≠ 0 → r < 131072) ∧ (2 ≤ k → r < 2048) ∧ (3 ≤ k → r < 32) ∧ r < 8388608 ∧ lo < 256 ∧ hi < 256 ∧ vlo = .int .u8 lo ∧ vhi = .int .u8 hi ∧ vr = .int .i32 r ∧ vi = .int .i64 i ∧ i ≤ t.length + 1 ∧ Below w.heap.size w wr ∧ Hid (u = (b :: t).drop i) ∧ Hid (res = cont k r i lo hi u)) (fun _ _ _ i _ => (4 - intOf i).toNat)
    case atStart => exact ⟨3, 1, b % 8, lo, hi, t, by omega, by omega, by omega, by omega, by omega, by omega, by omega, by omega, by omega, rfl, rfl, (by first | rfl | go_num | simp), rfl, by omega, hb1, run.hid rfl, run.hid (HF.out.trans rfl)⟩
    case round =>
      clear HF hb1 hlo hhi
      obtain ⟨k, i, r, lo, hi, u, hk1, hk2, hi1, hr1, hr2, hr3, hr4, hlo, hhi, rfl, rfl, rfl, rfl, hit, hbel, HU, HR⟩ := hrel
      match k with
      | 0 =>
        obtain rfl : i = 4 := by omega
        go_wp2
        go_ret3
        exact ⟨by rw [HR.out]; rfl, hbel⟩
      | k + 1 =>
        have hiN : i < 4 := by omega
        have hr5 : r < 131072 := hr1 (by omega)
        match u with
        | [] =>
          have hlen0 : t.length + 1 ≤ i := by simpa using drop_nil HU.out
          obtain rfl : i = t.length + 1 := by omega
          go_wp2
          go_ret3
          exact ⟨by rw [HR.out]; rfl, hbel⟩
        | c :: u =>
          have hc := drop_cons HU.out
          have hi2 : i < t.length + 1 := by have := hc.1; simpa using this
          have hcb : c < 256 := HB.out c (by rw [← hc.2.1]; exact getD_mem hc.1)
          have HU2 := run.hid hc.2.2
          have H0 := run.hid (HA.out i wr hc.1 hbel)
          have HC := run.hid hc.2.1
          clear hc
          go_wp2_with fail
          refine (H0.out).mono ?_
          rw [HC.out]
          rintro e w3 ⟨rfl, hb3⟩
          have hbel2 := hbel.trans (hb3.mono hbel.size)
          clear H0 HC hb3
          by_cases h1 : c < lo
          · have HR2 := run.hid (HR.out.trans (cont_bad k r i u (.inl h1)))
            go_wp2
            go_ret3
            exact ⟨by rw [HR2.out]; rfl, hbel2⟩
          · by_cases h2 : hi < c
            · have HR2 := run.hid (HR.out.trans (cont_bad k r i u (.inr h2)))
              go_wp2
              go_ret3
              exact ⟨by rw [HR2.out]; rfl, hbel2⟩
            · have HR2 := run.hid (HR.out.trans (cont_good k r i u (by omega)))
              go_wp2
              go_roundw
              case rel => exact ⟨k, i + 1, r * 64 + c % 64, 0x80, 0xBF, u, by omega, by omega, by omega, by omega, by omega, by omega, by omega, by omega, by omega, rfl, rfl, by go_num, by go_num, by omega, hbel2, HU2, HR2⟩
              case measure => simp [intOf]; omega

end Go.Proofs.Ytgpgbbbcodnieaa.utf
