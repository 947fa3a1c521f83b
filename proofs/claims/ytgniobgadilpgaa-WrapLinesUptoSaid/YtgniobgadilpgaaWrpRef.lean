/-
  The walks of the document's layer wrap: Width, Beginning, Ending.
-/
import Derived.Test.YtgniobgadilpgaaWrpFit
namespace Go.Proofs.Ytgniobgadilpgaa.wrp
open Go.RowKit Go.Proofs
open Go.Proofs.Ytgniobgadilpgaa.wid Go.Proofs.Ytgniobgadilpgaa.utf Go.Proofs.Ytgniobgadilpgaa.clu
set_option linter.unusedVariables false

set_option maxHeartbeats 1000000 in
theorem refWide_any (v : Value) (X : List TV) (w : World) (hv : Reads2 w v X) (hX : X.length ≤ 1099511627776) (hS : wideT X ≤ 4611686018427387904) : Calls Try.prog 56 #[v] w fun e w' => e = .returned (.int .i64 (wideT X : Nat)) ∧ w' = w := by
  obtain ⟨a, cap, rfl, ha⟩ := hv
  have HA := run.hid ha
  clear ha
  have HT := run.hid (fun i => @wideT_take X i)
  have HL := run.hid (fun i => wideT_take_le X i)
  have HEND := run.hid (show X.take X.length = X from List.take_of_length_le (Nat.le_refl _))
  generalize hN : X.length = N at *
  go_enter Try.func56, Try.ntmps56
  go_wp2
  go_loop [3, 4] (fun vs vi => ∃ i : Nat, i ≤ N ∧ vi = .int .i64 i ∧ vs = .int .i64 (wideT (X.take i) : Nat)) (fun _ vi => ((N : Int) - intOf vi).toNat)
  case atStart => exact ⟨0, by omega, rfl, rfl⟩
  case round =>
    obtain ⟨i, hi, rfl, rfl⟩ := hrel
    by_cases hlt : i < N
    · obtain ⟨b1, o1, rfl, hlb1, hx0, hx1⟩ := HA.out i hlt
      have HTi := run.hid (HT.out i (by omega))
      have hle := HL.out (i + 1)
      rw [HTi.out] at hle
      unfold t0 at HTi hle
      generalize X.getD i (ByteArray.empty, 0) = q at *
      obtain ⟨qs, qw⟩ := q
      dsimp only at hx0 hx1 HTi hle
      generalize wideT (X.take i) = sm at *
      clear HA HL HT hN HEND
      go_wp2
      go_round
      case rel => exact ⟨i + 1, by omega, by go_num, by rw [HTi.out]; go_num⟩
      case measure => simp [intOf]; omega
    · obtain rfl : i = N := by omega
      rw [HEND.out]
      go_wp2
      go_ret
      exact ⟨rfl, rfl⟩

set_option maxHeartbeats 1000000 in
theorem refFit_any (v : Value) (X : List TV) (n : Nat) (w : World) (hv : Reads2 w v X) (hX : X.length ≤ 1099511627776) (hn : n ≤ 4611686018427387904) : Calls Try.prog 55 #[v, .int .i64 n] w fun e w' => e = .returned (.int .i64 (fitT X n : Nat)) ∧ w' = w := by
  obtain ⟨a, cap, rfl, ha⟩ := hv
  have HA := run.hid ha
  clear ha
  have HSTEP := run.hid (fun i left => @fit_step X n i left)
  have HSTOP := run.hid (fun i left => @fit_stop X n i left)
  have HEND := run.hid (fun left => @fit_end X n left)
  have HS0 : Hid (fitT X n = 0 + fitT (X.drop 0) n) := by show _ = _; simp
  generalize hN : X.length = N at *
  go_enter Try.func55, Try.ntmps55
  go_wp2
  go_loop [1, 5] (fun vw vi => ∃ i left : Nat, i ≤ N ∧ left ≤ n ∧ vi = .int .i64 i ∧ vw = .int .i64 left ∧ Hid (fitT X n = i + fitT (X.drop i) left)) (fun _ vi => ((N : Int) - intOf vi).toNat)
  case atStart => exact ⟨0, n, by omega, by omega, rfl, rfl, HS0⟩
  case round =>
    obtain ⟨i, left, hi, hleft, rfl, rfl, HF⟩ := hrel
    by_cases hlt : i < N
    · obtain ⟨b1, o1, rfl, hlb1, hx0, hx1⟩ := HA.out i hlt
      have H1 := run.hid (HSTEP.out i left hlt HF.out)
      have H2 := run.hid (HSTOP.out i left hlt HF.out)
      unfold t0 at H1 H2
      generalize X.getD i (ByteArray.empty, 0) = q at *
      obtain ⟨qs, qw⟩ := q
      dsimp only at hx0 hx1 H1 H2
      clear HA HSTEP HSTOP HEND hN HF HS0
      by_cases hle : qw ≤ left
      · have HN := run.hid (H1.out hle)
        clear H1 H2
        go_wp2
        go_round
        case rel => exact ⟨i + 1, left - qw, by omega, by omega, by go_num, by go_num, HN⟩
        case measure => simp [intOf]; omega
      · have HN := run.hid (H2.out hle)
        clear H1 H2
        go_wp2
        go_ret
        exact ⟨by rw [HN.out]; rfl, rfl⟩
    · obtain rfl : i = N := by omega
      have HN := run.hid (HEND.out left HF.out)
      clear HA HSTEP HSTOP HEND hN HF HS0
      go_wp2
      go_ret
      exact ⟨by rw [HN.out]; rfl, rfl⟩

set_option maxHeartbeats 1000000 in
theorem refEnd_any (v : Value) (X : List TV) (n : Nat) (w : World) (hv : Reads2 w v X) (hX : X.length ≤ 1099511627776) (hn : n ≤ 4611686018427387904) : Calls Try.prog 60 #[v, .int .i64 n] w fun e w' => e = .returned (.int .i64 (endT X n : Nat)) ∧ w' = w := by
  obtain ⟨a, cap, rfl, ha⟩ := hv
  have HA := run.hid ha
  clear ha
  have HSTEP := run.hid (fun k left => @end_step X n k left)
  have HSTOP := run.hid (fun k left => @end_stop X n k left)
  have HEND := run.hid (fun left => @end_end X n left)
  have HS0 : Hid (fitT X.reverse n = (X.length - X.length) + fitT (X.reverse.drop (X.length - X.length)) n) := by show _ = _; rw [Nat.sub_self]; simp
  generalize hN : X.length = N at *
  go_enter Try.func60, Try.ntmps60
  go_wp2
  go_loop [1, 5] (fun vw vk => ∃ k left : Nat, k ≤ N ∧ left ≤ n ∧ vk = .int .i64 k ∧ vw = .int .i64 left ∧ Hid (fitT X.reverse n = (N - k) + fitT (X.reverse.drop (N - k)) left)) (fun _ vk => (intOf vk).toNat)
  case atStart => exact ⟨N, n, by omega, by omega, rfl, rfl, HS0⟩
  case round =>
    obtain ⟨k, left, hk, hleft, rfl, rfl, HF⟩ := hrel
    by_cases h0 : 0 < k
    · obtain ⟨b1, o1, rfl, hlb1, hx0, hx1⟩ := HA.out (k - 1) (by omega)
      have H1 := run.hid (fun h => HSTEP.out k left h0 hk HF.out h)
      have H2 := run.hid (fun h => HSTOP.out k left h0 hk HF.out h)
      unfold t0 at H1 H2
      generalize X.getD (k - 1) (ByteArray.empty, 0) = q at *
      obtain ⟨qs, qw⟩ := q
      dsimp only at hx0 hx1 H1 H2
      clear HA HSTEP HSTOP HEND hN HF HS0
      obtain ⟨k, rfl⟩ : ∃ m, k = m + 1 := ⟨k - 1, by omega⟩
      rw [Nat.add_sub_cancel] at hx0 hx1 H1
      by_cases hle : qw ≤ left
      · have HN := run.hid (H1.out hle)
        clear H1 H2
        go_wp2
        go_round
        case rel => exact ⟨k, left - qw, by omega, by omega, by go_num, by go_num, HN⟩
        case measure => simp [intOf]
      · have HN := run.hid (H2.out hle)
        clear H1 H2
        go_wp2
        go_ret
        exact ⟨by rw [HN.out]; rfl, rfl⟩
    · obtain rfl : k = 0 := by omega
      have HN := run.hid (HEND.out left HF.out)
      clear HA HSTEP HSTOP HEND hN HF HS0
      go_wp2
      go_ret
      exact ⟨by rw [HN.out]; rfl, rfl⟩

end Go.Proofs.Ytgniobgadilpgaa.wrp
