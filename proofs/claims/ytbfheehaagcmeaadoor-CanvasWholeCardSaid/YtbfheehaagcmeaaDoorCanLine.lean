/-
  The walks of the layer canvas: a line.
-/
import Derived.Test.YtbfheehaagcmeaaDoorCanNew
namespace Go.Proofs.YtbfheehaagcmeaaDoor.can
open Go.RowKit Go.Proofs
set_option linter.unusedVariables false

def inPlane (n : Int) : Bool := decide (-1048576 ≤ n ∧ n < 1048576)

theorem all_take_succ {l : List Int} {k : Nat} (h : k < l.length) (ha : (l.take k).all inPlane = true) (hp : inPlane l[k] = true) : (l.take (k + 1)).all inPlane = true := by
  rw [List.take_succ_eq_append_getElem h, List.all_append, ha]
  simp [hp]

set_option maxHeartbeats 1000000 in
theorem plane_any (l : List Int) (b c : Nat) (w : World) (hl : l.length ≤ 16) (hc : ∀ k, k < l.length → w.cell? ⟨b, k, none⟩ = some (.int .i64 (l.getD k 0))) :
    Calls Tryd.prog 43 #[.slice (some ⟨b, 0, none⟩) l.length c] w fun e w' => e = .returned (.bool (l.all inPlane)) ∧ w = w' := by
  have HA := run.hid (fun k (h : k < l.length) (ha : (l.take k).all inPlane = true) (hp : inPlane l[k] = true) => all_take_succ h ha hp)
  obtain ⟨N, hN⟩ : ∃ N, N = l.length := ⟨_, rfl⟩
  rw [← hN] at hl hc ⊢
  have HC := run.hid hc
  have HN := run.hid hN
  clear hc hN
  go_enter Tryd.func43, Tryd.ntmps43
  go_wp2
  go_loop [7] (fun i => ∃ k : Nat, k ≤ N ∧ i = .int .i64 k ∧ Hid ((l.take k).all inPlane = true)) (fun i => N - (intOf i).toNat)
  case atStart => exact ⟨0, Nat.zero_le _, rfl, rfl⟩
  case round =>
    obtain ⟨k, hk, rfl, HT⟩ := hrel
    by_cases hlt : k < N
    · have hcell := HC.out k hlt
      have hlt' : k < l.length := by rw [← HN.out]; exact hlt
      have hg : l.getD k 0 = l[k] := by simp [List.getD_eq_getElem?_getD, hlt']
      have HA2 := run.hid (HA.out k hlt' HT.out)
      have HM := run.hid (show l[k] ∈ l from List.getElem_mem _)
      rw [hg] at hcell
      clear hg HA HC
      generalize l[k] = z at *
      by_cases h1 : z < -1048576
      · have hf : l.all inPlane = false := by rw [List.all_eq_false]; exact ⟨z, HM.out, by unfold inPlane; simp; omega⟩
        have HF := run.hid hf
        clear hf HT HA2 HM HN
        go_wp2
        go_ret
        exact ⟨by rw [HF.out]; rfl, rfl⟩
      have h1' : -1048576 ≤ z := by omega
      by_cases h2 : 1048576 ≤ z
      · have hf : l.all inPlane = false := by rw [List.all_eq_false]; exact ⟨z, HM.out, by unfold inPlane; simp; omega⟩
        have HF := run.hid hf
        clear hf HT HA2 HM HN
        go_wp2
        go_ret
        exact ⟨by rw [HF.out]; rfl, rfl⟩
      have h2' : z < 1048576 := by omega
      have HT2 := run.hid (HA2.out (by unfold inPlane; simp; omega))
      clear HT HA2 HM HN
      go_wp2
      go_round
      case rel => exact ⟨k + 1, by omega, by go_num, HT2⟩
      case measure => simp [intOf]; omega
    · have HF := run.hid (show l.all inPlane = true by have := HT.out; rwa [List.take_of_length_le (by have := HN.out; omega)] at this)
      clear HT HA HC HN
      go_wp2
      go_ret
      exact ⟨by rw [HF.out]; rfl, rfl⟩

/-- how far along d the step k of n is -/
def stepT (d k n : Int) : Int := if d < 0 then -((2 * k * (-d) + n) / (2 * n)) else (2 * k * d + n) / (2 * n)

theorem mul_bd {a b : Int} {m : Int} (ha : 0 ≤ a) (hb : 0 ≤ b) (h1 : a ≤ 4194304) (h2 : b ≤ 2097152) : 0 ≤ a * b ∧ a * b ≤ 8796093022208 := by
  refine ⟨Int.mul_nonneg ha hb, ?_⟩
  have := Int.mul_le_mul h1 h2 hb (by omega : (0 : Int) ≤ 4194304)
  omega

set_option maxHeartbeats 1000000 in
theorem step_pos (d k n : Int) (w : World) (hd : 0 ≤ d) (hd' : d ≤ 2097152) (hk : 0 ≤ k) (hk' : k ≤ 2097152) (hn : 1 ≤ n) (hn' : n ≤ 2097152) :
    Calls Tryd.prog 44 #[.int .i64 d, .int .i64 k, .int .i64 n] w fun e w' => e = .returned (.int .i64 (stepT d k n)) ∧ w = w' := by
  have hT := run.hid (show stepT d k n = (2 * k * d + n) / (2 * n) by unfold stepT; rw [if_neg (by omega)])
  obtain ⟨hm1, hm2⟩ := mul_bd (m := 0) (show 0 ≤ 2 * k by omega) hd (by omega) hd'
  go_enter Tryd.func44, Tryd.ntmps44
  go_wp2
  go_ret
  exact ⟨by rw [hT.out]; rfl, rfl⟩

theorem stepT_neg {d k n : Int} (hd : d < 0) : stepT d k n = - stepT (-d) k n := by
  unfold stepT
  rw [if_pos hd, if_neg (by omega)]

/-- a step goes no further than to the end -/
theorem stepT_le {d k n : Int} (hd : 0 ≤ d) (hk : 0 ≤ k) (hkn : k ≤ n) (hn : 1 ≤ n) : 0 ≤ stepT d k n ∧ stepT d k n ≤ d := by
  unfold stepT
  rw [if_neg (by omega)]
  have h0 : 0 ≤ 2 * k * d := Int.mul_nonneg (by omega) hd
  refine ⟨Int.ediv_nonneg (by omega) (by omega), ?_⟩
  have h1 : 2 * k * d ≤ 2 * n * d := Int.mul_le_mul_of_nonneg_right (by omega) hd
  have h2 : (2 * k * d + n) / (2 * n) ≤ (2 * n * d + n) / (2 * n) := Int.ediv_le_ediv (by omega) (by omega)
  have h3 : (2 * n * d + n) / (2 * n) = d + n / (2 * n) := by
    rw [show 2 * n * d + n = n + d * (2 * n) by rw [Int.mul_comm d (2 * n)]; omega, Int.add_mul_ediv_right _ _ (by omega)]; omega
  have h4 : n / (2 * n) = 0 := Int.ediv_eq_zero_of_lt (by omega) (by omega)
  omega
theorem stepT_abs {d k n : Int} (hk : 0 ≤ k) (hkn : k ≤ n) (hn : 1 ≤ n) : (0 ≤ d → 0 ≤ stepT d k n ∧ stepT d k n ≤ d) ∧ (d ≤ 0 → d ≤ stepT d k n ∧ stepT d k n ≤ 0) := by
  refine ⟨fun hd => stepT_le hd hk hkn hn, fun hd => ?_⟩
  by_cases h0 : d = 0
  · subst h0
    have := stepT_le (d := 0) (Int.le_refl _) hk hkn hn
    omega
  · have := stepT_le (d := -d) (by omega) hk hkn hn
    rw [stepT_neg (by omega)]
    omega

set_option maxHeartbeats 1000000 in
theorem step_any (d k n : Int) (w : World) (hd : -2097152 ≤ d) (hd' : d ≤ 2097152) (hk : 0 ≤ k) (hkn : k ≤ n) (hn : 1 ≤ n) (hn' : n ≤ 2097152) :
    Calls Tryd.prog 44 #[.int .i64 d, .int .i64 k, .int .i64 n] w fun e w' => e = .returned (.int .i64 (stepT d k n)) ∧ w = w' := by
  by_cases h0 : d < 0
  · have hT := run.hid (stepT_neg (k := k) (n := n) h0)
    obtain ⟨hb1, hb2⟩ := stepT_le (d := -d) (by omega) hk hkn hn
    have HC := run.hid (step_pos (-d) k n w (by omega) (by omega) hk (by omega) hn hn')
    rw [hT.out]
    clear hT
    go_enter Tryd.func44, Tryd.ntmps44
    go_wp2_with fail
    refine HC.out.mono ?_
    rintro e w1 ⟨rfl, rfl⟩
    clear HC
    go_wp2
    go_ret
    exact ⟨rfl, rfl⟩
  · exact step_pos d k n w (by omega) hd' hk (by omega) hn hn'

end Go.Proofs.YtbfheehaagcmeaaDoor.can
