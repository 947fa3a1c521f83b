/-
  The walk of a helper of the laws: a number as one from lo to hi.
-/
import Derived.Test.YtbfheehaagcmeaaDoorCanAlive
namespace Go.Proofs.YtbfheehaagcmeaaDoor.can
open Go.RowKit Go.Proofs
set_option linter.unusedVariables false

def nearT (n lo hi : Int) : Int := lo + n % (hi - lo + 1)
theorem near_in {n lo hi : Int} (h : lo ≤ hi) : lo ≤ nearT n lo hi ∧ nearT n lo hi ≤ hi := by
  unfold nearT
  have h1 := Int.emod_nonneg n (show hi - lo + 1 ≠ 0 by omega)
  have h2 := Int.emod_lt_of_pos n (show 0 < hi - lo + 1 by omega)
  omega
theorem tmod_near {n m : Int} (hm : 0 < m) : n % m = if n.tmod m < 0 then n.tmod m + m else n.tmod m := by
  rcases Int.le_total 0 n with h | h
  · rw [Int.tmod_eq_emod_of_nonneg h, if_neg (by have := Int.emod_nonneg n (show m ≠ 0 by omega); omega)]
  · obtain ⟨k, rfl⟩ : ∃ k, n = -k := ⟨-n, by omega⟩
    rw [Int.neg_tmod, Int.tmod_eq_emod_of_nonneg (by omega)]
    have h1 := Int.emod_nonneg k (show m ≠ 0 by omega)
    have h2 := Int.emod_lt_of_pos k hm
    have h3 := Int.mul_ediv_add_emod k m
    split
    · rename_i h4
      have : (-k) = m * (-(k / m) - 1) + (-(k % m) + m) := by rw [Int.mul_sub, Int.mul_neg]; omega
      rw [this, Int.mul_add_emod_self_left, Int.emod_eq_of_lt (by omega) (by omega)]
    · rename_i h4
      have h5 : k % m = 0 := by omega
      have : (-k) = m * (-(k / m)) := by rw [Int.mul_neg]; omega
      rw [this, Int.mul_emod_right, h5]; rfl

set_option maxHeartbeats 1000000 in
theorem near_any (n lo hi : Int) (w : World) (hn : -9223372036854775808 ≤ n ∧ n ≤ 9223372036854775807) (h1 : lo ≤ hi) (h2 : -1000000 ≤ lo) (h3 : hi ≤ 1000000) :
    Calls Tryd.prog 17 #[.int .i64 n, .int .i64 lo, .int .i64 hi] w fun e w' => e = .returned (.int .i64 (nearT n lo hi)) ∧ w = w' := by
  obtain ⟨m, hm⟩ : ∃ m, m = hi - lo + 1 := ⟨_, rfl⟩
  have hT := run.hid (show nearT n lo hi = lo + (if n.tmod m < 0 then n.tmod m + m else n.tmod m) by rw [hm, ← tmod_near (by omega)]; rfl)
  have hb := run.hid (near_in (n := n) h1)
  have hr1 : -m < n.tmod m ∧ n.tmod m < m := by
    have h1 := Int.tmod_lt_of_pos n (show 0 < m by omega)
    have h2 := Int.tmod_lt_of_pos (-n) (show 0 < m by omega)
    rw [Int.neg_tmod] at h2
    omega
  have hk : binOp .rem 3 (.int .i64 n) (.int .i64 m) = pure (.int .i64 (n.tmod m)) := by
    show Op.intDiv .rem .i64 n m = _
    unfold Op.intDiv
    rw [if_neg (by omega)]
  obtain ⟨r, hr⟩ : ∃ r, r = n.tmod m := ⟨_, rfl⟩
  rw [← hr] at hT hr1 hk
  have hms : hi - lo + 1 = m := hm.symm
  have hm2 : m ≤ 2000001 ∧ 1 ≤ m := by omega
  clear hr hm
  by_cases h0 : r < 0
  · rw [if_pos h0] at hT
    go_enter Tryd.func17, Tryd.ntmps17
    go_wp2
    go_ret
    exact ⟨by rw [hT.out]; rfl, rfl⟩
  · rw [if_neg h0] at hT
    go_enter Tryd.func17, Tryd.ntmps17
    go_wp2
    go_ret
    exact ⟨by rw [hT.out]; rfl, rfl⟩
end Go.Proofs.YtbfheehaagcmeaaDoor.can
