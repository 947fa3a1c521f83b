/-
  The walks of the layer width, more: how many cells a number takes.
-/
import Derived.Test.YtgpgbbbcodnieaaWidWalks
namespace Go.Proofs.Ytgpgbbbcodnieaa.wid
open Go.RowKit Go.Proofs

theorem i64_eq {a b : Nat} (h : a = b) : Value.int .i64 a = Value.int .i64 b := by rw [h]
theorem ne8 {a b : Nat} (h : a ≠ b) : ((a : Int) == (b : Int)) = false := by simp; omega

theorem cells_zero {k : Nat} (h : k = 1 ∨ k = 2 ∨ k = 3 ∨ k = 4) : cellsOf k = 0 := by unfold cellsOf; rw [if_pos h]
theorem cells_two {k : Nat} (h : k = 7 ∨ k = 5) : cellsOf k = 2 := by unfold cellsOf; rw [if_neg (by omega), if_pos h]
theorem cells_one {k : Nat} (h : k ≠ 1 ∧ k ≠ 2 ∧ k ≠ 3 ∧ k ≠ 4 ∧ k ≠ 5 ∧ k ≠ 7) : cellsOf k = 1 := by unfold cellsOf; rw [if_neg (by omega), if_neg (by omega)]

set_option maxHeartbeats 1000000 in
theorem of_any (r : Int) (w : World) :
    Calls Try.prog 77 #[.int .i32 r] w fun e w' => e = .returned (.int .i64 (cellsAt r)) ∧ Below w.heap.size w w' := by
  have hle := kind_le r
  have hca := run.hid (show cellsAt r = cellsOf (kind r) from rfl)
  go_enter Try.func77, Try.ntmps77
  go_wp2_with fail
  refine (kind_any r w).mono ?_
  rintro e w1 ⟨rfl, hb⟩
  generalize kind r = k at *
  by_cases h1 : k = 1 ∨ k = 2 ∨ k = 3 ∨ k = 4
  · have hr := run.hid (hca.out.trans (cells_zero h1))
    clear hca
    rcases h1 with rfl | rfl | rfl | rfl
    all_goals
      go_wp2
      go_ret
      exact ⟨ret_eq (i64_eq hr.out.symm), hb⟩
  by_cases h2 : k = 7 ∨ k = 5
  · have hr := run.hid (hca.out.trans (cells_two h2))
    clear hca
    rcases h2 with rfl | rfl
    all_goals
      go_wp2
      go_ret
      exact ⟨ret_eq (i64_eq hr.out.symm), hb⟩
  have hr := run.hid (hca.out.trans (cells_one (by omega)))
  clear hca
  obtain ⟨e1, e2, e3, e4, e5, e7⟩ : k ≠ 1 ∧ k ≠ 2 ∧ k ≠ 3 ∧ k ≠ 4 ∧ k ≠ 5 ∧ k ≠ 7 := by omega
  go_wp2
  go_ret
  exact ⟨ret_eq (i64_eq hr.out.symm), hb⟩

end Go.Proofs.Ytgpgbbbcodnieaa.wid
