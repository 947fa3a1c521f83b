/-
  The walks of the laws CellsNames and CellsNew.
-/
import Derived.Test.YtinnggiohalifaaCelWakes
import Derived.Test.YtinnggiohalifaaCelC
namespace Go.Proofs.Ytinnggiohalifaa.cel
open Go Go.RowKit Go.Proofs
set_option linter.unusedVariables false

set_option maxHeartbeats 1000000 in
theorem refsize_any (a c : Int) (w : World) : Calls Try.prog 15 #[.int .i64 a, .int .i64 c] w fun e w' => e = .returned (.bool (sizedOk a c)) ∧ w = w' := by
  by_cases h1 : 0 ≤ a
  · by_cases h2 : a ≤ 4096
    · by_cases h3 : 0 ≤ c
      · by_cases h4 : c ≤ 4096
        · have hs : sizedOk a c = decide (a * c ≤ 1048576) := by unfold sizedOk; simp [h1, h2, h3, h4]
          rw [hs]
          have hle := Int.mul_le_mul h2 h4 h3 (by omega)
          have h0 := Int.mul_nonneg h1 h3
          obtain ⟨q, hq⟩ : ∃ q, q = a * c := ⟨_, rfl⟩
          have hm := mul_is 3 hq.symm (by omega)
          rw [← hq]
          clear hs hle h0 hq
          go_enter Try.func15, Try.ntmps15
          go_wp2
          go_ret
          exact ⟨rfl, rfl⟩
        · have hs : sizedOk a c = false := by unfold sizedOk; simp; omega
          rw [hs]
          clear hs
          go_enter Try.func15, Try.ntmps15
          go_wp2
          go_ret
          exact ⟨rfl, rfl⟩
      · have hs : sizedOk a c = false := by unfold sizedOk; simp; omega
        rw [hs]
        clear hs
        go_enter Try.func15, Try.ntmps15
        go_wp2
        go_ret
        exact ⟨rfl, rfl⟩
    · have hs : sizedOk a c = false := by unfold sizedOk; simp; omega
      rw [hs]
      clear hs
      go_enter Try.func15, Try.ntmps15
      go_wp2
      go_ret
      exact ⟨rfl, rfl⟩
  · have hs : sizedOk a c = false := by unfold sizedOk; simp; omega
    rw [hs]
    clear hs
    go_enter Try.func15, Try.ntmps15
    go_wp2
    go_ret
    exact ⟨rfl, rfl⟩

set_option maxRecDepth 100000 in
set_option maxHeartbeats 1000000 in
theorem lawNames_any (w : World) : Calls Try.prog 3 #[] w fun e w' => e = .returned (.bool true) ∧ Below w.heap.size w w' := by
  have HC := run.hid (fun w => refcounts_any ⟨1, 0, 0⟩ (by unfold SV.wf w32; simp) w)
  change Hid (∀ w, Calls _ _ #[.agg #[.int .i32 1, .int .i32 0, .int .u8 0]] w fun e w' => e = .returned (.agg #[.int .i32 0, .int .i32 0, .int .u8 0]) ∧ _) at HC
  have HW := run.hid (fun w => wakes_any w)
  go_enter Try.func3, Try.ntmps3
  go_wp2_with fail
  refine (HC.out _).mono ?_
  rintro e w1 ⟨rfl, hb1⟩
  go_wp2_with fail
  refine (HW.out _).mono ?_
  rintro e w2 ⟨rfl, hb2⟩
  have hB := hb1.trans (hb2.mono hb1.size)
  go_wp2
  go_ret
  exact ⟨rfl, hB⟩

set_option maxRecDepth 100000 in
set_option maxHeartbeats 1000000 in
theorem lawNew_any (a c : Int) (w : World) : Calls Try.prog 4 #[.int .i64 a, .int .i64 c] w fun e w' => e = .returned (.bool true) ∧ Below w.heap.size w w' := by
  have HW := run.hid (fun w => wakes_any w)
  have HR := run.hid (fun w => refsize_any a c w)
  cases hs : sizedOk a c with
  | false =>
    have HN := run.hid (new_no a c w hs)
    rw [hs] at HR
    clear hs
    go_enter Try.func4, Try.ntmps4
    go_wp2_with fail
    refine HN.out.mono ?_
    rintro e w1 ⟨rfl, rfl⟩
    go_wp2_with fail
    refine (HR.out _).mono ?_
    rintro e w1 ⟨rfl, rfl⟩
    go_wp2_with fail
    refine (HW.out _).mono ?_
    rintro e w2 ⟨rfl, hb2⟩
    go_wp2
    go_ret
    exact ⟨rfl, hb2⟩
  | true =>
    rw [hs] at HR
    unfold sizedOk at hs
    simp only [decide_eq_true_eq] at hs
    obtain ⟨h1, h2, h3, h4, h5⟩ := hs
    obtain ⟨W, rfl⟩ : ∃ n : Nat, a = n := ⟨a.toNat, by omega⟩
    obtain ⟨H, rfl⟩ : ∃ n : Nat, c = n := ⟨c.toNat, by omega⟩
    have HN := run.hid (new_ok W H w (by omega) (by omega) (by rw [← Int.natCast_mul] at h5; omega))
    clear h1 h2 h3 h4 h5
    go_enter Try.func4, Try.ntmps4
    go_wp2_with fail
    refine HN.out.mono ?_
    rintro e w1 ⟨rfl, hbuf, hb1⟩
    have HS := run.hid (size_any _ _ _ _ _ w1 hbuf)
    clear hbuf
    go_wp2_with fail
    refine (HR.out _).mono ?_
    rintro e w1 ⟨rfl, rfl⟩
    go_wp2_with fail
    refine HS.out.mono ?_
    rintro e w2 ⟨rfl, hb2⟩
    have hB2 := hb1.trans (hb2.mono hb1.size)
    go_wp2_with fail
    refine (HW.out _).mono ?_
    rintro e w3 ⟨rfl, hb3⟩
    have hB3 := hB2.trans (hb3.mono hB2.size)
    go_wp2
    go_ret
    exact ⟨rfl, hB3⟩
end Go.Proofs.Ytinnggiohalifaa.cel
