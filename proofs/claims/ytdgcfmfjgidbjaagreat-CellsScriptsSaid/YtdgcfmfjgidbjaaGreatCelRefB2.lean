/-
  The walk of the document's cells: a blank.
  The walk of the document's cells: Size.
-/
import Derived.Test.YtdgcfmfjgidbjaaGreatCelC
section
namespace Go.Proofs.YtdgcfmfjgidbjaaGreat.cel
open Go Go.RowKit Go.Proofs
set_option linter.unusedVariables false
set_option maxRecDepth 100000 in
set_option maxHeartbeats 2000000 in
theorem refblank_any (s : SV) (hs : s.wf) (w : World) : Calls Tryz.prog 34 #[s.val] w fun e w' => e = .returned (blankT s).val ∧ Below w.heap.size w w' := by
  have H1 := run.hid (fun w => refcounts_any s hs w)
  clear hs
  unfold blankT
  generalize (overS s) = t at *
  obtain ⟨a, b, c⟩ := s
  obtain ⟨a', b', c'⟩ := t
  change Hid (∀ w, Calls _ _ #[.agg #[.int .i32 a, .int .i32 b, .int .u8 c]] _ fun e w' => e = .returned (.agg #[.int .i32 a', .int .i32 b', .int .u8 c']) ∧ _) at H1
  show Calls _ _ #[.agg #[.int .i32 a, .int .i32 b, .int .u8 c]] _ fun e w' => e = .returned (.agg #[.string ⟨#[32]⟩, .int .i8 1, .int .i32 a', .int .i32 b', .int .u8 c']) ∧ _
  have hb0 := run.below_two w (.cells #[.int .i32 a, .int .i32 b, .int .u8 c] 32) (.cells #[.string ⟨#[]⟩, .int .i8 0, .int .i32 0, .int .i32 0, .int .u8 0] 59)
  have k2 := heap_alloc2_new w (.cells #[.int .i32 a, .int .i32 b, .int .u8 c] 32) (.cells #[.string ⟨#[]⟩, .int .i8 0, .int .i32 0, .int .i32 0, .int .u8 0] 59)
  have KK := run.hid (And.intro hb0 k2)
  clear hb0 k2
  go_enter Tryz.func34, Tryz.ntmps34
  go_wp2_with fail
  refine (H1.out _).mono ?_
  rintro e w1 ⟨rfl, hb1⟩
  have k3 := (hb1.block (w.heap.size + 1) (by simp)).trans KK.out.2
  obtain ⟨⟨d0, d1, d2, d3, d4⟩, f0, f1, f2, f3, f4⟩ := blk5 k3
  have K9 := run.hid (set5 (a' := .string ⟨#[32]⟩) (b' := .int .i8 1) (c' := .int .i32 a') (d' := .int .i32 b') (e' := .int .u8 c') k3)
  have HB9 := run.hid (below5 (.string ⟨#[32]⟩) (.int .i8 1) (.int .i32 a') (.int .i32 b') (.int .u8 c') (KK.out.1.trans (hb1.mono KK.out.1.size)) (show w.heap.size ≤ w.heap.size + 1 by omega))
  clear k3 hb1 KK H1
  go_wp2
  refine bodyPost_ret (v := .agg #[.string ⟨#[32]⟩, .int .i8 1, .int .i32 a', .int .i32 b', .int .u8 c']) (results_cell_row rfl _ _ (w.heap.size + 1) _ _ _ _ rfl K9.out Tryz.underlying59 rfl (by kernel_rfl)) rfl ?_
  exact ⟨rfl, HB9.out⟩

end Go.Proofs.YtdgcfmfjgidbjaaGreat.cel
end
section
namespace Go.Proofs.YtdgcfmfjgidbjaaGreat.cel
open Go Go.RowKit Go.Proofs
set_option linter.unusedVariables false
set_option maxHeartbeats 1000000 in
theorem refsize_any (a c : Int) (w : World) : Calls Tryz.prog 33 #[.int .i64 a, .int .i64 c] w fun e w' => e = .returned (.bool (sizedOk a c)) ∧ w = w' := by
  by_cases h1 : 0 ≤ a
  · by_cases h2 : a ≤ 4096
    · by_cases h3 : 0 ≤ c
      · by_cases h4 : c ≤ 4096
        · have hs : sizedOk a c = decide (a * c ≤ 1048576) := by unfold sizedOk; simp [h1, h2, h3, h4]
          rw [hs]
          have hle := Int.mul_le_mul h2 h4 h3 (by omega)
          have h0 := Int.mul_nonneg h1 h3
          obtain ⟨q, hq⟩ : ∃ q, q = a * c := ⟨_, rfl⟩
          have hm := mul_is 3 hq.symm (by omega)
          rw [← hq]
          clear hs hle h0 hq
          go_enter Tryz.func33, Tryz.ntmps33
          go_wp2
          go_ret
          exact ⟨rfl, rfl⟩
        · have hs : sizedOk a c = false := by unfold sizedOk; simp; omega
          rw [hs]
          clear hs
          go_enter Tryz.func33, Tryz.ntmps33
          go_wp2
          go_ret
          exact ⟨rfl, rfl⟩
      · have hs : sizedOk a c = false := by unfold sizedOk; simp; omega
        rw [hs]
        clear hs
        go_enter Tryz.func33, Tryz.ntmps33
        go_wp2
        go_ret
        exact ⟨rfl, rfl⟩
    · have hs : sizedOk a c = false := by unfold sizedOk; simp; omega
      rw [hs]
      clear hs
      go_enter Tryz.func33, Tryz.ntmps33
      go_wp2
      go_ret
      exact ⟨rfl, rfl⟩
  · have hs : sizedOk a c = false := by unfold sizedOk; simp; omega
    rw [hs]
    clear hs
    go_enter Tryz.func33, Tryz.ntmps33
    go_wp2
    go_ret
    exact ⟨rfl, rfl⟩

end Go.Proofs.YtdgcfmfjgidbjaaGreat.cel
end
