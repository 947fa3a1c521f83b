/-
  The walks of the layer cells: the buffer's cells that a rectangle lets in; a buffer's size.
-/
import Derived.Test.YtinnggiohalifaaCelSet
namespace Go.Proofs.Ytinnggiohalifaa.cel
open Go Go.RowKit Go.Proofs
set_option linter.unusedVariables false

theorem zero_rect (w : World) : (zeroValue 58).run Try.prog w = .ok (.agg #[.int .i64 0, .int .i64 0, .int .i64 0, .int .i64 0]) w := by kernel_rfl

set_option maxRecDepth 100000 in
set_option maxHeartbeats 4000000 in
theorem window_any (b g W H : Nat) (L : List CV) (r : RT) (w : World) (h : Buf w b g W H L) (hr : r.wf) : Calls Try.prog 63 #[.pointer (some ⟨b, 0, none⟩), r.val] w fun e w' => e = .returned (meetT r ⟨0, 0, W, H⟩).val ∧ Below w.heap.size w w' := by
  have hW := h.wide
  have hH := h.high
  have H1 := run.hid (fun w => meet_any r ⟨0, 0, W, H⟩ w hr (by unfold RT.wf w64; simp only; omega))
  generalize meetT r ⟨0, 0, W, H⟩ = m at *
  obtain ⟨x, y, z, u⟩ := r
  obtain ⟨mx, my, mz, mu⟩ := m
  change Hid (∀ w, Calls _ _ #[.agg #[.int .i64 x, .int .i64 y, .int .i64 z, .int .i64 u], .agg #[.int .i64 0, .int .i64 0, .int .i64 W, .int .i64 H]] w fun e w' => e = .returned (.agg #[.int .i64 mx, .int .i64 my, .int .i64 mz, .int .i64 mu]) ∧ _) at H1
  show Calls _ _ #[_, .agg #[.int .i64 x, .int .i64 y, .int .i64 z, .int .i64 u]] _ fun e w' => e = .returned (.agg #[.int .i64 mx, .int .i64 my, .int .i64 mz, .int .i64 mu]) ∧ _
  have HBF := run.hid h
  have k0 : (((w.alloc (.cells #[.int .i64 x, .int .i64 y, .int .i64 z, .int .i64 u] 58)).alloc (.cells #[.int .i64 0, .int .i64 0, .int .i64 0, .int .i64 0] 58)).drew).heap[w.heap.size]? = some (.cells #[.int .i64 x, .int .i64 y, .int .i64 z, .int .i64 u] 58 (0, 0)) := heap_alloc2_old w _ _
  have k1 : (((w.alloc (.cells #[.int .i64 x, .int .i64 y, .int .i64 z, .int .i64 u] 58)).alloc (.cells #[.int .i64 0, .int .i64 0, .int .i64 0, .int .i64 0] 58)).drew).heap[w.heap.size + 1]? = some (.cells #[.int .i64 0, .int .i64 0, .int .i64 0, .int .i64 0] 58 (0, 0)) := heap_alloc2_new w _ _
  have hB := drewB (run.below_two w (.cells #[.int .i64 x, .int .i64 y, .int .i64 z, .int .i64 u] 58) (.cells #[.int .i64 0, .int .i64 0, .int .i64 0, .int .i64 0] 58))
  have KK := run.hid (show _ ∧ _ ∧ _ from ⟨k0, k1, hB⟩)
  clear h k0 k1 hB hr
  go_enter Try.func63, Try.ntmps63
  go_upto_region 1 with fail
  refine lx.region (fun D W' => W'.heap[w.heap.size]? = some (.cells #[.int .i64 x, .int .i64 y, .int .i64 z, .int .i64 u] 58 (0, 0)) ∧ Below w.heap.size w W' ∧ (D 11 = false → W'.heap[w.heap.size + 1]? = some (.cells #[.int .i64 0, .int .i64 0, .int .i64 0, .int .i64 0] 58 (0, 0))) ∧ (D 11 = true → W'.heap[w.heap.size + 1]? = some (.cells #[.int .i64 mx, .int .i64 my, .int .i64 mz, .int .i64 mu] 58 (0, 0)))) (by kernel_rfl) (by kernel_rfl) (by kernel_rfl) ⟨KK.out.1, KK.out.2.2, fun _ => KK.out.2.1, fun h => by cases h⟩ ?_
  refine lx.begin 16 rfl ?_
  refine lx.o_pure (.agg #[.int .i64 x, .int .i64 y, .int .i64 z, .int .i64 u]) (fun D W' hC => run_loadrow rfl rfl hC.1 Try.underlying58 rfl (by kernel_rfl)) ?_
  refine lx.o_pure (.pointer (some ⟨b, 0, none⟩)) (fun _ _ h => by first | rfl | kernel_rfl) ?_
  refine lx.o_pure (.pointer (some ⟨b, 0, none⟩)) (fun _ _ h => by first | rfl | kernel_rfl) ?_
  refine lx.o_pure (.pointer (some ⟨b, 0, none⟩)) (fun _ _ h => by first | rfl | kernel_rfl) ?_
  refine lx.o_pure (.int .i64 W) (fun D W' hC => lx.run_load rfl rfl Try.underlying3 rfl (HBF.out.below hC.2.1).h0) ?_
  refine lx.o_pure (.pointer (some ⟨b, 0, none⟩)) (fun _ _ h => by first | rfl | kernel_rfl) ?_
  refine lx.o_pure (.pointer (some ⟨b, 0, none⟩)) (fun _ _ h => by first | rfl | kernel_rfl) ?_
  refine lx.o_pure (.pointer (some ⟨b, 1, none⟩)) (fun _ _ h => by first | rfl | kernel_rfl) ?_
  refine lx.o_pure (.int .i64 H) (fun D W' hC => lx.run_load rfl rfl Try.underlying3 rfl (HBF.out.below hC.2.1).h1) ?_
  refine lx.o_pure (.agg #[.int .i64 0, .int .i64 0, .int .i64 W, .int .i64 H]) (fun _ _ h => by first | rfl | kernel_rfl) ?_
  refine lx.o_call (.agg #[.int .i64 mx, .int .i64 my, .int .i64 mz, .int .i64 mu]) 81 #[.agg #[.int .i64 x, .int .i64 y, .int .i64 z, .int .i64 u], .agg #[.int .i64 0, .int .i64 0, .int .i64 W, .int .i64 H]] (fun _ _ _ => lx.run_fn rfl rfl rfl (enters_of Try.func81 (by kernel_rfl) rfl)) (fun D W' hC => (H1.out W').mono fun e w2 ⟨he, hw⟩ => ⟨he, ?_⟩) ?_
  · obtain ⟨c1, c2, c3, c4⟩ := hC
    have hlt := (Array.getElem?_eq_some_iff.1 c1).1
    refine ⟨(hw.block _ hlt).trans c1, c2.trans (hw.mono c2.size), fun hd => ?_, fun hd => ?_⟩
    · have c5 := c3 hd
      exact (hw.block _ (Array.getElem?_eq_some_iff.1 c5).1).trans c5
    · have c5 := c4 hd
      exact (hw.block _ (Array.getElem?_eq_some_iff.1 c5).1).trans c5
  refine lx.o_put (fun D W' h0 hdep hC => ?_) ?_
  · obtain ⟨c1, c2, c3, c4⟩ := hC
    have h0' : D 11 = false := h0
    have c5 := c3 h0'
    obtain ⟨⟨d0, d1, d2, d3⟩, g0, g1, g2, g3⟩ := blk4 c5
    refine ⟨_, ?_, (blk_other _ (show w.heap.size ≠ w.heap.size + 1 by omega)).trans ((blk_other _ (show w.heap.size ≠ w.heap.size + 1 by omega)).trans ((blk_other _ (show w.heap.size ≠ w.heap.size + 1 by omega)).trans ((blk_other _ (show w.heap.size ≠ w.heap.size + 1 by omega)).trans c1))), below4 _ _ _ _ c2 (show w.heap.size ≤ w.heap.size + 1 by omega), (fun h => by cases h), fun _ => set4 c5⟩
    unfold execOp
    simp only
    rw [show lx.look _ _ (Operand.tmp 4) = Value.pointer (some ⟨w.heap.size + 1, 0, none⟩) from rfl, show lx.look _ _ (Operand.tmp 15) = Value.agg #[.int .i64 mx, .int .i64 my, .int .i64 mz, .int .i64 mu] from rfl]
    simp [go_sem, d0, d1, d2, d3, g0, g1, g2, g3]
  refine lx.o_end ?_
  simp only [lx.ov]
  rintro W' d hd ⟨-, c2, -, c4⟩
  have K9 := run.hid (c4 (hd 11 (by decide)))
  have HB9 := run.hid c2
  clear c2 c4 hd KK H1 HBF
  go_simp
  go_wp2
  refine bodyPost_ret (v := .agg #[.int .i64 mx, .int .i64 my, .int .i64 mz, .int .i64 mu]) (results_cell_row rfl _ _ (w.heap.size + 1) _ _ _ _ rfl K9.out Try.underlying58 rfl (by kernel_rfl)) rfl ?_
  exact ⟨rfl, HB9.out⟩
end Go.Proofs.Ytinnggiohalifaa.cel
