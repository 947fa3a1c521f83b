/-
  The walk of the helper of the laws of layer cells: a small buffer.
-/
import Derived.Test.YtdgcfmfjgidbjaaGreatCelPut
import Derived.Test.YtdgcfmfjgidbjaaGreatCelC
namespace Go.Proofs.YtdgcfmfjgidbjaaGreat.cel
open Go Go.RowKit Go.Proofs
open Go.Proofs.YtdgcfmfjgidbjaaGreat.wrp (TV t0 flow)
set_option linter.unusedVariables false

def allR : RT := ⟨0, 0, 4096, 4096⟩
theorem all_wf : allR.wf := by unfold RT.wf w64 allR; simp
set_option maxHeartbeats 400000 in
theorem all_any (w : World) : Calls Tryz.prog 30 #[] w fun e w' => e = .returned allR.val ∧ Below w.heap.size w w' := by
  have hb := run.below_one w (.cells #[.int .i64 0, .int .i64 0, .int .i64 4096, .int .i64 4096] 34)
  go_enter Tryz.func30, Tryz.ntmps30
  go_wp2
  refine bodyPost_ret (v := .agg #[.int .i64 0, .int .i64 0, .int .i64 4096, .int .i64 4096]) (results_cell_row rfl _ _ w.heap.size _ _ _ _ rfl (heap_alloc_new _ _) Tryz.underlying34 rfl (by kernel_rfl)) rfl ?_
  exact ⟨rfl, hb⟩

def wk1 : List CV := (putT 4 (letIn allR 4 1) 0 (overS s0) (farX 0) (fillT 4 4) (flow ⟨#[97, 228, 184, 150, 98]⟩)).2
def wk2 : List CV := (putT 4 (letIn allR 4 1) 0 (overS s0) (farX 1) wk1 (flow ⟨#[120]⟩)).2
theorem wk_n : putW (flow ⟨#[97, 228, 184, 150, 98]⟩) = 4 := by decide +kernel
theorem wk_m : putW (flow ⟨#[120]⟩) = 1 := by decide +kernel
theorem wk_head : wk1.getD (0 * 4 + 1) z0 = ⟨⟨#[228, 184, 150]⟩, 2, s0⟩ := by decide +kernel
theorem wk_rest : wk1.getD (0 * 4 + 2) z0 = ⟨⟨#[]⟩, 0, s0⟩ := by decide +kernel
theorem wk_half : wk2.getD (0 * 4 + 2) z0 = ⟨⟨#[32]⟩, 1, s0⟩ := by decide +kernel

set_option maxRecDepth 100000 in
set_option maxHeartbeats 8000000 in
theorem wakes_any (w : World) : Calls Tryz.prog 8 #[] w fun e w' => e = .returned (.bool true) ∧ Below w.heap.size w w' := by
  have HN := run.hid (new_ok 4 1 w (by omega) (by omega) (by omega))
  have HA := run.hid (fun w => all_any w)
  have HBL := run.hid (fun w => blank_any s0 w)
  change Hid (∀ w, Calls _ _ _ w fun e w' => e = .returned (.agg #[.int .i64 0, .int .i64 0, .int .i64 4096, .int .i64 4096]) ∧ _) at HA
  change Hid (∀ w, Calls _ _ #[.agg #[.int .i32 0, .int .i32 0, .int .u8 0]] w fun e w' => e = .returned (.agg #[.string ⟨#[32]⟩, .int .i8 1, .int .i32 0, .int .i32 0, .int .u8 0]) ∧ _) at HBL
  go_enter Tryz.func8, Tryz.ntmps8
  go_wp2_with fail
  refine HN.out.mono ?_
  rintro e w1 ⟨rfl, hbuf, hb1⟩
  have HB1 := run.hid (show Buf w1 (w.heap.size + 1) w.heap.size 4 1 (fillT 4 4) from hbuf)
  have hs1 := hb1.size
  clear hbuf HN
  go_wp2_with fail
  refine (HA.out _).mono ?_
  rintro e w2 ⟨rfl, hb2⟩
  have hB2 := hb1.trans (hb2.mono hs1)
  have HP := run.hid (put_any _ _ 4 1 _ 0 0 ⟨#[97, 228, 184, 150, 98]⟩ s0 allR w2 (HB1.out.below hb2) (fill_good 4 1) all_wf (by decide))
  rw [wk_n] at HP
  change Hid (Calls _ _ _ _ fun e w' => e = .returned (.int .i64 4) ∧ Buf w' _ _ 4 1 wk1 ∧ Good 4 1 wk1 ∧ _) at HP
  clear HB1 hb2 hb1
  go_wp2_with fail
  refine HP.out.mono ?_
  rintro e w3 ⟨rfl, hbuf, hG1, hg3⟩
  have hB3 := hB2.grown hg3 hB2.size (by rintro k ⟨⟩; exact Nat.le_refl _)
  have HB3 := run.hid hbuf
  have HC1 := run.hid (cell_in _ _ 4 1 _ 1 0 w3 hbuf (by omega) (by omega))
  rw [wk_head] at HC1
  change Hid (Calls _ _ _ _ fun e w' => e = .returned (.tuple #[.agg #[.string ⟨#[228, 184, 150]⟩, .int .i8 2, .int .i32 0, .int .i32 0, .int .u8 0], .bool true]) ∧ _) at HC1
  have HG1 := run.hid hG1
  clear hbuf hg3 HP hG1 hB2
  have hs3 := hB3.size
  go_wp2_with fail
  refine HC1.out.mono ?_
  rintro e w4 ⟨rfl, hb4⟩
  have hB4 := (hB3.trans (hb4.mono hs3)).alloc (hB3.trans (hb4.mono hs3)).size (.cells #[.string ⟨#[228, 184, 150]⟩, .int .i8 2, .int .i32 0, .int .i32 0, .int .u8 0] 59)
  have hbuf := (HB3.out.below hb4).alloc (.cells #[.string ⟨#[228, 184, 150]⟩, .int .i8 2, .int .i32 0, .int .i32 0, .int .u8 0] 59)
  have HK4 := run.hid (heap_alloc_new w4 (.cells #[.string ⟨#[228, 184, 150]⟩, .int .i8 2, .int .i32 0, .int .i32 0, .int .u8 0] 59))
  have HB4 := run.hid hbuf
  have HC2 := run.hid (cell_in _ _ 4 1 _ 2 0 _ hbuf (by omega) (by omega))
  rw [wk_rest] at HC2
  change Hid (Calls _ _ _ _ fun e w' => e = .returned (.tuple #[.agg #[.string ⟨#[]⟩, .int .i8 0, .int .i32 0, .int .i32 0, .int .u8 0], .bool true]) ∧ _) at HC2
  have hs4 : w.heap.size < w4.heap.size := by have h1 := HB3.out.lt.1; have h2 := hb4.size; omega
  clear hbuf HC1 hb4 hB3 hs3 HB3
  go_wp2_with fail
  refine HC2.out.mono ?_
  rintro e w6 ⟨rfl, hb6⟩
  have hB6 := (hB4.trans (hb6.mono hB4.size)).alloc (hB4.trans (hb6.mono hB4.size)).size (.cells #[.string ⟨#[]⟩, .int .i8 0, .int .i32 0, .int .i32 0, .int .u8 0] 59)
  have HB6 := run.hid ((HB4.out.below hb6).alloc (.cells #[.string ⟨#[]⟩, .int .i8 0, .int .i32 0, .int .i32 0, .int .u8 0] 59))
  have HK6 := run.hid (heap_alloc_new w6 (.cells #[.string ⟨#[]⟩, .int .i8 0, .int .i32 0, .int .i32 0, .int .u8 0] 59))
  have hs6 := hb6.size
  simp only [World.size_alloc] at hs6
  have HK46 := run.hid ((blk_old (.cells #[.string ⟨#[]⟩, .int .i8 0, .int .i32 0, .int .i32 0, .int .u8 0] 59) (by omega)).trans ((hb6.block w4.heap.size (by simp)).trans HK4.out))
  have hle6 : w.heap.size ≤ w6.heap.size := by omega
  clear HC2 hb6 hB4 HB4 HK4
  go_wp2_with fail
  refine (HA.out _).mono ?_
  rintro e w7 ⟨rfl, hb7⟩
  have hB7 := hB6.trans (hb7.mono hB6.size)
  have hs7 := hb7.size
  simp only [World.size_alloc] at hs7
  have HP := run.hid (put_any _ _ 4 1 _ 1 0 ⟨#[120]⟩ s0 allR w7 (HB6.out.below hb7) HG1.out all_wf (by decide))
  rw [wk_m] at HP
  change Hid (Calls _ _ _ _ fun e w' => e = .returned (.int .i64 1) ∧ Buf w' _ _ 4 1 wk2 ∧ Good 4 1 wk2 ∧ _) at HP
  have HK67 := run.hid ((hb7.block w6.heap.size (by simp)).trans HK6.out)
  have HK47 := run.hid ((hb7.block w4.heap.size (by simp; omega)).trans HK46.out)
  clear HB6 hb7 hB6 HA HK6 HK46 HG1
  go_wp2_with fail
  refine HP.out.mono ?_
  rintro e w8 ⟨rfl, hbuf, -, hg8⟩
  have hB8 := hB7.grown hg8 hB7.size (by rintro k ⟨⟩; exact Nat.le_refl _)
  have HC3 := run.hid (cell_in _ _ 4 1 _ 2 0 w8 hbuf (by omega) (by omega))
  rw [wk_half] at HC3
  change Hid (Calls _ _ _ _ fun e w' => e = .returned (.tuple #[.agg #[.string ⟨#[32]⟩, .int .i8 1, .int .i32 0, .int .i32 0, .int .u8 0], .bool true]) ∧ _) at HC3
  have hs8 := hg8.size
  have hlt4 : w.heap.size < w4.heap.size := by omega
  have HK68 := run.hid ((hg8.block w6.heap.size (by omega) (by simp; omega)).trans HK67.out)
  have HK48 := run.hid ((hg8.block w4.heap.size (by omega) (by simp; omega)).trans HK47.out)
  clear hbuf hg8 HP hB7 HK67 HK47
  go_wp2_with fail
  refine HC3.out.mono ?_
  rintro e w9 ⟨rfl, hb9⟩
  have hs9 := hb9.size
  have hB9 := (hB8.trans (hb9.mono hB8.size)).alloc (hB8.trans (hb9.mono hB8.size)).size (.cells #[.string ⟨#[32]⟩, .int .i8 1, .int .i32 0, .int .i32 0, .int .u8 0] 59)
  have K9 := run.hid (And.intro (heap_alloc_new w9 (.cells #[.string ⟨#[32]⟩, .int .i8 1, .int .i32 0, .int .i32 0, .int .u8 0] 59)) (show w9.heap.size < w9.heap.size + 1 by omega))
  have K6 := run.hid (And.intro ((blk_old (.cells #[.string ⟨#[32]⟩, .int .i8 1, .int .i32 0, .int .i32 0, .int .u8 0] 59) (by omega)).trans ((hb9.block w6.heap.size (by omega)).trans HK68.out)) (show w6.heap.size < w9.heap.size + 1 by omega))
  have K4 := run.hid (And.intro ((blk_old (.cells #[.string ⟨#[32]⟩, .int .i8 1, .int .i32 0, .int .i32 0, .int .u8 0] 59) (by omega)).trans ((hb9.block w4.heap.size (by omega)).trans HK48.out)) (show w4.heap.size < w9.heap.size + 1 by omega))
  have HB9 := run.hid hB9
  have hle9 : w.heap.size ≤ w9.heap.size + 1 := by omega
  clear HC3 hb9 hB8 HK68 HK48 hB9
  go_upto_region 9 with fail
  have hWs : (w9.alloc (.cells #[.string ⟨#[32]⟩, .int .i8 1, .int .i32 0, .int .i32 0, .int .u8 0] 59)).heap.size = w9.heap.size + 1 := by simp
  generalize hW : w9.alloc (.cells #[.string ⟨#[32]⟩, .int .i8 1, .int .i32 0, .int .i32 0, .int .u8 0] 59) = wA at *
  generalize w9.heap.size = n9 at *
  generalize w6.heap.size = n6 at *
  generalize w4.heap.size = n4 at *
  refine lx.region (fun D X => Below (n9 + 1) wA X) (by kernel_rfl) (by kernel_rfl) (by kernel_rfl) (drewB (Below.refl _ _)) ?_
  refine lx.begin 82 rfl ?_
  refine lx.o_pure (.int .i64 4) (fun _ _ h => by first | rfl | kernel_rfl) ?_
  refine lx.o_pure (.bool true) (fun _ _ h => by first | rfl | kernel_rfl) ?_
  refine lx.o_pure (.bool true) (fun _ _ h => by first | rfl | kernel_rfl) ?_
  refine lx.o_pure (.int .i64 1) (fun _ _ h => by first | rfl | kernel_rfl) ?_
  refine lx.o_pure (.bool true) (fun _ _ h => by first | rfl | kernel_rfl) ?_
  refine lx.o_pure (.bool true) (fun _ _ h => by first | rfl | kernel_rfl) ?_
  refine lx.o_pure (.bool true) (fun _ _ h => by first | rfl | kernel_rfl) ?_
  refine lx.o_pure (.bool true) (fun _ _ h => by first | rfl | kernel_rfl) ?_
  refine lx.o_pure (.bool true) (fun _ _ h => by first | rfl | kernel_rfl) ?_
  refine lx.o_pure (.bool true) (fun _ _ h => by first | rfl | kernel_rfl) ?_
  refine lx.o_pure (.bool true) (fun _ _ h => by first | rfl | kernel_rfl) ?_
  refine lx.o_pure (.bool true) (fun _ _ h => by first | rfl | kernel_rfl) ?_
  refine lx.o_pure (.bool true) (fun _ _ h => by first | rfl | kernel_rfl) ?_
  refine lx.o_pure (.pointer (some ⟨n4, 1, none⟩)) (fun _ _ h => by first | rfl | kernel_rfl) ?_
  refine lx.o_pure (.int .i8 2) (fun D X hC => lx.run_load rfl rfl Tryz.underlying57 rfl (blk_cell (hC.b4 K4.out) 1)) ?_
  refine lx.o_pure (.bool true) (fun _ _ h => by first | rfl | kernel_rfl) ?_
  refine lx.o_pure (.bool true) (fun _ _ h => by first | rfl | kernel_rfl) ?_
  refine lx.o_pure (.bool true) (fun _ _ h => by first | rfl | kernel_rfl) ?_
  refine lx.o_pure (.pointer (some ⟨n4, 0, none⟩)) (fun _ _ h => by first | rfl | kernel_rfl) ?_
  refine lx.o_pure (.string ⟨#[228, 184, 150]⟩) (fun D X hC => lx.run_load rfl rfl Tryz.underlying9 rfl (blk_cell (hC.b4 K4.out) 0)) ?_
  refine lx.o_pure (.bool true) (fun _ _ h => by first | rfl | kernel_rfl) ?_
  refine lx.o_pure (.bool true) (fun _ _ h => by first | rfl | kernel_rfl) ?_
  refine lx.o_pure (.bool true) (fun _ _ h => by first | rfl | kernel_rfl) ?_
  refine lx.o_pure (.pointer (some ⟨n6, 1, none⟩)) (fun _ _ h => by first | rfl | kernel_rfl) ?_
  refine lx.o_pure (.int .i8 0) (fun D X hC => lx.run_load rfl rfl Tryz.underlying57 rfl (blk_cell (hC.b4 K6.out) 1)) ?_
  refine lx.o_pure (.bool true) (fun _ _ h => by first | rfl | kernel_rfl) ?_
  refine lx.o_pure (.bool true) (fun _ _ h => by first | rfl | kernel_rfl) ?_
  refine lx.o_pure (.bool true) (fun _ _ h => by first | rfl | kernel_rfl) ?_
  refine lx.o_pure (.pointer (some ⟨n6, 0, none⟩)) (fun _ _ h => by first | rfl | kernel_rfl) ?_
  refine lx.o_pure (.string ⟨#[]⟩) (fun D X hC => lx.run_load rfl rfl Tryz.underlying9 rfl (blk_cell (hC.b4 K6.out) 0)) ?_
  refine lx.o_pure (.bool true) (fun _ _ h => by first | rfl | kernel_rfl) ?_
  refine lx.o_pure (.bool true) (fun _ _ h => by first | rfl | kernel_rfl) ?_
  refine lx.o_pure (.bool true) (fun _ _ h => by first | rfl | kernel_rfl) ?_
  refine lx.o_pure (.agg #[.string ⟨#[32]⟩, .int .i8 1, .int .i32 0, .int .i32 0, .int .u8 0]) (fun D X hC => run_loadrow rfl rfl (hC.b4 K9.out) Tryz.underlying59 rfl (by kernel_rfl)) ?_
  refine lx.o_pure (.agg #[.int .i32 0, .int .i32 0, .int .u8 0]) (fun _ _ h => by first | rfl | kernel_rfl) ?_
  refine lx.o_call (.agg #[.string ⟨#[32]⟩, .int .i8 1, .int .i32 0, .int .i32 0, .int .u8 0]) 31 #[.agg #[.int .i32 0, .int .i32 0, .int .u8 0]] (fun _ _ _ => lx.run_fn rfl rfl rfl (enters_of Tryz.func31 (by kernel_rfl) rfl)) (fun D X hC => (HBL.out X).mono fun e w2 ⟨he, hw⟩ => ⟨he, hC.trans (hw.mono (by have := hC.size; omega))⟩) ?_
  refine lx.o_pure (.bool true) (fun _ _ h => by first | rfl | kernel_rfl) ?_
  refine lx.o_pure (.bool true) (fun _ _ h => by first | rfl | kernel_rfl) ?_
  refine lx.o_pure (.bool true) (fun _ _ h => by first | rfl | kernel_rfl) ?_
  refine lx.o_end ?_
  simp only [lx.ov]
  rintro X d hd hC
  have HF := run.hid (HB9.out.trans (hC.mono hle9))
  clear hC hd HBL K4 K6 K9 HB9
  go_simp
  go_wp2
  go_ret
  exact ⟨rfl, HF.out⟩
end Go.Proofs.YtdgcfmfjgidbjaaGreat.cel
