/-
  The walks of the layer cells: a buffer made; its size.
-/
import Derived.Test.YtinnggiohalifaaCelLay
namespace Go.Proofs.Ytinnggiohalifaa.cel
open Go Go.RowKit Go.Proofs
set_option linter.unusedVariables false

def sizedOk (w h : Int) : Bool := decide (0 ≤ w ∧ w ≤ 4096 ∧ 0 ≤ h ∧ h ≤ 4096 ∧ w * h ≤ 1048576)

set_option maxHeartbeats 1000000 in
theorem sized_any (a c : Int) (w : World) : Calls Try.prog 44 #[.int .i64 a, .int .i64 c] w fun e w' => e = .returned (.bool (sizedOk a c)) ∧ w = w' := by
  by_cases h1 : 0 ≤ a
  · by_cases h2 : a ≤ 4096
    · by_cases h3 : 0 ≤ c
      · by_cases h4 : c ≤ 4096
        · have hs : sizedOk a c = decide (a * c ≤ 1048576) := by unfold sizedOk; simp [h1, h2, h3, h4]
          rw [hs]
          have hle := Int.mul_le_mul h2 h4 h3 (by omega)
          have h0 := Int.mul_nonneg h1 h3
          obtain ⟨q, hq⟩ : ∃ q, q = a * c := ⟨_, rfl⟩
          have hm := mul_is 3 hq.symm (by omega)
          rw [← hq]
          clear hs hle h0 hq
          go_enter Try.func44, Try.ntmps44
          go_wp2
          go_ret
          exact ⟨rfl, rfl⟩
        · have hs : sizedOk a c = false := by unfold sizedOk; simp; omega
          rw [hs]
          clear hs
          go_enter Try.func44, Try.ntmps44
          go_wp2
          go_ret
          exact ⟨rfl, rfl⟩
      · have hs : sizedOk a c = false := by unfold sizedOk; simp; omega
        rw [hs]
        clear hs
        go_enter Try.func44, Try.ntmps44
        go_wp2
        go_ret
        exact ⟨rfl, rfl⟩
    · have hs : sizedOk a c = false := by unfold sizedOk; simp; omega
      rw [hs]
      clear hs
      go_enter Try.func44, Try.ntmps44
      go_wp2
      go_ret
      exact ⟨rfl, rfl⟩
  · have hs : sizedOk a c = false := by unfold sizedOk; simp; omega
    rw [hs]
    clear hs
    go_enter Try.func44, Try.ntmps44
    go_wp2
    go_ret
    exact ⟨rfl, rfl⟩

theorem new_no (a c : Int) (w : World) (h : sizedOk a c = false) : Calls Try.prog 14 #[.int .i64 a, .int .i64 c] w fun e w' => e = .returned (.tuple #[.pointer none, .int .i64 5]) ∧ w = w' := by
  have HS := run.hid (sized_any a c w)
  rw [h] at HS
  clear h
  go_enter Try.func14, Try.ntmps14
  go_wp2_with fail
  refine HS.out.mono ?_
  rintro e w' ⟨rfl, rfl⟩
  go_wp2
  go_ret2
  exact ⟨rfl, rfl⟩

def b0 : CV := ⟨⟨#[32]⟩, 1, s0⟩
/-- the first k cells are blanks -/
def fillT (n k : Nat) : List CV := List.replicate k b0 ++ List.replicate (n - k) z0
theorem fill_length {n k : Nat} (h : k ≤ n) : (fillT n k).length = n := by unfold fillT; simp; omega
theorem fill_next {n k : Nat} (h : k < n) : (fillT n k).set k b0 = fillT n (k + 1) := by
  unfold fillT
  rw [List.set_append_right _ _ (by simp), List.length_replicate, Nat.sub_self, show n - k = (n - (k + 1)) + 1 by omega, List.replicate_succ, List.set_cons_zero, List.replicate_succ', List.append_assoc]
  rfl
theorem fill_good (W H : Nat) : Good W H (fillT (W * H) (W * H)) := by
  refine ⟨fill_length (Nat.le_refl _), fun i hi => .inl ?_⟩
  unfold wd fillT
  rw [Nat.sub_self, List.replicate_zero, List.append_nil]
  simp [List.getD_eq_getElem?_getD, hi, b0]

theorem buf_new (W H : Nat) (w : World) (h1 : W ≤ 4096) (h2 : H ≤ 4096) (h3 : W * H ≤ 1048576) :
    Buf ((w.alloc (.cells (madeCells #[.string ⟨#[]⟩, .int .i8 0, .int .i32 0, .int .i32 0, .int .u8 0] (W * H * 5)) 44)).alloc (.cells #[.int .i64 W, .int .i64 H, .slice (some ⟨w.heap.size, 0, none⟩) (W * H) (W * H)] 82)) (w.heap.size + 1) w.heap.size W H (fillT (W * H) 0) := by
  have k1 := heap_alloc2_old w (.cells (madeCells #[.string ⟨#[]⟩, .int .i8 0, .int .i32 0, .int .i32 0, .int .u8 0] (W * H * 5)) 44) (.cells #[.int .i64 W, .int .i64 H, .slice (some ⟨w.heap.size, 0, none⟩) (W * H) (W * H)] 82)
  have k2 := heap_alloc2_new w (.cells (madeCells #[.string ⟨#[]⟩, .int .i8 0, .int .i32 0, .int .i32 0, .int .u8 0] (W * H * 5)) 44) (.cells #[.int .i64 W, .int .i64 H, .slice (some ⟨w.heap.size, 0, none⟩) (W * H) (W * H)] 82)
  generalize (w.alloc (.cells (madeCells #[.string ⟨#[]⟩, .int .i8 0, .int .i32 0, .int .i32 0, .int .u8 0] (W * H * 5)) 44)).alloc (.cells #[.int .i64 W, .int .i64 H, .slice (some ⟨w.heap.size, 0, none⟩) (W * H) (W * H)] 82) = w2 at *
  refine ⟨blk_cell k2 0, blk_cell k2 1, blk_cell k2 2, ?_, ⟨_, _, k1⟩, fill_length (Nat.zero_le _), by omega, h1, h2, h3⟩
  intro k c hk
  have hk2 : k < W * H := by
    rcases Nat.lt_or_ge k (W * H) with h | h
    · exact h
    · rw [List.getElem?_eq_none (by rw [fill_length (Nat.zero_le _)]; exact h)] at hk; cases hk
  have hc : c = z0 := by
    unfold fillT at hk
    simp only [List.replicate_zero, List.nil_append, Nat.sub_zero] at hk
    rw [List.getElem?_replicate, if_pos hk2] at hk
    exact (Option.some.inj hk).symm
  subst hc
  have hm : ∀ j v, j < W * H * 5 → (#[Value.string ⟨#[]⟩, .int .i8 0, .int .i32 0, .int .i32 0, .int .u8 0] : Array Value)[j % 5]! = v → w2.cell? ⟨w.heap.size, j, none⟩ = some v := by
    intro j v hj hv
    rw [blk_cell k1 j]
    unfold madeCells
    rw [Array.getElem?_map, Array.getElem?_eq_getElem (by simpa using hj)]
    simp only [Array.getElem_range, Option.map_some]
    exact congrArg some hv
  refine ⟨hm _ _ (by omega) ?_, hm _ _ (by omega) ?_, hm _ _ (by omega) ?_, hm _ _ (by omega) ?_, hm _ _ (by omega) ?_⟩
  · rw [show k * 5 % 5 = 0 by omega]; rfl
  · rw [show (k * 5 + 1) % 5 = 1 by omega]; rfl
  · rw [show (k * 5 + 2) % 5 = 2 by omega]; rfl
  · rw [show (k * 5 + 3) % 5 = 3 by omega]; rfl
  · rw [show (k * 5 + 4) % 5 = 4 by omega]; rfl

set_option maxRecDepth 100000 in
set_option maxHeartbeats 4000000 in
theorem new_ok (W H : Nat) (w : World) (h1 : W ≤ 4096) (h2 : H ≤ 4096) (h3 : W * H ≤ 1048576) :
    Calls Try.prog 14 #[.int .i64 W, .int .i64 H] w fun e w' => e = .returned (.tuple #[.pointer (some ⟨w.heap.size + 1, 0, none⟩), .int .i64 0]) ∧ Buf w' (w.heap.size + 1) w.heap.size W H (fillT (W * H) (W * H)) ∧ Below w.heap.size w w' := by
  obtain ⟨it, hinf, hz0, hsz, hby⟩ := info_parts info_cell
  have HS := run.hid (sized_any W H w)
  have hcm := Int.natCast_mul W H
  rw [show sizedOk W H = true by unfold sizedOk; rw [← hcm]; simp; omega] at HS
  have hmk := run_make (P := Try.prog) w 35 44 it _ Try.underlying35 hinf hz0 .i64 .i64 ((W * H : Nat) : Int) ((W * H : Nat) : Int) (by omega) (Int.le_refl _) (by rw [hby]; omega) (by omega)
  rw [hsz, Int.toNat_natCast] at hmk
  change _ = Result.ok (Value.slice (some ⟨w.heap.size, 0, none⟩) (W * H) (W * H)) (w.alloc (.cells (madeCells #[.string ⟨#[]⟩, .int .i8 0, .int .i32 0, .int .i32 0, .int .u8 0] (W * H * 5)) 44)) at hmk
  have hmul := mul_is 3 hcm.symm (by omega)
  have HB := run.hid (buf_new W H w h1 h2 h3)
  have HBel := run.hid (run.below_two w (.cells (madeCells #[.string ⟨#[]⟩, .int .i8 0, .int .i32 0, .int .i32 0, .int .u8 0] (W * H * 5)) 44) (.cells #[.int .i64 W, .int .i64 H, .slice (some ⟨w.heap.size, 0, none⟩) (W * H) (W * H)] 82))
  have hn : W * H ≤ 1048576 := h3
  clear hcm
  obtain ⟨N, hN⟩ : ∃ N, N = W * H := ⟨_, rfl⟩
  rw [← hN] at hmk hmul HB HBel hn ⊢
  have HN := run.hid hN
  clear hN h3
  go_enter Try.func14, Try.ntmps14
  go_wp2_with fail
  refine HS.out.mono ?_
  rintro e w' ⟨rfl, rfl⟩
  go_wp2
  clear hmk hmul HS
  generalize (w.alloc (.cells (madeCells #[.string ⟨#[]⟩, .int .i8 0, .int .i32 0, .int .i32 0, .int .u8 0] (N * 5)) 44)).alloc (.cells #[.int .i64 W, .int .i64 H, .slice (some ⟨w.heap.size, 0, none⟩) N N] 82) = w2 at *
  go_loopw [7, 25] (fun iv kv wr => ∃ k : Nat, k ≤ N ∧ kv = .int .i64 k ∧ Hid (Buf wr (w.heap.size + 1) w.heap.size W H (fillT N k)) ∧ Hid (Below w.heap.size w wr)) (fun _ kv _ => N - (intOf kv).toNat)
  case atStart => exact ⟨0, Nat.zero_le _, rfl, HB, HBel⟩
  case round =>
    obtain ⟨k, hk, rfl, HBk, HBl⟩ := hrel
    have p2 := HBk.out.h2
    rw [← HN.out] at p2
    by_cases hlt : k < N
    · have hk2 : k < (fillT N k).length := by rw [fill_length hk]; exact hlt
      obtain ⟨c0, c1, c2, c3, c4⟩ := HBk.out.grid.at hk2
      have f0 := HBk.out.free (k * 5)
      have f1 := HBk.out.free (k * 5 + 1)
      have f2 := HBk.out.free (k * 5 + 2)
      have f3 := HBk.out.free (k * 5 + 3)
      have f4 := HBk.out.free (k * 5 + 4)
      have HBn := run.hid (HBk.out.store (by rw [← HN.out]; exact hlt) b0)
      rw [fill_next hlt] at HBn
      have HBln := run.hid (below5 (.string ⟨#[32]⟩) (.int .i8 1) (.int .i32 0) (.int .i32 0) (.int .u8 0) HBl.out (Nat.le_refl _))
      have HBln : Hid (Below w.heap.size w (setC wr w.heap.size k b0)) := (((((HBl.out.setCell (p := ⟨w.heap.size, k * 5, none⟩) (Nat.le_refl _) _).setCell (p := ⟨w.heap.size, k * 5 + 1, none⟩) (Nat.le_refl _) _).setCell (p := ⟨w.heap.size, k * 5 + 2, none⟩) (Nat.le_refl _) _).setCell (p := ⟨w.heap.size, k * 5 + 3, none⟩) (Nat.le_refl _) _).setCell (p := ⟨w.heap.size, k * 5 + 4, none⟩) (Nat.le_refl _) _)
      clear HBk HBl hk2
      go_wp2
      go_roundw
      case rel => exact ⟨k + 1, by omega, by go_num, HBn, HBln⟩
      case measure => simp [intOf]; omega
    · obtain rfl : k = N := by omega
      go_wp2
      go_ret2
      exact ⟨rfl, HBk.out, HBl.out⟩

set_option maxRecDepth 100000 in
set_option maxHeartbeats 1000000 in
theorem size_any (b g W H : Nat) (L : List CV) (w : World) (h : Buf w b g W H L) : Calls Try.prog 16 #[.pointer (some ⟨b, 0, none⟩)] w fun e w' => e = .returned (.agg #[.int .i64 W, .int .i64 H]) ∧ Below w.heap.size w w' := by
  have p0 := h.h0
  have p1 := h.h1
  have hlt := h.lt.1
  clear h
  go_enter Try.func16, Try.ntmps16
  go_upto_region 3 with fail
  refine wp_region_still_tail 9 (by kernel_rfl) (by kernel_rfl) ?_
  simp only [List.take_succ_cons, List.take_zero, List.drop_succ_cons, List.drop_zero]
  change wpStill _ _ (World.drew _) (fun a' => wpList _ _ _ _ a' (World.drew _)) _ _
  repeat still_step
  refine wpStill_nil ?_
  go_wp2
  refine bodyPost_ret (v := .agg #[.int .i64 W, .int .i64 H]) (results_cell_row rfl _ _ w.heap.size _ _ _ _ rfl (heap_alloc_new _ _) Try.underlying33 rfl (by kernel_rfl)) rfl ?_
  exact ⟨rfl, drewB (run.below_one w _)⟩
end Go.Proofs.Ytinnggiohalifaa.cel
