/-
  The walk of Fill. (Printed by gen_celfill.py.)
-/
import Derived.Test.YtinnggiohalifaaCelPart
namespace Go.Proofs.Ytinnggiohalifaa.cel
open Go Go.RowKit Go.Proofs
set_option linter.unusedVariables false

def fillRow (W y X : Nat) (c : CV) : Nat → List CV → List CV
  | 0, L => L
  | k + 1, L => (fillRow W y X c k L).set (y * W + (X + k)) c
def fillRect (W X Y RW : Nat) (c : CV) : Nat → List CV → List CV
  | 0, L => L
  | k + 1, L => fillRow W (Y + k) X c RW (fillRect W X Y RW c k L)

/-- a buffer, and two boxes beside it -/
structure Bf (w0 : World) (b g W H : Nat) (n : Nat) (r s : Array Value) (L : List CV) (w : World) : Prop where
  buf : Buf w b g W H L
  kr : w.heap[n]? = some (.cells r 58 (0, 0))
  ks : w.heap[n + 1]? = some (.cells s 24 (0, 0))
  grown : w0.grownBy w (some g)
  ne : n ≠ g
  ne2 : n + 1 ≠ g
  le : w0.heap.size ≤ n
  bn : b < n
theorem Bf.below {w0 w w' : World} {b g W H n : Nat} {L : List CV} {r s : Array Value} (h : Bf w0 b g W H n r s L w) (hb : Below w.heap.size w w') : Bf w0 b g W H n r s L w' :=
  ⟨h.buf.below hb, (hb.block _ (Array.getElem?_eq_some_iff.1 h.kr).1).trans h.kr, (hb.block _ (Array.getElem?_eq_some_iff.1 h.ks).1).trans h.ks, run.grown_trans h.grown (grown_below hb g) (.inl rfl), h.ne, h.ne2, h.le, h.bn⟩
theorem Bf.step {w0 w w' : World} {b g W H n : Nat} {L L' : List CV} {r s : Array Value} (h : Bf w0 b g W H n r s L w) (hb : Buf w' b g W H L') (hg : w.grownBy w' (some g)) : Bf w0 b g W H n r s L' w' :=
  ⟨hb, (hg.block _ (Array.getElem?_eq_some_iff.1 h.kr).1 (by simpa using h.ne)).trans h.kr, (hg.block _ (Array.getElem?_eq_some_iff.1 h.ks).1 (by simpa using h.ne2)).trans h.ks, run.grown_trans h.grown hg (.inl rfl), h.ne, h.ne2, h.le, h.bn⟩
theorem Bf.drew {w0 w : World} {b g W H n : Nat} {L : List CV} {r s : Array Value} (h : Bf w0 b g W H n r s L w) : Bf w0 b g W H n r s L w.drew := h.below (drewB (Below.refl _ _))
theorem Bf.store {w0 w : World} {b g W H n : Nat} {L : List CV} {r s : Array Value} (h : Bf w0 b g W H n r s L w) {i : Nat} (hi : i < W * H) (x : CV) : Bf w0 b g W H n r s (L.set i x) (setC w g i x) := h.step (h.buf.store hi x) (setC_grown _ _ _ _)
/-- the rectangle's box, written -/
theorem Bf.rect {w0 w : World} {b g W H n : Nat} {L : List CV} {a b' c d a2 b2 c2 d2 : Value} {s : Array Value} (h : Bf w0 b g W H n #[a, b', c, d] s L w) :
    Bf w0 b g W H n #[a2, b2, c2, d2] s L ((((w.setCell ⟨n, 0, none⟩ a2).setCell ⟨n, 1, none⟩ b2).setCell ⟨n, 2, none⟩ c2).setCell ⟨n, 3, none⟩ d2) := by
  have hg : w.grownBy ((((w.setCell ⟨n, 0, none⟩ a2).setCell ⟨n, 1, none⟩ b2).setCell ⟨n, 2, none⟩ c2).setCell ⟨n, 3, none⟩ d2) (some n) :=
    run.grown_trans (run.setCell_grown w n 0 a2) (run.grown_trans (run.setCell_grown _ n 1 b2) (run.grown_trans (run.setCell_grown _ n 2 c2) (run.setCell_grown _ n 3 d2) (.inl rfl)) (.inl rfl)) (.inl rfl)
  refine ⟨h.buf.kept hg (by have := h.bn; omega) (fun e => h.ne e.symm), set4 h.kr, (hg.block _ (Array.getElem?_eq_some_iff.1 h.ks).1 (by simp)).trans h.ks, ?_, h.ne, h.ne2, h.le, h.bn⟩
  have h1 := h.grown
  have h2 := h.le
  obtain ⟨p1, p2, p3, p4, p5⟩ := h1
  obtain ⟨q1, q2, q3, q4, q5⟩ := hg
  refine ⟨q1.trans p1, q2.trans p2, q3.trans p3, Nat.le_trans p4 q4, fun k hk hne => ?_⟩
  exact (q5 k (by omega) (by simp; omega)).trans (p5 k hk hne)

set_option maxRecDepth 100000 in
set_option maxHeartbeats 8000000 in
theorem fill_any (b g W H : Nat) (L : List CV) (r : RT) (s : SV) (X0 Y0 RW RH : Nat) (w : World) (h : Buf w b g W H L) (hG : Good W H L) (hr : r.wf) (hlet : letIn r W H = ⟨X0, Y0, RW, RH⟩) (hx : X0 + RW ≤ W) (hy : Y0 + RH ≤ H) :
    Calls Try.prog 34 #[.pointer (some ⟨b, 0, none⟩), r.val, s.val] w fun e w' => e = .returned (.tuple #[]) ∧ Buf w' b g W H (fillRect W X0 Y0 RW (blankT s) RH (partT W X0 Y0 RW RH L)) ∧ w.grownBy w' (some g) := by
  obtain ⟨it, hinf, -, hsz, -⟩ := info_parts info_cell
  obtain ⟨hblt, hglt⟩ := h.lt
  have hWb := h.wide
  have hHb := h.high
  have HWIN := run.hid (fun w (h : Buf w b g W H L) => window_any b g W H L r w h hr)
  change Hid (∀ w, _ → Calls _ _ _ _ fun e w' => e = .returned (letIn r W H).val ∧ _) at HWIN
  rw [hlet] at HWIN
  have HPART := run.hid (fun w h => part_any b g W H L X0 Y0 RW RH w h hG hx hy)
  have HBL := run.hid (fun w => blank_any s w)
  have HGM := run.hid (partT_good (X := X0) (Y := Y0) (RW := RW) hG RH hy)
  generalize partT W X0 Y0 RW RH L = PT at *
  obtain ⟨bx, hbx⟩ : ∃ bx, bx = blankT s := ⟨_, rfl⟩
  rw [← hbx] at HBL ⊢
  clear hbx hlet hG
  obtain ⟨sf, sb, sa⟩ := s
  obtain ⟨r1, r2, r3, r4⟩ := r
  change Hid (∀ w, _ → Calls _ _ #[_, .agg #[.int .i64 r1, .int .i64 r2, .int .i64 r3, .int .i64 r4]] _ fun e w' => e = .returned (.agg #[.int .i64 (X0 : Nat), .int .i64 (Y0 : Nat), .int .i64 (RW : Nat), .int .i64 (RH : Nat)]) ∧ _) at HWIN
  change Hid (∀ w, Calls _ _ #[.agg #[.int .i32 sf, .int .i32 sb, .int .u8 sa]] _ _) at HBL
  show Calls _ _ #[_, .agg #[.int .i64 r1, .int .i64 r2, .int .i64 r3, .int .i64 r4], .agg #[.int .i32 sf, .int .i32 sb, .int .u8 sa]] _ _
  have HB0 : Hid (Bf w b g W H w.heap.size #[.int .i64 r1, .int .i64 r2, .int .i64 r3, .int .i64 r4] #[.int .i32 sf, .int .i32 sb, .int .u8 sa] L ((w.alloc (.cells #[.int .i64 r1, .int .i64 r2, .int .i64 r3, .int .i64 r4] 58)).alloc (.cells #[.int .i32 sf, .int .i32 sb, .int .u8 sa] 24))) :=
    ⟨(h.alloc _).alloc _, heap_alloc2_old w _ _, heap_alloc2_new w _ _, run.grown_trans (World.grownBy_alloc w _ (some g)) (World.grownBy_alloc _ _ (some g)) (.inl rfl), by omega, by omega, Nat.le_refl _, hblt⟩
  have hne : w.heap.size ≠ g := by omega
  have hne2 : w.heap.size + 1 ≠ g := by omega
  clear h hr
  obtain ⟨⟨q0, q1, q2, q3⟩, -⟩ := blk4 HB0.out.kr
  have HC := run.hid (HWIN.out _ HB0.out.buf)
  go_enter Try.func34, Try.ntmps34
  go_wp2_with fail
  refine HC.out.mono ?_
  rintro e w3 ⟨rfl, hb⟩
  clear q0 q1 q2 q3
  have HB3 := run.hid (HB0.out.below hb)
  obtain ⟨⟨q0, q1, q2, q3⟩, f0, f1, f2, f3⟩ := blk4 HB3.out.kr
  have HB4 := run.hid (HB3.out.rect (a2 := .int .i64 (X0 : Nat)) (b2 := .int .i64 (Y0 : Nat)) (c2 := .int .i64 (RW : Nat)) (d2 := .int .i64 (RH : Nat)))
  clear hb HB0 HC HWIN HB3
  go_upto_region 3 with fail
  clear q0 q1 q2 q3 f0 f1 f2 f3
  generalize ((((w3.setCell ⟨w.heap.size, 0, none⟩ (.int .i64 (X0 : Nat))).setCell ⟨w.heap.size, 1, none⟩ (.int .i64 (Y0 : Nat))).setCell ⟨w.heap.size, 2, none⟩ (.int .i64 (RW : Nat))).setCell ⟨w.heap.size, 3, none⟩ (.int .i64 (RH : Nat))) = w4 at *
  obtain ⟨⟨q0, q1, q2, q3⟩, -⟩ := blk4 HB4.out.kr
  have HP := run.hid (HPART.out w4 HB4.out.buf)
  clear HPART
  go_wp2_with fail
  refine HP.out.mono ?_
  rintro e w5 ⟨rfl, hb5, hg5⟩
  clear q0 q1 q2 q3
  have HB5 := run.hid (HB4.out.step hb5 hg5)
  clear hb5 hg5 HB4 HP
  obtain ⟨⟨q0, q1, q2, q3⟩, -⟩ := blk4 HB5.out.kr
  go_wp2
  go_loopw [6] (fun vy wr => ∃ k, k ≤ RH ∧ vy = .int .i64 ((Y0 + k : Nat) : Int) ∧ Hid (Bf w b g W H w.heap.size #[.int .i64 (X0 : Nat), .int .i64 (Y0 : Nat), .int .i64 (RW : Nat), .int .i64 (RH : Nat)] #[.int .i32 sf, .int .i32 sb, .int .u8 sa] (fillRect W X0 Y0 RW bx k PT) wr)) (fun vy _ => ((Y0 : Int) + RH - intOf vy).toNat)
  case atStart => exact ⟨0, Nat.zero_le _, rfl, HB5⟩
  case round =>
    obtain ⟨k, hk, rfl, HB⟩ := hrel
    clear q0 q1 q2 q3 HB5
    obtain ⟨⟨q0, q1, q2, q3⟩, -⟩ := blk4 HB.out.kr
    by_cases hkl : k < RH
    · have HNEXT := run.hid (show fillRect W X0 Y0 RW bx (k + 1) PT = fillRow W (Y0 + k) X0 bx RW (fillRect W X0 Y0 RW bx k PT) from rfl)
      have hy2 : Y0 + k < H := by omega
      obtain ⟨y, hyy⟩ : ∃ y, y = Y0 + k := ⟨_, rfl⟩
      rw [← hyy] at hy2 HNEXT ⊢
      generalize fillRect W X0 Y0 RW bx k PT = M0 at *
      have HYY := run.hid hyy
      have hyl : (y : Int) < (Y0 : Int) + (RH : Int) := by omega
      clear hyy
      have hqc := Int.natCast_mul y W
      have hq0 : y * W ≤ 4096 * 4096 := Nat.mul_le_mul (by omega) hWb
      have hrow := Nat.mul_le_mul_right W (show y + 1 ≤ H from hy2)
      rw [Nat.add_mul, Nat.one_mul, Nat.mul_comm H W] at hrow
      obtain ⟨q, hqq⟩ : ∃ q, y * W = q := ⟨_, rfl⟩
      have HQ := run.hid (show ((y : Nat) : Int) * ((W : Nat) : Int) = ((q : Nat) : Int) from by rw [← hqq]; exact hqc.symm)
      rw [hqq] at hq0 hrow
      have HQQ := run.hid hqq
      clear hqq hqc
      go_wp2
      generalize wr = wy at *
      go_loopw [7] (fun vx wr => ∃ j, j ≤ RW ∧ vx = .int .i64 ((X0 + j : Nat) : Int) ∧ Hid (Bf w b g W H w.heap.size #[.int .i64 (X0 : Nat), .int .i64 (Y0 : Nat), .int .i64 (RW : Nat), .int .i64 (RH : Nat)] #[.int .i32 sf, .int .i32 sb, .int .u8 sa] (fillRow W y X0 bx j M0) wr)) (fun vx _ => ((X0 : Int) + RW - intOf vx).toNat)
      case atStart => exact ⟨0, Nat.zero_le _, rfl, HB⟩
      case round =>
        obtain ⟨j, hj, rfl, HB2⟩ := hrel
        clear HB
        have HB := HB2
        clear HB2
        clear q0 q1 q2 q3
        obtain ⟨⟨q0, q1, q2, q3⟩, -⟩ := blk4 HB.out.kr
        by_cases hjl : j < RW
        · obtain ⟨x, hxx⟩ : ∃ x, x = X0 + j := ⟨_, rfl⟩
          have HNX := run.hid (show fillRow W y X0 bx (j + 1) M0 = (fillRow W y X0 bx j M0).set (q + x) bx from by rw [← HQQ.out, hxx]; rfl)
          have HI := run.hid (show q + x < W * H by omega)
          rw [← hxx]
          generalize fillRow W y X0 bx j M0 = M at *
          have HXX := run.hid hxx
          have hxl : (x : Int) < (X0 : Int) + (RW : Int) := by omega
          have hxb : x ≤ 4096 := by omega
          clear hxx hrow
          go_upto_region 10 with fail
          clear q0 q1 q2 q3
          refine lx.region (fun D X => ∃ L2, Bf w b g W H w.heap.size #[.int .i64 (X0 : Nat), .int .i64 (Y0 : Nat), .int .i64 (RW : Nat), .int .i64 (RH : Nat)] #[.int .i32 sf, .int .i32 sb, .int .u8 sa] L2 X ∧ (D 15 = false → L2 = M) ∧ (D 15 = true → L2 = M.set (q + x) bx)) (by kernel_rfl) (by kernel_rfl) (by kernel_rfl) ⟨M, HB.out.drew, fun _ => rfl, fun h => (by cases h)⟩ ?_
          refine lx.begin 53 rfl ?_
          refine lx.o_pure (.pointer (some ⟨b, 0, none⟩)) (fun _ _ h => by first | rfl | kernel_rfl) ?_
          refine lx.o_pure (.pointer (some ⟨b, 0, none⟩)) (fun _ _ h => by first | rfl | kernel_rfl) ?_
          refine lx.o_pure (.pointer (some ⟨b, 2, none⟩)) (fun _ _ h => by first | rfl | kernel_rfl) ?_
          refine lx.o_pure (.slice (some ⟨g, 0, none⟩) (W * H : Nat) (W * H : Nat)) (fun D X hC => lx.run_load rfl rfl Try.underlying35 rfl hC.choose_spec.1.buf.h2) ?_
          refine lx.o_pure (.int .i64 (y : Nat)) (fun _ _ h => by first | rfl | kernel_rfl) ?_
          refine lx.o_pure (.pointer (some ⟨b, 0, none⟩)) (fun _ _ h => by first | rfl | kernel_rfl) ?_
          refine lx.o_pure (.pointer (some ⟨b, 0, none⟩)) (fun _ _ h => by first | rfl | kernel_rfl) ?_
          refine lx.o_pure (.pointer (some ⟨b, 0, none⟩)) (fun _ _ h => by first | rfl | kernel_rfl) ?_
          refine lx.o_pure (.int .i64 (W : Nat)) (fun D X hC => lx.run_load rfl rfl Try.underlying3 rfl hC.choose_spec.1.buf.h0) ?_
          refine lx.o_pure (.int .i64 (q : Nat)) (fun _ _ _ => lx.run_mul rfl rfl rfl HQ.out (by omega)) ?_
          refine lx.o_pure (.int .i64 (x : Nat)) (fun _ _ h => by first | rfl | kernel_rfl) ?_
          refine lx.o_pure (.int .i64 ((q + x : Nat) : Int)) (fun _ _ _ => lx.run_add rfl rfl rfl (by omega) (by push_cast; rfl)) ?_
          refine lx.o_pure (.agg #[.int .i32 sf, .int .i32 sb, .int .u8 sa]) (fun D X hC => run_loadrow rfl rfl hC.choose_spec.1.ks Try.underlying24 rfl (by kernel_rfl)) ?_
          refine lx.o_call bx.val 24 #[.agg #[.int .i32 sf, .int .i32 sb, .int .u8 sa]] (fun _ _ _ => lx.run_fn rfl rfl rfl (enters_of Try.func24 (by kernel_rfl) rfl)) (fun D X hC => (HBL.out X).mono fun e w2 ⟨he, hw⟩ => ⟨he, by obtain ⟨L2, h1, h2⟩ := hC; exact ⟨L2, h1.below hw, h2⟩⟩) ?_
          refine lx.o_pure (.pointer (some ⟨g, (q + x) * 5, none⟩)) (fun D X hC => run_at5 rfl rfl rfl HI.out Try.underlying35 hinf hsz) ?_
          refine lx.o_put (fun D X h0 hdep hC => ?_) ?_
          · obtain ⟨L2, hS, h1, h2⟩ := hC
            obtain rfl := h1 h0
            exact ⟨_, run_store5 hS.buf HI.out rfl rfl rfl, _, hS.store HI.out bx, (fun h => by cases h), fun _ => rfl⟩
          refine lx.o_end ?_
          simp only [lx.ov]
          rintro X d hd ⟨L2, hS, -, h2⟩
          obtain rfl := h2 (hd 15 (by decide))
          have HF := run.hid hS
          clear hS h2 hd HB HI
          go_simp
          go_wp2
          go_roundw
          case rel => exact ⟨j + 1, by omega, by have := HXX.out; simp only [Value.int.injEq, true_and]; push_cast; omega, by show Bf _ _ _ _ _ _ _ _ _ _; rw [HNX.out]; exact HF.out⟩
          case measure => have := HXX.out; simp [intOf]; omega
        · obtain rfl : j = RW := by omega
          go_wp2
          go_roundw
          case rel => exact ⟨k + 1, by omega, by have := HYY.out; simp only [Value.int.injEq, true_and]; push_cast; omega, by show Bf _ _ _ _ _ _ _ _ _ _; rw [HNEXT.out]; exact HB.out⟩
          case measure => have := HYY.out; simp [intOf]; omega
    · obtain rfl : k = RH := by omega
      have HF := HB
      clear HB
      go_wp2
      first | go_end0 | (refine bodyPost_ret (results_none rfl _ _ _) rfl ?_)
      exact ⟨rfl, HF.out.buf, HF.out.grown⟩
end Go.Proofs.Ytinnggiohalifaa.cel
