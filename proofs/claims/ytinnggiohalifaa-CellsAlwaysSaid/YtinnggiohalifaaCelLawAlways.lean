/-
  The walk of the law CellsAlways: no halves, whatever is done to a buffer. (Printed by gen_cellawalways.py.)
-/
import Derived.Test.YtinnggiohalifaaCelLawR
import Derived.Test.YtinnggiohalifaaCelRight

import Derived.Test.YtinnggiohalifaaCelS
namespace Go.Proofs.Ytinnggiohalifaa.cel
open Go Go.RowKit Go.Proofs
set_option linter.unusedVariables false

set_option maxRecDepth 100000 in
set_option maxHeartbeats 8000000 in
theorem lawAlways_any (W0 H0 : Int) (a : Option Addr) (N cap : Nat) (SL : List St) (w : World) (hNl : SL.length = N) (hS : StepsAt w a SL) (hN : N ≤ 140737488355328) :
    Calls Try.prog 11 #[.agg #[.int .i64 W0, .int .i64 H0, .slice a N cap]] w fun e w' => e = .returned (.bool true) ∧ Below w.heap.size w w' := by
  obtain ⟨it, hinf, -, hsz, -⟩ := info_parts info_step
  obtain ⟨itC, hinfC, -, hszC, -⟩ := info_parts info_cell
  have hb0 := run.below_one w (.cells #[.int .i64 W0, .int .i64 H0, .slice a N cap] 68)
  have k0 := heap_alloc_new w (.cells #[.int .i64 W0, .int .i64 H0, .slice a N cap] 68)
  have HST := run.hid hS
  have HW := run.hid (fun w => wakes_any w)
  have HNN := run.hid hNl
  clear hS
  have c0 := blk_cell k0 0
  have c1 := blk_cell k0 1
  have c2 := blk_cell k0 2
  change World.cell? _ _ = some (.int .i64 W0) at c0
  change World.cell? _ _ = some (.int .i64 H0) at c1
  change World.cell? _ _ = some (.slice a N cap) at c2
  have KB := run.hid hb0
  have KK := run.hid k0
  have HBY := run.hid (fun (X : World) (hX : Below w.heap.size w X) => show Calls Try.prog 37 #[.slice a N cap] X (fun e w' => e = .returned (.bool (beyondT SL 0)) ∧ Below X.heap.size X w') from by
    rw [← HNN.out]
    exact beyond_any a cap SL X (HST.out.below hX) (by rw [HNN.out]; exact hN))
  have HSI := run.hid (fun X => sizeOf_any W0 H0 a N cap X)
  clear hb0 k0 hNl
  go_enter Try.func11, Try.ntmps11
  go_upto_region 1 with fail
  generalize w.alloc (.cells #[.int .i64 W0, .int .i64 H0, .slice a N cap] 68) = w1 at *
  go_wp2_with fail
  refine (HBY.out w1 KB.out).mono ?_
  rintro e w2 ⟨rfl, hb2⟩
  have hs1 := KB.out.size
  have hlt1 := (Array.getElem?_eq_some_iff.1 KK.out).1
  have hB2 := run.hid (KB.out.trans (hb2.mono hs1))
  have hK2 := run.hid ((hb2.block w.heap.size hlt1).trans KK.out)
  clear hb2 KB KK c0 c1 c2 HBY
  cases hby : beyondT SL 0 with
  | true =>
    have HF := hB2
    clear hK2 HSI HST hB2
    go_wp2
    go_ret
    exact ⟨rfl, HF.out⟩
  | false =>
    have HBF := run.hid hby
    clear hby
    have c0 := blk_cell hK2.out 0
    have c1 := blk_cell hK2.out 1
    have c2 := blk_cell hK2.out 2
    change World.cell? _ _ = some (.int .i64 W0) at c0
    change World.cell? _ _ = some (.int .i64 H0) at c1
    change World.cell? _ _ = some (.slice a N cap) at c2
    obtain ⟨W, H, hWH, hW, hH⟩ := sizeT_nat W0 H0
    rw [hWH] at HSI
    clear hWH
    have hQ := mul_le hW hH
    have hcm := Int.natCast_mul W H
    obtain ⟨Q, hQQ⟩ : ∃ Q, Q = W * H := ⟨_, rfl⟩
    have HQQ := run.hid hQQ
    rw [← hQQ] at hQ hcm
    have HNEW := run.hid (fun X => new_ok W H X (by omega) (by omega) (by rw [← HQQ.out]; omega))
    have HCM := run.hid hcm.symm
    clear hcm hQQ
    go_wp2_with fail
    refine (HSI.out _).mono ?_
    rintro e w3 ⟨rfl, hb3⟩
    have hs2 := hB2.out.size
    have hB3 := hB2.out.trans (hb3.mono hs2)
    have hK3 := (hb3.block w.heap.size (Array.getElem?_eq_some_iff.1 hK2.out).1).trans hK2.out
    have HB3 := run.hid hB3
    have HK3 := run.hid hK3
    clear hb3 hB2 hK2 hB3 hK3 c0 c1 c2 HSI
    go_wp2_with fail
    refine (HNEW.out _).mono ?_
    rintro e w4 ⟨rfl, hbf, hb4⟩
    have hs3 := HB3.out.size
    have HB4 := run.hid (HB3.out.trans (hb4.mono hs3))
    have HK4 := run.hid ((hb4.block w.heap.size (Array.getElem?_eq_some_iff.1 HK3.out).1).trans HK3.out)
    have HG4 := run.hid (strong_new W H)
    obtain ⟨L0, hL0⟩ : ∃ L0, L0 = fillT (W * H) (W * H) := ⟨_, rfl⟩
    rw [← hL0] at HG4 hbf
    have hn03 := (Array.getElem?_eq_some_iff.1 HK3.out).1
    obtain ⟨g, hg⟩ : ∃ g, g = w3.heap.size := ⟨_, rfl⟩
    obtain ⟨b, hb⟩ : ∃ b, b = g + 1 := ⟨_, rfl⟩
    rw [← hg, ← hb] at hbf
    rw [← hg, ← hb]
    have HBU := run.hid hbf
    have hgN : w.heap.size < g := by omega
    have HSTEP := run.hid (fun (i : Nat) (hi : i < N) (X : World) (L : List CV) (hX : w4.grownBy X (some g)) (hB : Buf X b g W H L) (hL : Strong W H L) => step_at HST.out HBF.out HB4.out (by omega) hX (by rw [HNN.out]; exact hi) hB hL)
    have HKX := run.hid (fun (X : World) (hX : w4.grownBy X (some g)) => (hX.block w.heap.size (Array.getElem?_eq_some_iff.1 HK4.out).1 (by simp; omega)).trans HK4.out)
    clear hb hbf hb4 HB3 HK3 HNEW hL0 hg hs2 HST HBF
    go_upto_region 7 with fail
    go_wp2
    go_loopw [7] (fun vi wr => ∃ (i : Nat) (L : List CV), i ≤ N ∧ vi = .int .i64 i ∧ Hid (Buf wr b g W H L) ∧ Hid (Strong W H L) ∧ Hid (w4.grownBy wr (some g))) (fun vi _ => ((N : Int) - intOf vi).toNat)
    case atStart => exact ⟨0, L0, Nat.zero_le _, rfl, HBU, HG4, run.hid (World.grownBy.refl _ _)⟩
    case round =>
      obtain ⟨i, L, hi, rfl, HB, HL, HG⟩ := hrel
      have hkx := HKX.out wr HG.out
      have c2 := blk_cell hkx 2
      change World.cell? _ _ = some (.slice a N cap) at c2
      by_cases hlt : i < N
      · obtain ⟨b1, o1, rfl, h13, hdo⟩ := HSTEP.out i hlt wr L HG.out HB.out HL.out
        generalize SL.getD i q0 = q at *
        obtain ⟨d, x, y, t, ⟨sf, sb, sa⟩, ⟨rx, ry, rw', rh⟩, qa, row, qc, by0⟩ := q
        obtain ⟨e0, e1, e2, e3, e4, e5, e6, e7, e8, e9, e10, e11, e12⟩ := h13
        dsimp only at e0 e1 e2 e3 e4 e5 e6 e7 e8 e9 e10 e11 e12
        unfold St.cells at hdo
        dsimp only at hdo
        generalize row.length = m at *
        have HDO := run.hid hdo
        clear hdo hkx HSTEP HBU HG4
        go_wp2_with fail
        refine HDO.out.mono ?_
        rintro e w5 ⟨rfl, L5, hB5, hN5, hg5⟩
        have HL5 := run.hid hN5.strong
        have HG5 := run.hid (run.grown_trans HG.out hg5 (.inl rfl))
        have hSC := screen_any b g W H L5 w5 hB5
        unfold scrV at hSC
        rw [← HQQ.out] at hSC
        have HSC := run.hid hSC
        have HB5 := run.hid hB5
        clear hN5 hg5 hSC hB5 HDO HB HL HG e0 e1 e2 e3 e4 e5 e6 e7 e8 e9 e10 e11 e12 c2
        generalize wr = wz at *
        go_wp2_with fail
        refine HSC.out.mono ?_
        rintro e w6 ⟨v, rfl, hrow, hb6⟩
        have hrd : Reads5 w6 v L5 := reads5_own (by rw [HL5.out.1, ← HQQ.out]; exact hrow)
        obtain ⟨a3, c3, rfl, hc3⟩ := own_slice hrow
        clear hrow HSC
        have hbo := run.below_one w6 (.cells #[.int .i64 W, .int .i64 H, .slice a3 Q c3, .int .i64 0, .int .i64 0, .bool false] 49)
        have hs5 := hb6.size
        have HB7 := run.hid (hb6.trans (hbo.mono hs5))
        have HQ7 := run.hid (heap_alloc_new w6 (.cells #[.int .i64 W, .int .i64 H, .slice a3 Q c3, .int .i64 0, .int .i64 0, .bool false] 49))
        have hrd7 := hrd.below hbo
        have hlen : L5.length = Q := HL5.out.1.trans HQQ.out.symm
        have hcm2 := HCM.out
        have HRT := run.hid (show rightT ⟨W, H, a3, Q, c3, 0, 0, false⟩ L5 = true from by
          unfold rightT
          have r1 : sizedOk (W : Int) (H : Int) = true := by unfold sizedOk; rw [hcm2]; exact decide_eq_true (by omega)
          have r2 : decide ((L5.length : Int) = (W : Int) * (H : Int)) = true := by rw [hcm2, hlen]; exact decide_eq_true rfl
          have r3 : rowsOk (W : Int).toNat L5 (H : Int).toNat = true := by
            unfold rowsOk
            rw [List.all_eq_true]
            intro y hy
            simp only [Int.toNat_natCast, List.mem_range] at hy ⊢
            exact strong_row HL5.out hy
          have r4 : curOk ⟨W, H, a3, Q, c3, 0, 0, false⟩ = true := rfl
          show (sizedOk (W : Int) (H : Int) && (decide ((L5.length : Int) = (W : Int) * (H : Int)) && (rowsOk (W : Int).toNat L5 (H : Int).toNat && _))) = true
          rw [r1, r2, r3, r4]
          rfl)
        have HRI := run.hid (fun (X : World) (hX : Below (w6.alloc (.cells #[.int .i64 W, .int .i64 H, .slice a3 Q c3, .int .i64 0, .int .i64 0, .bool false] 49)).heap.size (w6.alloc (.cells #[.int .i64 W, .int .i64 H, .slice a3 Q c3, .int .i64 0, .int .i64 0, .bool false] 49)) X) => scrright_any ⟨W, H, a3, Q, c3, 0, 0, false⟩ L5 X hlen.symm (by show Reads5 X (.slice a3 Q c3) L5; exact hrd7.below hX) hc3 (strong_fit HL5.out))
        rw [HRT.out] at HRI
        change Hid (∀ X, _ → Calls _ _ #[.agg #[.int .i64 W, .int .i64 H, .slice a3 Q c3, .int .i64 0, .int .i64 0, .bool false]] _ _) at HRI
        have HRD7 := run.hid hrd7
        have HLEN := run.hid hlen
        have hq7 : w6.heap.size < (w6.alloc (.cells #[.int .i64 W, .int .i64 H, .slice a3 Q c3, .int .i64 0, .int .i64 0, .bool false] 49)).heap.size := (Array.getElem?_eq_some_iff.1 HQ7.out).1
        clear hb6 hrd hbo hrd7 HRT hlen
        go_upto_region 12 with fail
        generalize w6.alloc (.cells #[.int .i64 W, .int .i64 H, .slice a3 Q c3, .int .i64 0, .int .i64 0, .bool false] 49) = w7 at *
        generalize w6.heap.size = sc at *
        have s0 := blk_cell HQ7.out 0
        have s1 := blk_cell HQ7.out 1
        have s2 := blk_cell HQ7.out 2
        have s3 := blk_cell HQ7.out 3
        have s4 := blk_cell HQ7.out 4
        have s5 := blk_cell HQ7.out 5
        change World.cell? _ _ = some (.int .i64 W) at s0
        change World.cell? _ _ = some (.int .i64 H) at s1
        change World.cell? _ _ = some (.slice a3 Q c3) at s2
        change World.cell? _ _ = some (.int .i64 0) at s3
        change World.cell? _ _ = some (.int .i64 0) at s4
        change World.cell? _ _ = some (.bool false) at s5
        go_wp2_with fail
        refine (HRI.out w7 (Below.refl _ _)).mono ?_
        rintro e w8 ⟨rfl, hb8⟩
        have HB8 := run.hid (HB7.out.trans (hb8.mono HB7.out.size))
        have HQ8 := run.hid ((hb8.block sc hq7).trans HQ7.out)
        have HRD8 := run.hid (HRD7.out.below hb8)
        have hq8 := (Array.getElem?_eq_some_iff.1 HQ8.out).1
        clear s0 s1 s2 s3 s4 s5 HRI HQ7 HRD7 HB7 hb8
        go_wp2
        go_loopw [9] (fun vy wr => ∃ yy : Nat, yy ≤ H ∧ vy = .int .i64 yy ∧ Below w8.heap.size w8 wr) (fun vy _ => ((H : Int) - intOf vy).toNat)
        case atStart => exact ⟨0, Nat.zero_le _, rfl, Below.refl _ _⟩
        case round =>
          obtain ⟨yy, hyy, rfl, hbel⟩ := hrel
          by_cases hyl : yy < H
          · obtain ⟨k, hk⟩ : ∃ k, k = yy * W := ⟨_, rfl⟩
            have hmul : (yy : Int) * (W : Int) = (k : Int) := by rw [hk]; push_cast; rfl
            have hkw : k + W ≤ Q := by
              have h1 := Nat.mul_le_mul_right W (show yy + 1 ≤ H from hyl)
              rw [Nat.add_mul, Nat.one_mul, ← hk, Nat.mul_comm H W, ← HQQ.out] at h1
              exact h1
            have hwl : ((L5.drop k).take W).length = W := by rw [List.length_take, List.length_drop, HLEN.out]; omega
            have hrow := strong_row HL5.out hyl
            rw [← hk] at hrow
            have HLR := run.hid (fun (X : World) (hX : Below w8.heap.size w8 X) => show Calls Try.prog 26 #[.slice (subA a3 c3 k 5) W (c3 - k)] X (fun e w' => e = .returned (.bool true) ∧ Below X.heap.size X w') from by
              have hsub := reads5_sub (a := a3) (cap := c3) (L := L5) (l := k) (n := W) (by rw [HLEN.out]; exact HRD8.out.below hX) (by rw [HLEN.out]; exact hc3) (by rw [HLEN.out]; exact hkw)
              have h := lawr_any (subA a3 c3 k 5) (c3 - k) ((L5.drop k).take W) X (by rw [hwl]; exact hsub) (by omega) (fun c hc => (strong_fit HL5.out c (List.mem_of_mem_drop (List.mem_of_mem_take hc))).1)
              rw [hwl, hrow] at h
              exact h)
            have HKQ := run.hid (fun X (hX : Below w8.heap.size w8 X) => (hX.block sc hq8).trans HQ8.out)
            have HBE := run.hid hbel
            have hkb : -9223372036854775808 ≤ (k : Int) ∧ (k : Int) ≤ 9223372036854775807 := by omega
            have hkb2 : -9223372036854775808 ≤ (k : Int) + (W : Int) ∧ (k : Int) + (W : Int) ≤ 9223372036854775807 := by omega
            have hkc : k + W ≤ c3 := by omega
            have HMU := run.hid hmul
            clear hmul hk hwl hrow hbel
            go_upto_region 17 with fail
            refine lx.straight (fun D X => Below w8.heap.size w8 X) (by kernel_rfl) HBE.out ?_
            refine lx.begin 103 rfl ?_
            refine lx.o_pure (.pointer (some ⟨sc, 2, none⟩)) (fun _ _ h => by first | rfl | kernel_rfl) ?_
            refine lx.o_pure (.slice a3 Q c3) (fun D X hC => lx.run_load rfl rfl Try.underlying35 rfl (blk_cell (HKQ.out X hC) 2)) ?_
            refine lx.o_pure (.int .i64 (yy : Nat)) (fun _ _ h => by first | rfl | kernel_rfl) ?_
            refine lx.o_pure (.int .i64 (W : Nat)) (fun _ _ h => by first | rfl | kernel_rfl) ?_
            refine lx.o_pure (.int .i64 (k : Nat)) (fun _ _ _ => lx.run_mul rfl rfl rfl HMU.out hkb) ?_
            refine lx.o_pure (.int .i64 (yy : Nat)) (fun _ _ h => by first | rfl | kernel_rfl) ?_
            refine lx.o_pure (.int .i64 (W : Nat)) (fun _ _ h => by first | rfl | kernel_rfl) ?_
            refine lx.o_pure (.int .i64 (k : Nat)) (fun _ _ _ => lx.run_mul rfl rfl rfl HMU.out hkb) ?_
            refine lx.o_pure (.int .i64 (W : Nat)) (fun _ _ h => by first | rfl | kernel_rfl) ?_
            refine lx.o_pure (.int .i64 ((k + W : Nat) : Int)) (fun _ _ _ => lx.run_add rfl rfl rfl hkb2 (by push_cast; rfl)) ?_
            refine lx.o_pure (.slice (subA a3 c3 k 5) W (c3 - k)) (fun _ _ _ => run_part rfl rfl rfl rfl rfl hkc Try.underlying35 hinfC hszC) ?_
            refine lx.o_call (.bool true) 26 #[.slice (subA a3 c3 k 5) W (c3 - k)] (fun _ _ _ => lx.run_fn rfl rfl rfl (enters_of Try.func26 (by kernel_rfl) rfl)) (fun D X hC => (HLR.out X hC).mono fun e w2 ⟨he, hw⟩ => ⟨he, hC.trans (hw.mono hC.size)⟩) ?_
            refine lx.o_pure (.bool false) (fun _ _ h => by first | rfl | kernel_rfl) ?_
            refine lx.o_end ?_
            simp only [lx.ov]
            rintro X9 d9 hd hC
            have HF := run.hid hC
            clear HLR HKQ HBE hC hd
            go_simp
            go_wp2
            go_roundw
            case rel => exact ⟨yy + 1, by omega, by go_num, HF.out⟩
            case measure => simp [intOf]; omega
          · obtain rfl : yy = H := by omega
            have HF := run.hid (HB5.out.below (HB8.out.trans (hbel.mono HB8.out.size)))
            have HFG := run.hid (run.grown_trans HG5.out (grown_below (HB8.out.trans (hbel.mono HB8.out.size)) g) (.inl rfl))
            clear hbel HQ8 HRD8
            go_wp2
            go_roundw
            case rel => exact ⟨i + 1, L5, by omega, by go_num, HF, HL5, HFG⟩
            case measure => simp [intOf]; omega
      · obtain rfl : i = N := by omega
        have HF := run.hid (HB4.out.grown HG.out (by have := HB4.out.size; omega) (fun q hq => by simp only [Option.some.injEq] at hq; omega))
        clear HSTEP HBU HG4 hkx
        go_wp2_with fail
        refine (HW.out _).mono ?_
        rintro e w9 ⟨rfl, hb9⟩
        have HF9 := run.hid (HF.out.trans (hb9.mono HF.out.size))
        go_wp2
        go_ret
        exact ⟨rfl, HF9.out⟩
end Go.Proofs.Ytinnggiohalifaa.cel
