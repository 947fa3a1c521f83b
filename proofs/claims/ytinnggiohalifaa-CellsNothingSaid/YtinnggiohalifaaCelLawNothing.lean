/-
  The walk of the law CellsNothing: a call changes nothing but what is let in, and other halves. (Printed by gen_cellawnothing.py.)
-/
import Derived.Test.YtinnggiohalifaaCelOther
import Derived.Test.YtinnggiohalifaaCelWakes
namespace Go.Proofs.Ytinnggiohalifaa.cel
open Go Go.RowKit Go.Proofs
set_option linter.unusedVariables false
/-- what a step lets in, decided -/
def letsB (d y : Int) (r : RT) (W k : Nat) : Bool := hasT r ((k % W : Nat) : Int) ((k / W : Nat) : Int) && decide (1 ≤ d ∧ d ≤ 4 ∧ (d = 2 ∨ d = 4 ∨ ((k / W : Nat) : Int) = y))
theorem other_int {f : Nat → CV} {k : Nat} (h : other f k ≠ k) : (if (f k).wide = 0 then (k : Int) - 1 else if (f k).wide = 2 then (k : Int) + 1 else k) = ((other f k : Nat) : Int) := by
  unfold other at *
  by_cases h0 : (f k).wide = 0
  · rw [if_pos h0] at h
    rw [if_pos h0, if_pos h0]
    omega
  · rw [if_neg h0] at h
    rw [if_neg h0, if_neg h0]
    by_cases h2 : (f k).wide = 2
    · rw [if_pos h2, if_pos h2]; omega
    · rw [if_neg h2, if_neg h2]
theorem run_loadrect {o : Oper} {ρ : Operand → Value} {w : World} {p : Operand} {n : Nat} {a0 a1 a2 a3 a4 a5 a6 r0 r1 r2 r3 a11 a12 : Value} {t : TypeId} (ho : o.op = .load 58 p) (hx : ρ p = .pointer (some ⟨n, 7, none⟩)) (hg : w.heap[n]? = some (.cells #[a0, a1, a2, a3, a4, a5, a6, r0, r1, r2, r3, a11, a12] t (0, 0))) : (execOp ρ o).run Try.prog w = .ok (.value (.agg #[r0, r1, r2, r3])) w := by
  have c7 := blk_cell hg 7
  have c8 := blk_cell hg 8
  have c9 := blk_cell hg 9
  have c10 := blk_cell hg 10
  change w.cell? _ = some r0 at c7
  change w.cell? _ = some r1 at c8
  change w.cell? _ = some r2 at c9
  change w.cell? _ = some r3 at c10
  unfold execOp
  simp only [ho, hx]
  simp [go_sem, c7, c8, c9, c10]
theorem letsB_iff (q : St) (W k : Nat) : q.lets W k ↔ letsB q.d q.y q.r W k = true := by
  unfold St.lets inD letsB
  rw [Bool.and_eq_true, decide_eq_true_eq, decide_eq_true_eq]
  constructor
  · rintro ⟨h1, h2, h3⟩
    exact ⟨h2, by omega, by omega, by omega⟩
  · rintro ⟨h1, h2, h3, h4⟩
    exact ⟨by omega, h1, by omega⟩

set_option maxRecDepth 100000 in
set_option maxHeartbeats 8000000 in
theorem lawNothing_any (W0 H0 : Int) (a : Option Addr) (N cap : Nat) (SL : List St) (w : World) (hNl : SL.length = N) (hS : StepsAt w a SL) (hN : N ≤ 140737488355328) :
    Calls Try.prog 9 #[.agg #[.int .i64 W0, .int .i64 H0, .slice a N cap]] w fun e w' => e = .returned (.bool true) ∧ Below w.heap.size w w' := by
  obtain ⟨it, hinf, -, hsz, -⟩ := info_parts info_step
  obtain ⟨itC, hinfC, -, hszC, -⟩ := info_parts info_cell
  have hb0 := run.below_one w (.cells #[.int .i64 W0, .int .i64 H0, .slice a N cap] 68)
  have k0 := heap_alloc_new w (.cells #[.int .i64 W0, .int .i64 H0, .slice a N cap] 68)
  have HST := run.hid hS
  have HW := run.hid (fun w => wakes_any w)
  have HNN := run.hid hNl
  clear hS
  have c0 := blk_cell k0 0
  have c1 := blk_cell k0 1
  have c2 := blk_cell k0 2
  change World.cell? _ _ = some (.int .i64 W0) at c0
  change World.cell? _ _ = some (.int .i64 H0) at c1
  change World.cell? _ _ = some (.slice a N cap) at c2
  have KB := run.hid hb0
  have KK := run.hid k0
  have HBY := run.hid (fun (X : World) (hX : Below w.heap.size w X) => show Calls Try.prog 37 #[.slice a N cap] X (fun e w' => e = .returned (.bool (beyondT SL 0)) ∧ Below X.heap.size X w') from by
    rw [← HNN.out]
    exact beyond_any a cap SL X (HST.out.below hX) (by rw [HNN.out]; exact hN))
  have HSI := run.hid (fun X => sizeOf_any W0 H0 a N cap X)
  clear hb0 k0 hNl
  go_enter Try.func9, Try.ntmps9
  go_upto_region 1 with fail
  generalize w.alloc (.cells #[.int .i64 W0, .int .i64 H0, .slice a N cap] 68) = w1 at *
  go_wp2_with fail
  refine (HBY.out w1 KB.out).mono ?_
  rintro e w2 ⟨rfl, hb2⟩
  have hs1 := KB.out.size
  have hlt1 := (Array.getElem?_eq_some_iff.1 KK.out).1
  have hB2 := run.hid (KB.out.trans (hb2.mono hs1))
  have hK2 := run.hid ((hb2.block w.heap.size hlt1).trans KK.out)
  clear hb2 KB KK c0 c1 c2 HBY
  cases hby : beyondT SL 0 with
  | true =>
    have HF := hB2
    clear hK2 HSI HST hB2
    go_wp2
    go_ret
    exact ⟨rfl, HF.out⟩
  | false =>
    have HBF := run.hid hby
    clear hby
    have c0 := blk_cell hK2.out 0
    have c1 := blk_cell hK2.out 1
    have c2 := blk_cell hK2.out 2
    change World.cell? _ _ = some (.int .i64 W0) at c0
    change World.cell? _ _ = some (.int .i64 H0) at c1
    change World.cell? _ _ = some (.slice a N cap) at c2
    obtain ⟨W, H, hWH, hW, hH⟩ := sizeT_nat W0 H0
    rw [hWH] at HSI
    clear hWH
    have hQ := mul_le hW hH
    have hcm := Int.natCast_mul W H
    obtain ⟨Q, hQQ⟩ : ∃ Q, Q = W * H := ⟨_, rfl⟩
    have HQQ := run.hid hQQ
    rw [← hQQ] at hQ hcm
    have HNEW := run.hid (fun X => new_ok W H X (by omega) (by omega) (by rw [← HQQ.out]; omega))
    have HCM := run.hid hcm.symm
    clear hcm hQQ
    go_wp2_with fail
    refine (HSI.out _).mono ?_
    rintro e w3 ⟨rfl, hb3⟩
    have hs2 := hB2.out.size
    have hB3 := hB2.out.trans (hb3.mono hs2)
    have hK3 := (hb3.block w.heap.size (Array.getElem?_eq_some_iff.1 hK2.out).1).trans hK2.out
    have HB3 := run.hid hB3
    have HK3 := run.hid hK3
    clear hb3 hB2 hK2 hB3 hK3 c0 c1 c2 HSI
    go_wp2_with fail
    refine (HNEW.out _).mono ?_
    rintro e w4 ⟨rfl, hbf, hb4⟩
    have hs3 := HB3.out.size
    have HB4 := run.hid (HB3.out.trans (hb4.mono hs3))
    have HK4 := run.hid ((hb4.block w.heap.size (Array.getElem?_eq_some_iff.1 HK3.out).1).trans HK3.out)
    have HG4 := run.hid (strong_new W H)
    obtain ⟨L0, hL0⟩ : ∃ L0, L0 = fillT (W * H) (W * H) := ⟨_, rfl⟩
    rw [← hL0] at HG4 hbf
    have hn03 := (Array.getElem?_eq_some_iff.1 HK3.out).1
    obtain ⟨g, hg⟩ : ∃ g, g = w3.heap.size := ⟨_, rfl⟩
    obtain ⟨b, hb⟩ : ∃ b, b = g + 1 := ⟨_, rfl⟩
    rw [← hg, ← hb] at hbf
    rw [← hg, ← hb]
    have HBU := run.hid hbf
    have hgN : w.heap.size < g := by omega
    have HSTEP := run.hid (fun (i : Nat) (hi : i < N) (X : World) (L : List CV) (hX : w4.grownBy X (some g)) (hB : Buf X b g W H L) (hL : Strong W H L) => step_at HST.out HBF.out HB4.out (by omega) hX (by rw [HNN.out]; exact hi) hB hL)
    have HKX := run.hid (fun (X : World) (hX : w4.grownBy X (some g)) => (hX.block w.heap.size (Array.getElem?_eq_some_iff.1 HK4.out).1 (by simp; omega)).trans HK4.out)
    have HRWF := run.hid (fun (i : Nat) (hi : i < N) => (HST.out i (by rw [HNN.out]; exact hi)).choose_spec.choose_spec.2.2.2.r)
    clear hb hbf hb4 HB3 HK3 HNEW hL0 hg hs2 HST HBF
    go_upto_region 7 with fail
    go_wp2
    go_loopw [7] (fun vi wr => ∃ (i : Nat) (L : List CV), i ≤ N ∧ vi = .int .i64 i ∧ Hid (Buf wr b g W H L) ∧ Hid (Strong W H L) ∧ Hid (w4.grownBy wr (some g))) (fun vi _ => ((N : Int) - intOf vi).toNat)
    case atStart => exact ⟨0, L0, Nat.zero_le _, rfl, HBU, HG4, run.hid (World.grownBy.refl _ _)⟩
    case round =>
      obtain ⟨i, L, hi, rfl, HB, HL, HG⟩ := hrel
      have hkx := HKX.out wr HG.out
      have c2 := blk_cell hkx 2
      change World.cell? _ _ = some (.slice a N cap) at c2
      by_cases hlt : i < N
      · have hSC := screen_any b g W H L wr HB.out
        unfold scrV at hSC
        rw [← HQQ.out] at hSC
        have HSC := run.hid hSC
        have hg0 : g < wr.heap.size := HB.out.lt.2
        clear hSC hkx HBU HG4
        go_upto_region 10 with fail
        clear c2
        generalize wr = wz at *
        go_wp2_with fail
        refine HSC.out.mono ?_
        rintro e w5 ⟨v, rfl, hrow1, hb5⟩
        have hrd1 : Reads5 w5 v L := reads5_own (by rw [HL.out.1, ← HQQ.out]; exact hrow1)
        have hlt1 := hrow1.lt
        obtain ⟨a1, k1, rfl, hk1⟩ := own_slice hrow1
        have hlen1 : L.length = Q := HL.out.1.trans HQQ.out.symm
        have hf1 : ∀ b' off, a1 = some ⟨b', off, none⟩ → b' ≠ g := fun b' off e => by
          have := (hlt1 b' (by rw [e]; rfl)).1
          omega
        have HR1 := run.hid hrd1
        have HF1 := run.hid hf1
        have HG5 := run.hid (run.grown_trans HG.out (grown_below hb5 g) (.inl rfl))
        have HB5 := run.hid (HB.out.below hb5)
        have hfld1 := field_scr (.int .i64 W) (.int .i64 H) (.int .i64 0) (.int .i64 0) (.bool false) a1 Q k1 w5
        clear hrow1 hlt1 hf1 hrd1 hb5 HSC HB HG
        go_upto_region 11 with fail
        clear hfld1
        have hkx := HKX.out w5 HG5.out
        have c2 := blk_cell hkx 2
        change World.cell? _ _ = some (.slice a N cap) at c2
        clear hkx
        obtain ⟨b1, o1, rfl, h13, -⟩ := HSTEP.out i hlt w5 L HG5.out HB5.out HL.out
        have HSTEPi := run.hid (fun X hX hB hL => (HSTEP.out i hlt X L hX hB hL))
        clear HSTEP
        have hrw := HRWF.out i hlt
        clear HRWF
        generalize SL.getD i q0 = q at *
        have HLB := run.hid (fun k => letsB_iff q W k)
        have hqok := HSTEPi.out
        obtain ⟨d, x, y, t, ⟨sf, sb, sa⟩, ⟨rx, ry, rw', rh⟩, qa, row, qc, by0⟩ := q
        obtain ⟨e0, e1, e2, e3, e4, e5, e6, e7, e8, e9, e10, e11, e12⟩ := h13
        dsimp only at e0 e1 e2 e3 e4 e5 e6 e7 e8 e9 e10 e11 e12
        have hdo := fun X hX hB hL => (hqok X hX hB hL).choose_spec.choose_spec.2.2
        clear hqok HSTEPi
        unfold St.cells at hdo
        dsimp only at hdo HLB hrw
        have HRW := run.hid hrw
        generalize hlets : St.lets _ W = lets at *
        clear hlets
        generalize row.length = m at *
        have HDO := run.hid hdo
        have hbo := run.below_one w5 (.cells #[.int .i64 d, .int .i64 x, .int .i64 y, .string t, .int .i32 sf, .int .i32 sb, .int .u8 sa, .int .i64 rx, .int .i64 ry, .int .i64 rw', .int .i64 rh, .slice qa m qc, .int .i64 by0] 73)
        have HK6 := run.hid (heap_alloc_new w5 (.cells #[.int .i64 d, .int .i64 x, .int .i64 y, .string t, .int .i32 sf, .int .i32 sb, .int .u8 sa, .int .i64 rx, .int .i64 ry, .int .i64 rw', .int .i64 rh, .slice qa m qc, .int .i64 by0] 73))
        have HG6 := run.hid (run.grown_trans HG5.out (grown_below hbo g) (.inl rfl))
        have HB6 := run.hid (HB5.out.below hbo)
        have HR6 := run.hid (HR1.out.below hbo)
        have hq6 : w5.heap.size < (w5.alloc (.cells #[.int .i64 d, .int .i64 x, .int .i64 y, .string t, .int .i32 sf, .int .i32 sb, .int .u8 sa, .int .i64 rx, .int .i64 ry, .int .i64 rw', .int .i64 rh, .slice qa m qc, .int .i64 by0] 73)).heap.size := (Array.getElem?_eq_some_iff.1 HK6.out).1
        have hg5 : g < w5.heap.size := HB5.out.lt.2
        clear hrw hdo hbo HR1 HB5 HG5
        go_upto_region 12 with fail
        clear e0 e1 e2 e3 e4 e5 e6 e7 e8 e9 e10 e11 e12 c2
        generalize w5.alloc (.cells #[.int .i64 d, .int .i64 x, .int .i64 y, .string t, .int .i32 sf, .int .i32 sb, .int .u8 sa, .int .i64 rx, .int .i64 ry, .int .i64 rw', .int .i64 rh, .slice qa m qc, .int .i64 by0] 73) = w6 at *
        generalize w5.heap.size = bx at *
        have k0 := blk_cell HK6.out 0
        change World.cell? _ _ = some (.int .i64 d) at k0
        have k1' := blk_cell HK6.out 1
        change World.cell? _ _ = some (.int .i64 x) at k1'
        have k2 := blk_cell HK6.out 2
        change World.cell? _ _ = some (.int .i64 y) at k2
        have k3 := blk_cell HK6.out 3
        change World.cell? _ _ = some (.string t) at k3
        have k4 := blk_cell HK6.out 4
        change World.cell? _ _ = some (.int .i32 sf) at k4
        have k5 := blk_cell HK6.out 5
        change World.cell? _ _ = some (.int .i32 sb) at k5
        have k6 := blk_cell HK6.out 6
        change World.cell? _ _ = some (.int .u8 sa) at k6
        have k7 := blk_cell HK6.out 7
        change World.cell? _ _ = some (.int .i64 rx) at k7
        have k8 := blk_cell HK6.out 8
        change World.cell? _ _ = some (.int .i64 ry) at k8
        have k9 := blk_cell HK6.out 9
        change World.cell? _ _ = some (.int .i64 rw') at k9
        have k10 := blk_cell HK6.out 10
        change World.cell? _ _ = some (.int .i64 rh) at k10
        have k11 := blk_cell HK6.out 11
        change World.cell? _ _ = some (.slice qa m qc) at k11
        have k12 := blk_cell HK6.out 12
        change World.cell? _ _ = some (.int .i64 by0) at k12
        go_wp2_with fail
        refine (HDO.out w6 HG6.out HB6.out HL.out).mono ?_
        rintro e w7 ⟨rfl, L5, hB7, hN7, hg7⟩
        have HK7 := run.hid ((hg7.block bx hq6 (by simp; omega)).trans HK6.out)
        have HG7 := run.hid (run.grown_trans HG6.out hg7 (.inl rfl))
        have HR7 := run.hid (Reads5.grown2 hlen1.symm HR6.out hg7 HF1.out)
        have HL5 := run.hid hN7.strong
        have HCH := run.hid hN7.chg
        have hlen5 : L5.length = Q := hN7.len.trans HQQ.out.symm
        have hSC := screen_any b g W H L5 w7 hB7
        unfold scrV at hSC
        rw [← HQQ.out] at hSC
        have HSC := run.hid hSC
        have HB7 := run.hid hB7
        clear hSC hB7 hN7 hg7 HDO HK6 HG6 HB6 HR6 HF1 k0 k1' k2 k3 k4 k5 k6 k7 k8 k9 k10 k11 k12
        go_wp2_with fail
        refine HSC.out.mono ?_
        rintro e w8 ⟨v, rfl, hrow2, hb8⟩
        have hrd2 : Reads5 w8 v L5 := reads5_own (by rw [hlen5]; exact hrow2)
        obtain ⟨a2, k2, rfl, hk2⟩ := own_slice hrow2
        have HR2 := run.hid hrd2
        have HR8 := run.hid (show Reads5 w8 (.slice a1 L.length k1) L from by rw [hlen1]; exact (show Reads5 w7 (.slice a1 Q k1) L from HR7.out).below hb8)
        have HK8 := run.hid ((hb8.block bx (Array.getElem?_eq_some_iff.1 HK7.out).1).trans HK7.out)
        have hq8 := (Array.getElem?_eq_some_iff.1 HK8.out).1
        have HG8 := run.hid (run.grown_trans HG7.out (grown_below hb8 g) (.inl rfl))
        have HB8 := run.hid (HB7.out.below hb8)
        have hfld2 := field_scr (.int .i64 W) (.int .i64 H) (.int .i64 0) (.int .i64 0) (.bool false) a2 Q k2 w8
        have HLN1 := run.hid hlen1
        have HLN5 := run.hid hlen5
        clear hrow2 hrd2 hb8 HSC HR7 HK7 HG7 HB7 hlen1 hlen5
        go_upto_region 14 with fail
        clear hfld2
        have hcm2 := HCM.out
        go_upto_region 16 with fail
        clear hcm2
        go_wp2
        go_loopw [11] (fun vk wr => ∃ k : Nat, k ≤ Q ∧ vk = .int .i64 k ∧ Below w8.heap.size w8 wr) (fun vk _ => ((Q : Int) - intOf vk).toNat)
        case atStart => exact ⟨0, Nat.zero_le _, rfl, Below.refl _ _⟩
        case round =>
          obtain ⟨k, hk, rfl, hbel⟩ := hrel
          by_cases hkl : k < Q
          · have hWp : 0 < W := by
              rcases Nat.eq_zero_or_pos W with h0 | h0
              · exfalso
                have := HQQ.out
                rw [h0, Nat.zero_mul] at this
                omega
              · exact h0
            obtain ⟨p1, s1, hp1, hb1, hc1⟩ := reads_cell HR8.out (i := k) (by rw [HLN1.out]; exact hkl)
            obtain ⟨p2, s2, hp2, hb2, hc2⟩ := reads_cell (show Reads5 w8 (.slice a2 L5.length k2) L5 from by rw [HLN5.out]; exact HR2.out) (i := k) (by rw [HLN5.out]; exact hkl)
            subst hp1 hp2
            change Cell5 w8 p1 (s1 + k * 5) (gf L k) at hc1
            change Cell5 w8 p2 (s2 + k * 5) (gf L5 k) at hc2
            have HC1 := run.hid (fun (X : World) (hX : Below w8.heap.size w8 X) => hc1.below hX hb1)
            have HC2 := run.hid (fun (X : World) (hX : Below w8.heap.size w8 X) => hc2.below hX hb2)
            have HKZ := run.hid (fun (X : World) (hX : Below w8.heap.size w8 X) => (hX.block bx hq8).trans HK8.out)
            have HHAS := run.hid (fun (j : Nat) X => show Calls Try.prog 40 #[.agg #[.int .i64 rx, .int .i64 ry, .int .i64 rw', .int .i64 rh], .int .i64 ((j % W : Nat) : Int), .int .i64 ((j / W : Nat) : Int)] X _ from has_any ⟨rx, ry, rw', rh⟩ ((j % W : Nat) : Int) ((j / W : Nat) : Int) X HRW.out)
            have HOT := run.hid (fun (X : World) (hX : Below w8.heap.size w8 X) => show Calls Try.prog 41 #[.slice (some ⟨p1, s1, none⟩) Q k1, .int .i64 (k : Nat)] X _ from by
              have h := other_any (some ⟨p1, s1, none⟩) k1 L k X (HR8.out.below hX) (by rw [HLN1.out]; exact hkl) (by omega)
              rw [HLN1.out] at h
              exact h)
            have HCHk := run.hid (HCH.out k (by rw [← HQQ.out]; exact hkl))
            rw [← HQQ.out] at HCHk
            have hin := HLB.out k
            have HHk := run.hid (HHAS.out k)
            unfold letsB at hin
            generalize hhv : hasT ⟨rx, ry, rw', rh⟩ ((k % W : Nat) : Int) ((k / W : Nat) : Int) = hv at *
            obtain ⟨inv, hinv⟩ : ∃ inv, inv = (hv && decide (1 ≤ d ∧ d ≤ 4 ∧ (d = 2 ∨ d = 4 ∨ ((k / W : Nat) : Int) = y))) := ⟨_, rfl⟩
            rw [← hinv] at hin
            have HIN := run.hid hin
            have HINV := run.hid hinv
            have HBE := run.hid hbel
            have hkb : k ≤ 1048576 := by omega
            obtain ⟨kq, hkq⟩ : ∃ kq : Int, kq = ((k / W : Nat) : Int) := ⟨_, rfl⟩
            have HKQ := run.hid hkq
            rw [← hkq] at HINV
            clear hc1 hc2 hin hinv hhv hbel hkq
            go_upto_region 19 with fail
            go_cut [12] (fun c wx => c = .bool inv ∧ Below w8.heap.size w8 wx)
            case first =>
              cases hv with
              | false =>
                have hiv : inv = false := by rw [HINV.out, Bool.false_and]
                obtain rfl : inv = false := hiv
                clear HOT HCHk HIN HHAS HC1 HC2 HINV
                refine lx.region (fun D X => Below w8.heap.size w8 X) (by kernel_rfl) (by kernel_rfl) (by kernel_rfl) (HBE.out.trans (Below.mono (drewB (Below.refl _ _)) HBE.out.size)) ?_
                refine lx.begin 184 rfl ?_
                refine lx.o_pure (.pointer (some ⟨bx, 7, none⟩)) (fun _ _ h => by first | rfl | kernel_rfl) ?_
                refine lx.o_pure (.agg #[.int .i64 rx, .int .i64 ry, .int .i64 rw', .int .i64 rh]) (fun D X hC => run_loadrect rfl rfl (HKZ.out X hC)) ?_
                refine lx.o_pure (.int .i64 (k : Nat)) (fun _ _ h => by first | rfl | kernel_rfl) ?_
                refine lx.o_pure (.int .i64 (W : Nat)) (fun _ _ h => by first | rfl | kernel_rfl) ?_
                refine lx.o_pure (.int .i64 ((k % W : Nat) : Int)) (fun D X hC => run_remn rfl rfl rfl hWp (by omega)) ?_
                refine lx.o_pure (.int .i64 (k : Nat)) (fun _ _ h => by first | rfl | kernel_rfl) ?_
                refine lx.o_pure (.int .i64 (W : Nat)) (fun _ _ h => by first | rfl | kernel_rfl) ?_
                refine lx.o_pure (.int .i64 ((k / W : Nat) : Int)) (fun D X hC => run_quon rfl rfl rfl hWp (by omega)) ?_
                refine lx.o_call (.bool false) 40 #[.agg #[.int .i64 rx, .int .i64 ry, .int .i64 rw', .int .i64 rh], .int .i64 ((k % W : Nat) : Int), .int .i64 ((k / W : Nat) : Int)] (fun _ _ _ => lx.run_fn rfl rfl rfl (enters_of Try.func40 (by kernel_rfl) rfl)) (fun D X hC => (HHk.out X).mono fun e w2 ⟨he, hw⟩ => ⟨he, hC.trans (hw.mono hC.size)⟩) ?_
                refine lx.o_pure (.bool false) (fun _ _ h => by first | rfl | kernel_rfl) ?_
                refine lx.o_skip ?_
                refine lx.o_skip ?_
                refine lx.o_skip ?_
                refine lx.o_pure (.bool false) (fun _ _ h => by first | rfl | kernel_rfl) ?_
                refine lx.o_pure (.bool false) (fun _ _ h => by first | rfl | kernel_rfl) ?_
                refine lx.o_skip ?_
                refine lx.o_skip ?_
                refine lx.o_skip ?_
                refine lx.o_pure (.bool false) (fun _ _ h => by first | rfl | kernel_rfl) ?_
                refine lx.o_pure (.bool false) (fun _ _ h => by first | rfl | kernel_rfl) ?_
                refine lx.o_skip ?_
                refine lx.o_skip ?_
                refine lx.o_skip ?_
                refine lx.o_skip ?_
                refine lx.o_skip ?_
                refine lx.o_skip ?_
                refine lx.o_skip ?_
                refine lx.o_skip ?_
                refine lx.o_skip ?_
                refine lx.o_skip ?_
                refine lx.o_skip ?_
                refine lx.o_skip ?_
                refine lx.o_skip ?_
                refine lx.o_skip ?_
                refine lx.o_skip ?_
                refine lx.o_skip ?_
                refine lx.o_pure (.bool false) (fun _ _ h => by first | rfl | kernel_rfl) ?_
                refine lx.o_pure (.bool false) (fun _ _ h => by first | rfl | kernel_rfl) ?_
                refine lx.o_end ?_
                simp only [lx.ov]
                rintro X9 d9 hd9 hC
                have HF := run.hid hC
                clear hC hd9
                go_simp
                go_wp2
                go_meet
                case rel => exact ⟨rfl, HF.out⟩
              | true =>
                by_cases h1 : 1 ≤ d
                rotate_left
                · have hiv : inv = false := by rw [HINV.out]; simp; omega
                  obtain rfl : inv = false := hiv
                  clear HOT HCHk HIN HHAS HC1 HC2 HINV
                  refine lx.region (fun D X => Below w8.heap.size w8 X) (by kernel_rfl) (by kernel_rfl) (by kernel_rfl) (HBE.out.trans (Below.mono (drewB (Below.refl _ _)) HBE.out.size)) ?_
                  refine lx.begin 184 rfl ?_
                  refine lx.o_pure (.pointer (some ⟨bx, 7, none⟩)) (fun _ _ h => by first | rfl | kernel_rfl) ?_
                  refine lx.o_pure (.agg #[.int .i64 rx, .int .i64 ry, .int .i64 rw', .int .i64 rh]) (fun D X hC => run_loadrect rfl rfl (HKZ.out X hC)) ?_
                  refine lx.o_pure (.int .i64 (k : Nat)) (fun _ _ h => by first | rfl | kernel_rfl) ?_
                  refine lx.o_pure (.int .i64 (W : Nat)) (fun _ _ h => by first | rfl | kernel_rfl) ?_
                  refine lx.o_pure (.int .i64 ((k % W : Nat) : Int)) (fun D X hC => run_remn rfl rfl rfl hWp (by omega)) ?_
                  refine lx.o_pure (.int .i64 (k : Nat)) (fun _ _ h => by first | rfl | kernel_rfl) ?_
                  refine lx.o_pure (.int .i64 (W : Nat)) (fun _ _ h => by first | rfl | kernel_rfl) ?_
                  refine lx.o_pure (.int .i64 ((k / W : Nat) : Int)) (fun D X hC => run_quon rfl rfl rfl hWp (by omega)) ?_
                  refine lx.o_call (.bool true) 40 #[.agg #[.int .i64 rx, .int .i64 ry, .int .i64 rw', .int .i64 rh], .int .i64 ((k % W : Nat) : Int), .int .i64 ((k / W : Nat) : Int)] (fun _ _ _ => lx.run_fn rfl rfl rfl (enters_of Try.func40 (by kernel_rfl) rfl)) (fun D X hC => (HHk.out X).mono fun e w2 ⟨he, hw⟩ => ⟨he, hC.trans (hw.mono hC.size)⟩) ?_
                  refine lx.o_pure (.bool true) (fun _ _ h => by first | rfl | kernel_rfl) ?_
                  refine lx.o_pure (.pointer (some ⟨bx, 0, none⟩)) (fun _ _ h => by first | rfl | kernel_rfl) ?_
                  refine lx.o_pure (.int .i64 d) (fun D X hC => lx.run_load rfl rfl Try.underlying3 rfl (blk_cell (HKZ.out X hC) 0)) ?_
                  refine lx.o_pure (.bool false) (fun D X hC => run_geqn_f rfl rfl rfl (by omega)) ?_
                  refine lx.o_pure (.bool false) (fun _ _ h => by first | rfl | kernel_rfl) ?_
                  refine lx.o_pure (.bool false) (fun _ _ h => by first | rfl | kernel_rfl) ?_
                  refine lx.o_skip ?_
                  refine lx.o_skip ?_
                  refine lx.o_skip ?_
                  refine lx.o_pure (.bool false) (fun _ _ h => by first | rfl | kernel_rfl) ?_
                  refine lx.o_pure (.bool false) (fun _ _ h => by first | rfl | kernel_rfl) ?_
                  refine lx.o_skip ?_
                  refine lx.o_skip ?_
                  refine lx.o_skip ?_
                  refine lx.o_skip ?_
                  refine lx.o_skip ?_
                  refine lx.o_skip ?_
                  refine lx.o_skip ?_
                  refine lx.o_skip ?_
                  refine lx.o_skip ?_
                  refine lx.o_skip ?_
                  refine lx.o_skip ?_
                  refine lx.o_skip ?_
                  refine lx.o_skip ?_
                  refine lx.o_skip ?_
                  refine lx.o_skip ?_
                  refine lx.o_skip ?_
                  refine lx.o_pure (.bool false) (fun _ _ h => by first | rfl | kernel_rfl) ?_
                  refine lx.o_pure (.bool false) (fun _ _ h => by first | rfl | kernel_rfl) ?_
                  refine lx.o_end ?_
                  simp only [lx.ov]
                  rintro X9 d9 hd9 hC
                  have HF := run.hid hC
                  clear hC hd9
                  go_simp
                  go_wp2
                  go_meet
                  case rel => exact ⟨rfl, HF.out⟩
                by_cases h2 : d ≤ 4
                rotate_left
                · have hiv : inv = false := by rw [HINV.out]; simp; omega
                  obtain rfl : inv = false := hiv
                  clear HOT HCHk HIN HHAS HC1 HC2 HINV
                  refine lx.region (fun D X => Below w8.heap.size w8 X) (by kernel_rfl) (by kernel_rfl) (by kernel_rfl) (HBE.out.trans (Below.mono (drewB (Below.refl _ _)) HBE.out.size)) ?_
                  refine lx.begin 184 rfl ?_
                  refine lx.o_pure (.pointer (some ⟨bx, 7, none⟩)) (fun _ _ h => by first | rfl | kernel_rfl) ?_
                  refine lx.o_pure (.agg #[.int .i64 rx, .int .i64 ry, .int .i64 rw', .int .i64 rh]) (fun D X hC => run_loadrect rfl rfl (HKZ.out X hC)) ?_
                  refine lx.o_pure (.int .i64 (k : Nat)) (fun _ _ h => by first | rfl | kernel_rfl) ?_
                  refine lx.o_pure (.int .i64 (W : Nat)) (fun _ _ h => by first | rfl | kernel_rfl) ?_
                  refine lx.o_pure (.int .i64 ((k % W : Nat) : Int)) (fun D X hC => run_remn rfl rfl rfl hWp (by omega)) ?_
                  refine lx.o_pure (.int .i64 (k : Nat)) (fun _ _ h => by first | rfl | kernel_rfl) ?_
                  refine lx.o_pure (.int .i64 (W : Nat)) (fun _ _ h => by first | rfl | kernel_rfl) ?_
                  refine lx.o_pure (.int .i64 ((k / W : Nat) : Int)) (fun D X hC => run_quon rfl rfl rfl hWp (by omega)) ?_
                  refine lx.o_call (.bool true) 40 #[.agg #[.int .i64 rx, .int .i64 ry, .int .i64 rw', .int .i64 rh], .int .i64 ((k % W : Nat) : Int), .int .i64 ((k / W : Nat) : Int)] (fun _ _ _ => lx.run_fn rfl rfl rfl (enters_of Try.func40 (by kernel_rfl) rfl)) (fun D X hC => (HHk.out X).mono fun e w2 ⟨he, hw⟩ => ⟨he, hC.trans (hw.mono hC.size)⟩) ?_
                  refine lx.o_pure (.bool true) (fun _ _ h => by first | rfl | kernel_rfl) ?_
                  refine lx.o_pure (.pointer (some ⟨bx, 0, none⟩)) (fun _ _ h => by first | rfl | kernel_rfl) ?_
                  refine lx.o_pure (.int .i64 d) (fun D X hC => lx.run_load rfl rfl Try.underlying3 rfl (blk_cell (HKZ.out X hC) 0)) ?_
                  refine lx.o_pure (.bool true) (fun D X hC => run_geqn_t rfl rfl rfl (by omega)) ?_
                  refine lx.o_pure (.bool true) (fun _ _ h => by first | rfl | kernel_rfl) ?_
                  refine lx.o_pure (.bool true) (fun _ _ h => by first | rfl | kernel_rfl) ?_
                  refine lx.o_pure (.pointer (some ⟨bx, 0, none⟩)) (fun _ _ h => by first | rfl | kernel_rfl) ?_
                  refine lx.o_pure (.int .i64 d) (fun D X hC => lx.run_load rfl rfl Try.underlying3 rfl (blk_cell (HKZ.out X hC) 0)) ?_
                  refine lx.o_pure (.bool false) (fun D X hC => run_leqn_f rfl rfl rfl (by omega)) ?_
                  refine lx.o_pure (.bool false) (fun _ _ h => by first | rfl | kernel_rfl) ?_
                  refine lx.o_pure (.bool false) (fun _ _ h => by first | rfl | kernel_rfl) ?_
                  refine lx.o_skip ?_
                  refine lx.o_skip ?_
                  refine lx.o_skip ?_
                  refine lx.o_skip ?_
                  refine lx.o_skip ?_
                  refine lx.o_skip ?_
                  refine lx.o_skip ?_
                  refine lx.o_skip ?_
                  refine lx.o_skip ?_
                  refine lx.o_skip ?_
                  refine lx.o_skip ?_
                  refine lx.o_skip ?_
                  refine lx.o_skip ?_
                  refine lx.o_skip ?_
                  refine lx.o_skip ?_
                  refine lx.o_skip ?_
                  refine lx.o_pure (.bool false) (fun _ _ h => by first | rfl | kernel_rfl) ?_
                  refine lx.o_pure (.bool false) (fun _ _ h => by first | rfl | kernel_rfl) ?_
                  refine lx.o_end ?_
                  simp only [lx.ov]
                  rintro X9 d9 hd9 hC
                  have HF := run.hid hC
                  clear hC hd9
                  go_simp
                  go_wp2
                  go_meet
                  case rel => exact ⟨rfl, HF.out⟩
                by_cases h3 : d = 2
                · have hiv : inv = true := by rw [HINV.out]; simp; omega
                  obtain rfl : inv = true := hiv
                  clear HOT HCHk HIN HHAS HC1 HC2 HINV
                  refine lx.region (fun D X => Below w8.heap.size w8 X) (by kernel_rfl) (by kernel_rfl) (by kernel_rfl) (HBE.out.trans (Below.mono (drewB (Below.refl _ _)) HBE.out.size)) ?_
                  refine lx.begin 184 rfl ?_
                  refine lx.o_pure (.pointer (some ⟨bx, 7, none⟩)) (fun _ _ h => by first | rfl | kernel_rfl) ?_
                  refine lx.o_pure (.agg #[.int .i64 rx, .int .i64 ry, .int .i64 rw', .int .i64 rh]) (fun D X hC => run_loadrect rfl rfl (HKZ.out X hC)) ?_
                  refine lx.o_pure (.int .i64 (k : Nat)) (fun _ _ h => by first | rfl | kernel_rfl) ?_
                  refine lx.o_pure (.int .i64 (W : Nat)) (fun _ _ h => by first | rfl | kernel_rfl) ?_
                  refine lx.o_pure (.int .i64 ((k % W : Nat) : Int)) (fun D X hC => run_remn rfl rfl rfl hWp (by omega)) ?_
                  refine lx.o_pure (.int .i64 (k : Nat)) (fun _ _ h => by first | rfl | kernel_rfl) ?_
                  refine lx.o_pure (.int .i64 (W : Nat)) (fun _ _ h => by first | rfl | kernel_rfl) ?_
                  refine lx.o_pure (.int .i64 ((k / W : Nat) : Int)) (fun D X hC => run_quon rfl rfl rfl hWp (by omega)) ?_
                  refine lx.o_call (.bool true) 40 #[.agg #[.int .i64 rx, .int .i64 ry, .int .i64 rw', .int .i64 rh], .int .i64 ((k % W : Nat) : Int), .int .i64 ((k / W : Nat) : Int)] (fun _ _ _ => lx.run_fn rfl rfl rfl (enters_of Try.func40 (by kernel_rfl) rfl)) (fun D X hC => (HHk.out X).mono fun e w2 ⟨he, hw⟩ => ⟨he, hC.trans (hw.mono hC.size)⟩) ?_
                  refine lx.o_pure (.bool true) (fun _ _ h => by first | rfl | kernel_rfl) ?_
                  refine lx.o_pure (.pointer (some ⟨bx, 0, none⟩)) (fun _ _ h => by first | rfl | kernel_rfl) ?_
                  refine lx.o_pure (.int .i64 d) (fun D X hC => lx.run_load rfl rfl Try.underlying3 rfl (blk_cell (HKZ.out X hC) 0)) ?_
                  refine lx.o_pure (.bool true) (fun D X hC => run_geqn_t rfl rfl rfl (by omega)) ?_
                  refine lx.o_pure (.bool true) (fun _ _ h => by first | rfl | kernel_rfl) ?_
                  refine lx.o_pure (.bool true) (fun _ _ h => by first | rfl | kernel_rfl) ?_
                  refine lx.o_pure (.pointer (some ⟨bx, 0, none⟩)) (fun _ _ h => by first | rfl | kernel_rfl) ?_
                  refine lx.o_pure (.int .i64 d) (fun D X hC => lx.run_load rfl rfl Try.underlying3 rfl (blk_cell (HKZ.out X hC) 0)) ?_
                  refine lx.o_pure (.bool true) (fun D X hC => run_leqn_t rfl rfl rfl (by omega)) ?_
                  refine lx.o_pure (.bool true) (fun _ _ h => by first | rfl | kernel_rfl) ?_
                  refine lx.o_pure (.bool true) (fun _ _ h => by first | rfl | kernel_rfl) ?_
                  refine lx.o_pure (.pointer (some ⟨bx, 0, none⟩)) (fun _ _ h => by first | rfl | kernel_rfl) ?_
                  refine lx.o_pure (.int .i64 d) (fun D X hC => lx.run_load rfl rfl Try.underlying3 rfl (blk_cell (HKZ.out X hC) 0)) ?_
                  refine lx.o_pure (.bool true) (fun D X hC => run_eqint_t rfl rfl rfl (by omega)) ?_
                  refine lx.o_pure (.bool true) (fun _ _ h => by first | rfl | kernel_rfl) ?_
                  refine lx.o_skip ?_
                  refine lx.o_skip ?_
                  refine lx.o_skip ?_
                  refine lx.o_pure (.bool true) (fun _ _ h => by first | rfl | kernel_rfl) ?_
                  refine lx.o_pure (.bool true) (fun _ _ h => by first | rfl | kernel_rfl) ?_
                  refine lx.o_skip ?_
                  refine lx.o_skip ?_
                  refine lx.o_skip ?_
                  refine lx.o_skip ?_
                  refine lx.o_skip ?_
                  refine lx.o_skip ?_
                  refine lx.o_pure (.bool true) (fun _ _ h => by first | rfl | kernel_rfl) ?_
                  refine lx.o_pure (.bool true) (fun _ _ h => by first | rfl | kernel_rfl) ?_
                  refine lx.o_pure (.bool true) (fun _ _ h => by first | rfl | kernel_rfl) ?_
                  refine lx.o_end ?_
                  simp only [lx.ov]
                  rintro X9 d9 hd9 hC
                  have HF := run.hid hC
                  clear hC hd9
                  clear h3
                  go_simp
                  go_wp2
                  go_meet
                  case rel => exact ⟨rfl, HF.out⟩
                by_cases h4 : d = 4
                · have hiv : inv = true := by rw [HINV.out]; simp; omega
                  obtain rfl : inv = true := hiv
                  clear HOT HCHk HIN HHAS HC1 HC2 HINV
                  refine lx.region (fun D X => Below w8.heap.size w8 X) (by kernel_rfl) (by kernel_rfl) (by kernel_rfl) (HBE.out.trans (Below.mono (drewB (Below.refl _ _)) HBE.out.size)) ?_
                  refine lx.begin 184 rfl ?_
                  refine lx.o_pure (.pointer (some ⟨bx, 7, none⟩)) (fun _ _ h => by first | rfl | kernel_rfl) ?_
                  refine lx.o_pure (.agg #[.int .i64 rx, .int .i64 ry, .int .i64 rw', .int .i64 rh]) (fun D X hC => run_loadrect rfl rfl (HKZ.out X hC)) ?_
                  refine lx.o_pure (.int .i64 (k : Nat)) (fun _ _ h => by first | rfl | kernel_rfl) ?_
                  refine lx.o_pure (.int .i64 (W : Nat)) (fun _ _ h => by first | rfl | kernel_rfl) ?_
                  refine lx.o_pure (.int .i64 ((k % W : Nat) : Int)) (fun D X hC => run_remn rfl rfl rfl hWp (by omega)) ?_
                  refine lx.o_pure (.int .i64 (k : Nat)) (fun _ _ h => by first | rfl | kernel_rfl) ?_
                  refine lx.o_pure (.int .i64 (W : Nat)) (fun _ _ h => by first | rfl | kernel_rfl) ?_
                  refine lx.o_pure (.int .i64 ((k / W : Nat) : Int)) (fun D X hC => run_quon rfl rfl rfl hWp (by omega)) ?_
                  refine lx.o_call (.bool true) 40 #[.agg #[.int .i64 rx, .int .i64 ry, .int .i64 rw', .int .i64 rh], .int .i64 ((k % W : Nat) : Int), .int .i64 ((k / W : Nat) : Int)] (fun _ _ _ => lx.run_fn rfl rfl rfl (enters_of Try.func40 (by kernel_rfl) rfl)) (fun D X hC => (HHk.out X).mono fun e w2 ⟨he, hw⟩ => ⟨he, hC.trans (hw.mono hC.size)⟩) ?_
                  refine lx.o_pure (.bool true) (fun _ _ h => by first | rfl | kernel_rfl) ?_
                  refine lx.o_pure (.pointer (some ⟨bx, 0, none⟩)) (fun _ _ h => by first | rfl | kernel_rfl) ?_
                  refine lx.o_pure (.int .i64 d) (fun D X hC => lx.run_load rfl rfl Try.underlying3 rfl (blk_cell (HKZ.out X hC) 0)) ?_
                  refine lx.o_pure (.bool true) (fun D X hC => run_geqn_t rfl rfl rfl (by omega)) ?_
                  refine lx.o_pure (.bool true) (fun _ _ h => by first | rfl | kernel_rfl) ?_
                  refine lx.o_pure (.bool true) (fun _ _ h => by first | rfl | kernel_rfl) ?_
                  refine lx.o_pure (.pointer (some ⟨bx, 0, none⟩)) (fun _ _ h => by first | rfl | kernel_rfl) ?_
                  refine lx.o_pure (.int .i64 d) (fun D X hC => lx.run_load rfl rfl Try.underlying3 rfl (blk_cell (HKZ.out X hC) 0)) ?_
                  refine lx.o_pure (.bool true) (fun D X hC => run_leqn_t rfl rfl rfl (by omega)) ?_
                  refine lx.o_pure (.bool true) (fun _ _ h => by first | rfl | kernel_rfl) ?_
                  refine lx.o_pure (.bool true) (fun _ _ h => by first | rfl | kernel_rfl) ?_
                  refine lx.o_pure (.pointer (some ⟨bx, 0, none⟩)) (fun _ _ h => by first | rfl | kernel_rfl) ?_
                  refine lx.o_pure (.int .i64 d) (fun D X hC => lx.run_load rfl rfl Try.underlying3 rfl (blk_cell (HKZ.out X hC) 0)) ?_
                  refine lx.o_pure (.bool false) (fun D X hC => run_eqint_f rfl rfl rfl (by omega)) ?_
                  refine lx.o_pure (.bool false) (fun _ _ h => by first | rfl | kernel_rfl) ?_
                  refine lx.o_pure (.pointer (some ⟨bx, 0, none⟩)) (fun _ _ h => by first | rfl | kernel_rfl) ?_
                  refine lx.o_pure (.int .i64 d) (fun D X hC => lx.run_load rfl rfl Try.underlying3 rfl (blk_cell (HKZ.out X hC) 0)) ?_
                  refine lx.o_pure (.bool true) (fun D X hC => run_eqint_t rfl rfl rfl (by omega)) ?_
                  refine lx.o_pure (.bool true) (fun _ _ h => by first | rfl | kernel_rfl) ?_
                  refine lx.o_pure (.bool true) (fun _ _ h => by first | rfl | kernel_rfl) ?_
                  refine lx.o_skip ?_
                  refine lx.o_skip ?_
                  refine lx.o_skip ?_
                  refine lx.o_skip ?_
                  refine lx.o_skip ?_
                  refine lx.o_skip ?_
                  refine lx.o_pure (.bool true) (fun _ _ h => by first | rfl | kernel_rfl) ?_
                  refine lx.o_pure (.bool true) (fun _ _ h => by first | rfl | kernel_rfl) ?_
                  refine lx.o_pure (.bool true) (fun _ _ h => by first | rfl | kernel_rfl) ?_
                  refine lx.o_end ?_
                  simp only [lx.ov]
                  rintro X9 d9 hd9 hC
                  have HF := run.hid hC
                  clear hC hd9
                  clear h4
                  go_simp
                  go_wp2
                  go_meet
                  case rel => exact ⟨rfl, HF.out⟩
                by_cases h5 : kq = y
                · have hiv : inv = true := by rw [HINV.out]; simp; omega
                  obtain rfl : inv = true := hiv
                  have hyq : ((k / W : Nat) : Int) = y := by rw [← HKQ.out]; exact h5
                  clear HOT HCHk HIN HHAS HC1 HC2 HINV
                  refine lx.region (fun D X => Below w8.heap.size w8 X) (by kernel_rfl) (by kernel_rfl) (by kernel_rfl) (HBE.out.trans (Below.mono (drewB (Below.refl _ _)) HBE.out.size)) ?_
                  refine lx.begin 184 rfl ?_
                  refine lx.o_pure (.pointer (some ⟨bx, 7, none⟩)) (fun _ _ h => by first | rfl | kernel_rfl) ?_
                  refine lx.o_pure (.agg #[.int .i64 rx, .int .i64 ry, .int .i64 rw', .int .i64 rh]) (fun D X hC => run_loadrect rfl rfl (HKZ.out X hC)) ?_
                  refine lx.o_pure (.int .i64 (k : Nat)) (fun _ _ h => by first | rfl | kernel_rfl) ?_
                  refine lx.o_pure (.int .i64 (W : Nat)) (fun _ _ h => by first | rfl | kernel_rfl) ?_
                  refine lx.o_pure (.int .i64 ((k % W : Nat) : Int)) (fun D X hC => run_remn rfl rfl rfl hWp (by omega)) ?_
                  refine lx.o_pure (.int .i64 (k : Nat)) (fun _ _ h => by first | rfl | kernel_rfl) ?_
                  refine lx.o_pure (.int .i64 (W : Nat)) (fun _ _ h => by first | rfl | kernel_rfl) ?_
                  refine lx.o_pure (.int .i64 ((k / W : Nat) : Int)) (fun D X hC => run_quon rfl rfl rfl hWp (by omega)) ?_
                  refine lx.o_call (.bool true) 40 #[.agg #[.int .i64 rx, .int .i64 ry, .int .i64 rw', .int .i64 rh], .int .i64 ((k % W : Nat) : Int), .int .i64 ((k / W : Nat) : Int)] (fun _ _ _ => lx.run_fn rfl rfl rfl (enters_of Try.func40 (by kernel_rfl) rfl)) (fun D X hC => (HHk.out X).mono fun e w2 ⟨he, hw⟩ => ⟨he, hC.trans (hw.mono hC.size)⟩) ?_
                  refine lx.o_pure (.bool true) (fun _ _ h => by first | rfl | kernel_rfl) ?_
                  refine lx.o_pure (.pointer (some ⟨bx, 0, none⟩)) (fun _ _ h => by first | rfl | kernel_rfl) ?_
                  refine lx.o_pure (.int .i64 d) (fun D X hC => lx.run_load rfl rfl Try.underlying3 rfl (blk_cell (HKZ.out X hC) 0)) ?_
                  refine lx.o_pure (.bool true) (fun D X hC => run_geqn_t rfl rfl rfl (by omega)) ?_
                  refine lx.o_pure (.bool true) (fun _ _ h => by first | rfl | kernel_rfl) ?_
                  refine lx.o_pure (.bool true) (fun _ _ h => by first | rfl | kernel_rfl) ?_
                  refine lx.o_pure (.pointer (some ⟨bx, 0, none⟩)) (fun _ _ h => by first | rfl | kernel_rfl) ?_
                  refine lx.o_pure (.int .i64 d) (fun D X hC => lx.run_load rfl rfl Try.underlying3 rfl (blk_cell (HKZ.out X hC) 0)) ?_
                  refine lx.o_pure (.bool true) (fun D X hC => run_leqn_t rfl rfl rfl (by omega)) ?_
                  refine lx.o_pure (.bool true) (fun _ _ h => by first | rfl | kernel_rfl) ?_
                  refine lx.o_pure (.bool true) (fun _ _ h => by first | rfl | kernel_rfl) ?_
                  refine lx.o_pure (.pointer (some ⟨bx, 0, none⟩)) (fun _ _ h => by first | rfl | kernel_rfl) ?_
                  refine lx.o_pure (.int .i64 d) (fun D X hC => lx.run_load rfl rfl Try.underlying3 rfl (blk_cell (HKZ.out X hC) 0)) ?_
                  refine lx.o_pure (.bool false) (fun D X hC => run_eqint_f rfl rfl rfl (by omega)) ?_
                  refine lx.o_pure (.bool false) (fun _ _ h => by first | rfl | kernel_rfl) ?_
                  refine lx.o_pure (.pointer (some ⟨bx, 0, none⟩)) (fun _ _ h => by first | rfl | kernel_rfl) ?_
                  refine lx.o_pure (.int .i64 d) (fun D X hC => lx.run_load rfl rfl Try.underlying3 rfl (blk_cell (HKZ.out X hC) 0)) ?_
                  refine lx.o_pure (.bool false) (fun D X hC => run_eqint_f rfl rfl rfl (by omega)) ?_
                  refine lx.o_pure (.bool false) (fun _ _ h => by first | rfl | kernel_rfl) ?_
                  refine lx.o_pure (.bool false) (fun _ _ h => by first | rfl | kernel_rfl) ?_
                  refine lx.o_pure (.int .i64 (k : Nat)) (fun _ _ h => by first | rfl | kernel_rfl) ?_
                  refine lx.o_pure (.int .i64 (W : Nat)) (fun _ _ h => by first | rfl | kernel_rfl) ?_
                  refine lx.o_pure (.int .i64 ((k / W : Nat) : Int)) (fun D X hC => run_quon rfl rfl rfl hWp (by omega)) ?_
                  refine lx.o_pure (.pointer (some ⟨bx, 2, none⟩)) (fun _ _ h => by first | rfl | kernel_rfl) ?_
                  refine lx.o_pure (.int .i64 y) (fun D X hC => lx.run_load rfl rfl Try.underlying3 rfl (blk_cell (HKZ.out X hC) 2)) ?_
                  refine lx.o_pure (.bool true) (fun D X hC => run_eqint_t rfl rfl rfl (hyq)) ?_
                  refine lx.o_pure (.bool true) (fun _ _ h => by first | rfl | kernel_rfl) ?_
                  refine lx.o_pure (.bool true) (fun _ _ h => by first | rfl | kernel_rfl) ?_
                  refine lx.o_pure (.bool true) (fun _ _ h => by first | rfl | kernel_rfl) ?_
                  refine lx.o_end ?_
                  simp only [lx.ov]
                  rintro X9 d9 hd9 hC
                  have HF := run.hid hC
                  clear hC hd9
                  clear h5
                  clear hyq
                  go_simp
                  go_wp2
                  go_meet
                  case rel => exact ⟨rfl, HF.out⟩
                · have hiv : inv = false := by rw [HINV.out]; simp; omega
                  obtain rfl : inv = false := hiv
                  have hyq : ((k / W : Nat) : Int) ≠ y := by rw [← HKQ.out]; exact h5
                  clear HOT HCHk HIN HHAS HC1 HC2 HINV
                  refine lx.region (fun D X => Below w8.heap.size w8 X) (by kernel_rfl) (by kernel_rfl) (by kernel_rfl) (HBE.out.trans (Below.mono (drewB (Below.refl _ _)) HBE.out.size)) ?_
                  refine lx.begin 184 rfl ?_
                  refine lx.o_pure (.pointer (some ⟨bx, 7, none⟩)) (fun _ _ h => by first | rfl | kernel_rfl) ?_
                  refine lx.o_pure (.agg #[.int .i64 rx, .int .i64 ry, .int .i64 rw', .int .i64 rh]) (fun D X hC => run_loadrect rfl rfl (HKZ.out X hC)) ?_
                  refine lx.o_pure (.int .i64 (k : Nat)) (fun _ _ h => by first | rfl | kernel_rfl) ?_
                  refine lx.o_pure (.int .i64 (W : Nat)) (fun _ _ h => by first | rfl | kernel_rfl) ?_
                  refine lx.o_pure (.int .i64 ((k % W : Nat) : Int)) (fun D X hC => run_remn rfl rfl rfl hWp (by omega)) ?_
                  refine lx.o_pure (.int .i64 (k : Nat)) (fun _ _ h => by first | rfl | kernel_rfl) ?_
                  refine lx.o_pure (.int .i64 (W : Nat)) (fun _ _ h => by first | rfl | kernel_rfl) ?_
                  refine lx.o_pure (.int .i64 ((k / W : Nat) : Int)) (fun D X hC => run_quon rfl rfl rfl hWp (by omega)) ?_
                  refine lx.o_call (.bool true) 40 #[.agg #[.int .i64 rx, .int .i64 ry, .int .i64 rw', .int .i64 rh], .int .i64 ((k % W : Nat) : Int), .int .i64 ((k / W : Nat) : Int)] (fun _ _ _ => lx.run_fn rfl rfl rfl (enters_of Try.func40 (by kernel_rfl) rfl)) (fun D X hC => (HHk.out X).mono fun e w2 ⟨he, hw⟩ => ⟨he, hC.trans (hw.mono hC.size)⟩) ?_
                  refine lx.o_pure (.bool true) (fun _ _ h => by first | rfl | kernel_rfl) ?_
                  refine lx.o_pure (.pointer (some ⟨bx, 0, none⟩)) (fun _ _ h => by first | rfl | kernel_rfl) ?_
                  refine lx.o_pure (.int .i64 d) (fun D X hC => lx.run_load rfl rfl Try.underlying3 rfl (blk_cell (HKZ.out X hC) 0)) ?_
                  refine lx.o_pure (.bool true) (fun D X hC => run_geqn_t rfl rfl rfl (by omega)) ?_
                  refine lx.o_pure (.bool true) (fun _ _ h => by first | rfl | kernel_rfl) ?_
                  refine lx.o_pure (.bool true) (fun _ _ h => by first | rfl | kernel_rfl) ?_
                  refine lx.o_pure (.pointer (some ⟨bx, 0, none⟩)) (fun _ _ h => by first | rfl | kernel_rfl) ?_
                  refine lx.o_pure (.int .i64 d) (fun D X hC => lx.run_load rfl rfl Try.underlying3 rfl (blk_cell (HKZ.out X hC) 0)) ?_
                  refine lx.o_pure (.bool true) (fun D X hC => run_leqn_t rfl rfl rfl (by omega)) ?_
                  refine lx.o_pure (.bool true) (fun _ _ h => by first | rfl | kernel_rfl) ?_
                  refine lx.o_pure (.bool true) (fun _ _ h => by first | rfl | kernel_rfl) ?_
                  refine lx.o_pure (.pointer (some ⟨bx, 0, none⟩)) (fun _ _ h => by first | rfl | kernel_rfl) ?_
                  refine lx.o_pure (.int .i64 d) (fun D X hC => lx.run_load rfl rfl Try.underlying3 rfl (blk_cell (HKZ.out X hC) 0)) ?_
                  refine lx.o_pure (.bool false) (fun D X hC => run_eqint_f rfl rfl rfl (by omega)) ?_
                  refine lx.o_pure (.bool false) (fun _ _ h => by first | rfl | kernel_rfl) ?_
                  refine lx.o_pure (.pointer (some ⟨bx, 0, none⟩)) (fun _ _ h => by first | rfl | kernel_rfl) ?_
                  refine lx.o_pure (.int .i64 d) (fun D X hC => lx.run_load rfl rfl Try.underlying3 rfl (blk_cell (HKZ.out X hC) 0)) ?_
                  refine lx.o_pure (.bool false) (fun D X hC => run_eqint_f rfl rfl rfl (by omega)) ?_
                  refine lx.o_pure (.bool false) (fun _ _ h => by first | rfl | kernel_rfl) ?_
                  refine lx.o_pure (.bool false) (fun _ _ h => by first | rfl | kernel_rfl) ?_
                  refine lx.o_pure (.int .i64 (k : Nat)) (fun _ _ h => by first | rfl | kernel_rfl) ?_
                  refine lx.o_pure (.int .i64 (W : Nat)) (fun _ _ h => by first | rfl | kernel_rfl) ?_
                  refine lx.o_pure (.int .i64 ((k / W : Nat) : Int)) (fun D X hC => run_quon rfl rfl rfl hWp (by omega)) ?_
                  refine lx.o_pure (.pointer (some ⟨bx, 2, none⟩)) (fun _ _ h => by first | rfl | kernel_rfl) ?_
                  refine lx.o_pure (.int .i64 y) (fun D X hC => lx.run_load rfl rfl Try.underlying3 rfl (blk_cell (HKZ.out X hC) 2)) ?_
                  refine lx.o_pure (.bool false) (fun D X hC => run_eqint_f rfl rfl rfl (hyq)) ?_
                  refine lx.o_pure (.bool false) (fun _ _ h => by first | rfl | kernel_rfl) ?_
                  refine lx.o_pure (.bool false) (fun _ _ h => by first | rfl | kernel_rfl) ?_
                  refine lx.o_pure (.bool false) (fun _ _ h => by first | rfl | kernel_rfl) ?_
                  refine lx.o_end ?_
                  simp only [lx.ov]
                  rintro X9 d9 hd9 hC
                  have HF := run.hid hC
                  clear hC hd9
                  clear hyq
                  go_simp
                  go_wp2
                  go_meet
                  case rel => exact ⟨rfl, HF.out⟩
            case rest =>
              obtain ⟨rfl, hbel2⟩ := hcut
              have HB2 := run.hid hbel2
              clear hbel2 HBE HINV HKQ
              have HXK := run.hid (fun (hn : ¬ lets k) => HCHk.out hn)
              clear HCHk
              cases inv with
              | true =>
                clear HOT HXK HHAS HHk HIN HC1 HC2
                go_upto_region 20 with fail
                refine lx.region (fun D X => Below w8.heap.size w8 X) (by kernel_rfl) (by kernel_rfl) (by kernel_rfl) (HB2.out.trans (Below.mono (drewB (Below.refl _ _)) HB2.out.size)) ?_
                refine lx.begin 184 rfl ?_
                refine lx.o_pure (.bool true) (fun _ _ h => by first | rfl | kernel_rfl) ?_
                refine lx.o_pure (.bool true) (fun _ _ h => by first | rfl | kernel_rfl) ?_
                refine lx.o_skip ?_
                refine lx.o_skip ?_
                refine lx.o_skip ?_
                refine lx.o_skip ?_
                refine lx.o_skip ?_
                refine lx.o_skip ?_
                refine lx.o_skip ?_
                refine lx.o_skip ?_
                refine lx.o_skip ?_
                refine lx.o_pure (.bool true) (fun _ _ h => by first | rfl | kernel_rfl) ?_
                refine lx.o_end ?_
                simp only [lx.ov]
                rintro X9 d9 hd9 hC
                have HF := run.hid hC
                clear hC hd9
                clear HB2
                go_simp
                go_wp2
                go_roundw
                case rel => exact ⟨k + 1, by omega, by go_num, HF.out⟩
                case measure => simp [intOf]; omega
              | false =>
                have hnl : ¬ lets k := fun h => by have := HIN.out.1 h; cases this
                have hch := HXK.out hnl
                clear HXK hnl HIN HHk
                by_cases hx : gf L k = gf L5 k
                · clear hch HOT HHAS
                  generalize gf L k = x0 at *
                  generalize gf L5 k = x1 at *
                  go_upto_region 20 with fail
                  refine lx.region (fun D X => Below w8.heap.size w8 X) (by kernel_rfl) (by kernel_rfl) (by kernel_rfl) (HB2.out.trans (Below.mono (drewB (Below.refl _ _)) HB2.out.size)) ?_
                  refine lx.begin 184 rfl ?_
                  refine lx.o_pure (.bool false) (fun _ _ h => by first | rfl | kernel_rfl) ?_
                  refine lx.o_pure (.bool false) (fun _ _ h => by first | rfl | kernel_rfl) ?_
                  refine lx.o_pure (.slice (some ⟨p1, s1, none⟩) Q k1) (fun _ _ h => by first | rfl | kernel_rfl) ?_
                  refine lx.o_pure (.int .i64 (k : Nat)) (fun _ _ h => by first | rfl | kernel_rfl) ?_
                  refine lx.o_pure (.pointer (some ⟨p1, s1 + k * 5, none⟩)) (fun D X hC => run_atk rfl rfl rfl hkl hinfC hszC) ?_
                  refine lx.o_pure (CV.val x0) (fun D X hC => run_load5 rfl rfl (HC1.out X hC)) ?_
                  refine lx.o_pure (.slice (some ⟨p2, s2, none⟩) Q k2) (fun _ _ h => by first | rfl | kernel_rfl) ?_
                  refine lx.o_pure (.int .i64 (k : Nat)) (fun _ _ h => by first | rfl | kernel_rfl) ?_
                  refine lx.o_pure (.pointer (some ⟨p2, s2 + k * 5, none⟩)) (fun D X hC => run_atk rfl rfl rfl hkl hinfC hszC) ?_
                  refine lx.o_pure (CV.val x1) (fun D X hC => run_load5 rfl rfl (HC2.out X hC)) ?_
                  refine lx.o_pure (.bool true) (fun D X hC => run_eqcell_t rfl rfl rfl hx) ?_
                  refine lx.o_pure (.bool true) (fun _ _ h => by first | rfl | kernel_rfl) ?_
                  refine lx.o_end ?_
                  simp only [lx.ov]
                  rintro X9 d9 hd9 hC
                  have HF := run.hid hC
                  clear hC hd9
                  clear hx HB2
                  go_simp
                  go_wp2
                  go_roundw
                  case rel => exact ⟨k + 1, by omega, by go_num, HF.out⟩
                  case measure => simp [intOf]; omega
                · obtain ⟨ho1, ho2, ho3, hx5⟩ := hch.resolve_left (fun h => hx h.symm)
                  have HOI := run.hid (other_int ho1)
                  generalize other (gf L) k = o at *
                  have hot := HOT.out
                  rw [HOI.out] at hot
                  have HOU := run.hid hot
                  clear hot HOT HOI
                  have hlo := (HLB.out o).1 ho3
                  unfold letsB at hlo
                  rw [Bool.and_eq_true, decide_eq_true_eq] at hlo
                  obtain ⟨hho, hcd⟩ := hlo
                  have hhas := HHAS.out o
                  rw [hho] at hhas
                  have HHo := run.hid hhas
                  have HCD := run.hid hcd
                  have hok : (o : Int) ≠ (k : Int) := by omega
                  have hoz : ¬ (o : Int) < 0 := by omega
                  have hoq : ¬ (Q : Int) ≤ (o : Int) := by omega
                  generalize gf L k = x0 at *
                  generalize gf L5 k = x1 at *
                  have HBL := run.hid (fun w => blank_any x0.sty w)
                  have HX5 := run.hid hx5
                  have HOK := run.hid hok
                  clear hhas hho hcd ho1 ho3 HHAS hx5 hok
                  go_upto_region 20 with fail
                  refine lx.region (fun D X => Below w8.heap.size w8 X) (by kernel_rfl) (by kernel_rfl) (by kernel_rfl) (HB2.out.trans (Below.mono (drewB (Below.refl _ _)) HB2.out.size)) ?_
                  refine lx.begin 184 rfl ?_
                  refine lx.o_pure (.bool false) (fun _ _ h => by first | rfl | kernel_rfl) ?_
                  refine lx.o_pure (.bool false) (fun _ _ h => by first | rfl | kernel_rfl) ?_
                  refine lx.o_pure (.slice (some ⟨p1, s1, none⟩) Q k1) (fun _ _ h => by first | rfl | kernel_rfl) ?_
                  refine lx.o_pure (.int .i64 (k : Nat)) (fun _ _ h => by first | rfl | kernel_rfl) ?_
                  refine lx.o_pure (.pointer (some ⟨p1, s1 + k * 5, none⟩)) (fun D X hC => run_atk rfl rfl rfl hkl hinfC hszC) ?_
                  refine lx.o_pure (CV.val x0) (fun D X hC => run_load5 rfl rfl (HC1.out X hC)) ?_
                  refine lx.o_pure (.slice (some ⟨p2, s2, none⟩) Q k2) (fun _ _ h => by first | rfl | kernel_rfl) ?_
                  refine lx.o_pure (.int .i64 (k : Nat)) (fun _ _ h => by first | rfl | kernel_rfl) ?_
                  refine lx.o_pure (.pointer (some ⟨p2, s2 + k * 5, none⟩)) (fun D X hC => run_atk rfl rfl rfl hkl hinfC hszC) ?_
                  refine lx.o_pure (CV.val x1) (fun D X hC => run_load5 rfl rfl (HC2.out X hC)) ?_
                  refine lx.o_pure (.bool false) (fun D X hC => run_eqcell_f rfl rfl rfl hx) ?_
                  refine lx.o_pure (.bool false) (fun _ _ h => by first | rfl | kernel_rfl) ?_
                  refine lx.o_end ?_
                  simp only [lx.ov]
                  rintro X9 d9 hd9 hC
                  have HF := run.hid hC
                  clear hC hd9
                  go_simp
                  have HB3 := HF
                  clear HF HB2
                  go_wp2_with fail
                  refine (HOU.out _ HB3.out).mono ?_
                  rintro e w10 ⟨rfl, hb10⟩
                  have HB4x := run.hid (HB3.out.trans (hb10.mono HB3.out.size))
                  clear hb10 HB3 HOU
                  go_upto_region 24 with fail
                  have hx5 := HX5.out
                  have hok := HOK.out
                  clear HX5 HOK hoz hoq
                  by_cases h3 : d = 2
                  · refine lx.region (fun D X => Below w8.heap.size w8 X) (by kernel_rfl) (by kernel_rfl) (by kernel_rfl) (HB4x.out.trans (Below.mono (drewB (Below.refl _ _)) HB4x.out.size)) ?_
                    refine lx.begin 184 rfl ?_
                    refine lx.o_pure (.int .i64 (o : Nat)) (fun _ _ h => by first | rfl | kernel_rfl) ?_
                    refine lx.o_pure (.int .i64 (k : Nat)) (fun _ _ h => by first | rfl | kernel_rfl) ?_
                    refine lx.o_pure (.bool true) (fun D X hC => run_neint_t rfl rfl rfl hok) ?_
                    refine lx.o_pure (.bool true) (fun _ _ h => by first | rfl | kernel_rfl) ?_
                    refine lx.o_pure (.pointer (some ⟨bx, 7, none⟩)) (fun _ _ h => by first | rfl | kernel_rfl) ?_
                    refine lx.o_pure (.agg #[.int .i64 rx, .int .i64 ry, .int .i64 rw', .int .i64 rh]) (fun D X hC => run_loadrect rfl rfl (HKZ.out X hC)) ?_
                    refine lx.o_pure (.int .i64 (o : Nat)) (fun _ _ h => by first | rfl | kernel_rfl) ?_
                    refine lx.o_pure (.int .i64 (W : Nat)) (fun _ _ h => by first | rfl | kernel_rfl) ?_
                    refine lx.o_pure (.int .i64 ((o % W : Nat) : Int)) (fun D X hC => run_remn rfl rfl rfl hWp (by omega)) ?_
                    refine lx.o_pure (.int .i64 (o : Nat)) (fun _ _ h => by first | rfl | kernel_rfl) ?_
                    refine lx.o_pure (.int .i64 (W : Nat)) (fun _ _ h => by first | rfl | kernel_rfl) ?_
                    refine lx.o_pure (.int .i64 ((o / W : Nat) : Int)) (fun D X hC => run_quon rfl rfl rfl hWp (by omega)) ?_
                    refine lx.o_call (.bool true) 40 #[.agg #[.int .i64 rx, .int .i64 ry, .int .i64 rw', .int .i64 rh], .int .i64 ((o % W : Nat) : Int), .int .i64 ((o / W : Nat) : Int)] (fun _ _ _ => lx.run_fn rfl rfl rfl (enters_of Try.func40 (by kernel_rfl) rfl)) (fun D X hC => (HHo.out X).mono fun e w2 ⟨he, hw⟩ => ⟨he, hC.trans (hw.mono hC.size)⟩) ?_
                    refine lx.o_pure (.bool true) (fun _ _ h => by first | rfl | kernel_rfl) ?_
                    refine lx.o_pure (.bool true) (fun _ _ h => by first | rfl | kernel_rfl) ?_
                    refine lx.o_pure (.pointer (some ⟨bx, 0, none⟩)) (fun _ _ h => by first | rfl | kernel_rfl) ?_
                    refine lx.o_pure (.int .i64 d) (fun D X hC => lx.run_load rfl rfl Try.underlying3 rfl (blk_cell (HKZ.out X hC) 0)) ?_
                    refine lx.o_pure (.bool true) (fun D X hC => run_eqint_t rfl rfl rfl (by omega)) ?_
                    refine lx.o_pure (.bool true) (fun _ _ h => by first | rfl | kernel_rfl) ?_
                    refine lx.o_skip ?_
                    refine lx.o_skip ?_
                    refine lx.o_skip ?_
                    refine lx.o_pure (.bool true) (fun _ _ h => by first | rfl | kernel_rfl) ?_
                    refine lx.o_pure (.bool true) (fun _ _ h => by first | rfl | kernel_rfl) ?_
                    refine lx.o_skip ?_
                    refine lx.o_skip ?_
                    refine lx.o_skip ?_
                    refine lx.o_skip ?_
                    refine lx.o_skip ?_
                    refine lx.o_skip ?_
                    refine lx.o_pure (.bool true) (fun _ _ h => by first | rfl | kernel_rfl) ?_
                    refine lx.o_pure (.bool true) (fun _ _ h => by first | rfl | kernel_rfl) ?_
                    refine lx.o_pure (.bool true) (fun _ _ h => by first | rfl | kernel_rfl) ?_
                    refine lx.o_end ?_
                    simp only [lx.ov]
                    rintro X9 d9 hd9 hC
                    have HF := run.hid hC
                    clear hC hd9
                    clear hok HCD h3
                    go_simp
                    go_upto_region 25 with fail
                    have HB2 := HF
                    clear HF
                    refine lx.region (fun D X => Below w8.heap.size w8 X) (by kernel_rfl) (by kernel_rfl) (by kernel_rfl) (HB2.out.trans (Below.mono (drewB (Below.refl _ _)) HB2.out.size)) ?_
                    refine lx.begin 184 rfl ?_
                    refine lx.o_pure (.bool true) (fun _ _ h => by first | rfl | kernel_rfl) ?_
                    refine lx.o_pure (.bool false) (fun _ _ h => by first | rfl | kernel_rfl) ?_
                    refine lx.o_pure (.bool false) (fun _ _ h => by first | rfl | kernel_rfl) ?_
                    refine lx.o_pure (.slice (some ⟨p2, s2, none⟩) Q k2) (fun _ _ h => by first | rfl | kernel_rfl) ?_
                    refine lx.o_pure (.int .i64 (k : Nat)) (fun _ _ h => by first | rfl | kernel_rfl) ?_
                    refine lx.o_pure (.pointer (some ⟨p2, s2 + k * 5, none⟩)) (fun D X hC => run_atk rfl rfl rfl hkl hinfC hszC) ?_
                    refine lx.o_pure (CV.val x1) (fun D X hC => run_load5 rfl rfl (HC2.out X hC)) ?_
                    refine lx.o_pure (.slice (some ⟨p1, s1, none⟩) Q k1) (fun _ _ h => by first | rfl | kernel_rfl) ?_
                    refine lx.o_pure (.int .i64 (k : Nat)) (fun _ _ h => by first | rfl | kernel_rfl) ?_
                    refine lx.o_pure (.pointer (some ⟨p1, s1 + k * 5, none⟩)) (fun D X hC => run_atk rfl rfl rfl hkl hinfC hszC) ?_
                    refine lx.o_pure (.pointer (some ⟨p1, s1 + k * 5 + 2, none⟩)) (fun D X hC => by first | rfl | kernel_rfl) ?_
                    refine lx.o_pure (x0.sty.val) (fun D X hC => run_sty3 rfl rfl (HC1.out X hC)) ?_
                    refine lx.o_call (blankT x0.sty).val 24 #[x0.sty.val] (fun _ _ _ => lx.run_fn rfl rfl rfl (enters_of Try.func24 (by kernel_rfl) rfl)) (fun D X hC => (HBL.out X).mono fun e w2 ⟨he, hw⟩ => ⟨he, hC.trans (hw.mono hC.size)⟩) ?_
                    refine lx.o_pure (.bool false) (fun D X hC => run_necell_f rfl rfl rfl hx5) ?_
                    refine lx.o_pure (.bool false) (fun _ _ h => by first | rfl | kernel_rfl) ?_
                    refine lx.o_end ?_
                    simp only [lx.ov]
                    rintro X9 d9 hd9 hC
                    have HF := run.hid hC
                    clear hC hd9
                    clear hx hx5 HBL HB2 HB4x
                    go_simp
                    go_wp2
                    go_roundw
                    case rel => exact ⟨k + 1, by omega, by go_num, HF.out⟩
                    case measure => simp [intOf]; omega
                  by_cases h4 : d = 4
                  · refine lx.region (fun D X => Below w8.heap.size w8 X) (by kernel_rfl) (by kernel_rfl) (by kernel_rfl) (HB4x.out.trans (Below.mono (drewB (Below.refl _ _)) HB4x.out.size)) ?_
                    refine lx.begin 184 rfl ?_
                    refine lx.o_pure (.int .i64 (o : Nat)) (fun _ _ h => by first | rfl | kernel_rfl) ?_
                    refine lx.o_pure (.int .i64 (k : Nat)) (fun _ _ h => by first | rfl | kernel_rfl) ?_
                    refine lx.o_pure (.bool true) (fun D X hC => run_neint_t rfl rfl rfl hok) ?_
                    refine lx.o_pure (.bool true) (fun _ _ h => by first | rfl | kernel_rfl) ?_
                    refine lx.o_pure (.pointer (some ⟨bx, 7, none⟩)) (fun _ _ h => by first | rfl | kernel_rfl) ?_
                    refine lx.o_pure (.agg #[.int .i64 rx, .int .i64 ry, .int .i64 rw', .int .i64 rh]) (fun D X hC => run_loadrect rfl rfl (HKZ.out X hC)) ?_
                    refine lx.o_pure (.int .i64 (o : Nat)) (fun _ _ h => by first | rfl | kernel_rfl) ?_
                    refine lx.o_pure (.int .i64 (W : Nat)) (fun _ _ h => by first | rfl | kernel_rfl) ?_
                    refine lx.o_pure (.int .i64 ((o % W : Nat) : Int)) (fun D X hC => run_remn rfl rfl rfl hWp (by omega)) ?_
                    refine lx.o_pure (.int .i64 (o : Nat)) (fun _ _ h => by first | rfl | kernel_rfl) ?_
                    refine lx.o_pure (.int .i64 (W : Nat)) (fun _ _ h => by first | rfl | kernel_rfl) ?_
                    refine lx.o_pure (.int .i64 ((o / W : Nat) : Int)) (fun D X hC => run_quon rfl rfl rfl hWp (by omega)) ?_
                    refine lx.o_call (.bool true) 40 #[.agg #[.int .i64 rx, .int .i64 ry, .int .i64 rw', .int .i64 rh], .int .i64 ((o % W : Nat) : Int), .int .i64 ((o / W : Nat) : Int)] (fun _ _ _ => lx.run_fn rfl rfl rfl (enters_of Try.func40 (by kernel_rfl) rfl)) (fun D X hC => (HHo.out X).mono fun e w2 ⟨he, hw⟩ => ⟨he, hC.trans (hw.mono hC.size)⟩) ?_
                    refine lx.o_pure (.bool true) (fun _ _ h => by first | rfl | kernel_rfl) ?_
                    refine lx.o_pure (.bool true) (fun _ _ h => by first | rfl | kernel_rfl) ?_
                    refine lx.o_pure (.pointer (some ⟨bx, 0, none⟩)) (fun _ _ h => by first | rfl | kernel_rfl) ?_
                    refine lx.o_pure (.int .i64 d) (fun D X hC => lx.run_load rfl rfl Try.underlying3 rfl (blk_cell (HKZ.out X hC) 0)) ?_
                    refine lx.o_pure (.bool false) (fun D X hC => run_eqint_f rfl rfl rfl (by omega)) ?_
                    refine lx.o_pure (.bool false) (fun _ _ h => by first | rfl | kernel_rfl) ?_
                    refine lx.o_pure (.pointer (some ⟨bx, 0, none⟩)) (fun _ _ h => by first | rfl | kernel_rfl) ?_
                    refine lx.o_pure (.int .i64 d) (fun D X hC => lx.run_load rfl rfl Try.underlying3 rfl (blk_cell (HKZ.out X hC) 0)) ?_
                    refine lx.o_pure (.bool true) (fun D X hC => run_eqint_t rfl rfl rfl (by omega)) ?_
                    refine lx.o_pure (.bool true) (fun _ _ h => by first | rfl | kernel_rfl) ?_
                    refine lx.o_pure (.bool true) (fun _ _ h => by first | rfl | kernel_rfl) ?_
                    refine lx.o_skip ?_
                    refine lx.o_skip ?_
                    refine lx.o_skip ?_
                    refine lx.o_skip ?_
                    refine lx.o_skip ?_
                    refine lx.o_skip ?_
                    refine lx.o_pure (.bool true) (fun _ _ h => by first | rfl | kernel_rfl) ?_
                    refine lx.o_pure (.bool true) (fun _ _ h => by first | rfl | kernel_rfl) ?_
                    refine lx.o_pure (.bool true) (fun _ _ h => by first | rfl | kernel_rfl) ?_
                    refine lx.o_end ?_
                    simp only [lx.ov]
                    rintro X9 d9 hd9 hC
                    have HF := run.hid hC
                    clear hC hd9
                    clear hok HCD h4
                    go_simp
                    go_upto_region 25 with fail
                    have HB2 := HF
                    clear HF
                    refine lx.region (fun D X => Below w8.heap.size w8 X) (by kernel_rfl) (by kernel_rfl) (by kernel_rfl) (HB2.out.trans (Below.mono (drewB (Below.refl _ _)) HB2.out.size)) ?_
                    refine lx.begin 184 rfl ?_
                    refine lx.o_pure (.bool true) (fun _ _ h => by first | rfl | kernel_rfl) ?_
                    refine lx.o_pure (.bool false) (fun _ _ h => by first | rfl | kernel_rfl) ?_
                    refine lx.o_pure (.bool false) (fun _ _ h => by first | rfl | kernel_rfl) ?_
                    refine lx.o_pure (.slice (some ⟨p2, s2, none⟩) Q k2) (fun _ _ h => by first | rfl | kernel_rfl) ?_
                    refine lx.o_pure (.int .i64 (k : Nat)) (fun _ _ h => by first | rfl | kernel_rfl) ?_
                    refine lx.o_pure (.pointer (some ⟨p2, s2 + k * 5, none⟩)) (fun D X hC => run_atk rfl rfl rfl hkl hinfC hszC) ?_
                    refine lx.o_pure (CV.val x1) (fun D X hC => run_load5 rfl rfl (HC2.out X hC)) ?_
                    refine lx.o_pure (.slice (some ⟨p1, s1, none⟩) Q k1) (fun _ _ h => by first | rfl | kernel_rfl) ?_
                    refine lx.o_pure (.int .i64 (k : Nat)) (fun _ _ h => by first | rfl | kernel_rfl) ?_
                    refine lx.o_pure (.pointer (some ⟨p1, s1 + k * 5, none⟩)) (fun D X hC => run_atk rfl rfl rfl hkl hinfC hszC) ?_
                    refine lx.o_pure (.pointer (some ⟨p1, s1 + k * 5 + 2, none⟩)) (fun D X hC => by first | rfl | kernel_rfl) ?_
                    refine lx.o_pure (x0.sty.val) (fun D X hC => run_sty3 rfl rfl (HC1.out X hC)) ?_
                    refine lx.o_call (blankT x0.sty).val 24 #[x0.sty.val] (fun _ _ _ => lx.run_fn rfl rfl rfl (enters_of Try.func24 (by kernel_rfl) rfl)) (fun D X hC => (HBL.out X).mono fun e w2 ⟨he, hw⟩ => ⟨he, hC.trans (hw.mono hC.size)⟩) ?_
                    refine lx.o_pure (.bool false) (fun D X hC => run_necell_f rfl rfl rfl hx5) ?_
                    refine lx.o_pure (.bool false) (fun _ _ h => by first | rfl | kernel_rfl) ?_
                    refine lx.o_end ?_
                    simp only [lx.ov]
                    rintro X9 d9 hd9 hC
                    have HF := run.hid hC
                    clear hC hd9
                    clear hx hx5 HBL HB2 HB4x
                    go_simp
                    go_wp2
                    go_roundw
                    case rel => exact ⟨k + 1, by omega, by go_num, HF.out⟩
                    case measure => simp [intOf]; omega
                  · have hyq : ((o / W : Nat) : Int) = y := by have := HCD.out; omega
                    refine lx.region (fun D X => Below w8.heap.size w8 X) (by kernel_rfl) (by kernel_rfl) (by kernel_rfl) (HB4x.out.trans (Below.mono (drewB (Below.refl _ _)) HB4x.out.size)) ?_
                    refine lx.begin 184 rfl ?_
                    refine lx.o_pure (.int .i64 (o : Nat)) (fun _ _ h => by first | rfl | kernel_rfl) ?_
                    refine lx.o_pure (.int .i64 (k : Nat)) (fun _ _ h => by first | rfl | kernel_rfl) ?_
                    refine lx.o_pure (.bool true) (fun D X hC => run_neint_t rfl rfl rfl hok) ?_
                    refine lx.o_pure (.bool true) (fun _ _ h => by first | rfl | kernel_rfl) ?_
                    refine lx.o_pure (.pointer (some ⟨bx, 7, none⟩)) (fun _ _ h => by first | rfl | kernel_rfl) ?_
                    refine lx.o_pure (.agg #[.int .i64 rx, .int .i64 ry, .int .i64 rw', .int .i64 rh]) (fun D X hC => run_loadrect rfl rfl (HKZ.out X hC)) ?_
                    refine lx.o_pure (.int .i64 (o : Nat)) (fun _ _ h => by first | rfl | kernel_rfl) ?_
                    refine lx.o_pure (.int .i64 (W : Nat)) (fun _ _ h => by first | rfl | kernel_rfl) ?_
                    refine lx.o_pure (.int .i64 ((o % W : Nat) : Int)) (fun D X hC => run_remn rfl rfl rfl hWp (by omega)) ?_
                    refine lx.o_pure (.int .i64 (o : Nat)) (fun _ _ h => by first | rfl | kernel_rfl) ?_
                    refine lx.o_pure (.int .i64 (W : Nat)) (fun _ _ h => by first | rfl | kernel_rfl) ?_
                    refine lx.o_pure (.int .i64 ((o / W : Nat) : Int)) (fun D X hC => run_quon rfl rfl rfl hWp (by omega)) ?_
                    refine lx.o_call (.bool true) 40 #[.agg #[.int .i64 rx, .int .i64 ry, .int .i64 rw', .int .i64 rh], .int .i64 ((o % W : Nat) : Int), .int .i64 ((o / W : Nat) : Int)] (fun _ _ _ => lx.run_fn rfl rfl rfl (enters_of Try.func40 (by kernel_rfl) rfl)) (fun D X hC => (HHo.out X).mono fun e w2 ⟨he, hw⟩ => ⟨he, hC.trans (hw.mono hC.size)⟩) ?_
                    refine lx.o_pure (.bool true) (fun _ _ h => by first | rfl | kernel_rfl) ?_
                    refine lx.o_pure (.bool true) (fun _ _ h => by first | rfl | kernel_rfl) ?_
                    refine lx.o_pure (.pointer (some ⟨bx, 0, none⟩)) (fun _ _ h => by first | rfl | kernel_rfl) ?_
                    refine lx.o_pure (.int .i64 d) (fun D X hC => lx.run_load rfl rfl Try.underlying3 rfl (blk_cell (HKZ.out X hC) 0)) ?_
                    refine lx.o_pure (.bool false) (fun D X hC => run_eqint_f rfl rfl rfl (by omega)) ?_
                    refine lx.o_pure (.bool false) (fun _ _ h => by first | rfl | kernel_rfl) ?_
                    refine lx.o_pure (.pointer (some ⟨bx, 0, none⟩)) (fun _ _ h => by first | rfl | kernel_rfl) ?_
                    refine lx.o_pure (.int .i64 d) (fun D X hC => lx.run_load rfl rfl Try.underlying3 rfl (blk_cell (HKZ.out X hC) 0)) ?_
                    refine lx.o_pure (.bool false) (fun D X hC => run_eqint_f rfl rfl rfl (by omega)) ?_
                    refine lx.o_pure (.bool false) (fun _ _ h => by first | rfl | kernel_rfl) ?_
                    refine lx.o_pure (.bool false) (fun _ _ h => by first | rfl | kernel_rfl) ?_
                    refine lx.o_pure (.int .i64 (o : Nat)) (fun _ _ h => by first | rfl | kernel_rfl) ?_
                    refine lx.o_pure (.int .i64 (W : Nat)) (fun _ _ h => by first | rfl | kernel_rfl) ?_
                    refine lx.o_pure (.int .i64 ((o / W : Nat) : Int)) (fun D X hC => run_quon rfl rfl rfl hWp (by omega)) ?_
                    refine lx.o_pure (.pointer (some ⟨bx, 2, none⟩)) (fun _ _ h => by first | rfl | kernel_rfl) ?_
                    refine lx.o_pure (.int .i64 y) (fun D X hC => lx.run_load rfl rfl Try.underlying3 rfl (blk_cell (HKZ.out X hC) 2)) ?_
                    refine lx.o_pure (.bool true) (fun D X hC => run_eqint_t rfl rfl rfl (hyq)) ?_
                    refine lx.o_pure (.bool true) (fun _ _ h => by first | rfl | kernel_rfl) ?_
                    refine lx.o_pure (.bool true) (fun _ _ h => by first | rfl | kernel_rfl) ?_
                    refine lx.o_pure (.bool true) (fun _ _ h => by first | rfl | kernel_rfl) ?_
                    refine lx.o_end ?_
                    simp only [lx.ov]
                    rintro X9 d9 hd9 hC
                    have HF := run.hid hC
                    clear hC hd9
                    clear hok HCD hyq
                    go_simp
                    go_upto_region 25 with fail
                    have HB2 := HF
                    clear HF
                    refine lx.region (fun D X => Below w8.heap.size w8 X) (by kernel_rfl) (by kernel_rfl) (by kernel_rfl) (HB2.out.trans (Below.mono (drewB (Below.refl _ _)) HB2.out.size)) ?_
                    refine lx.begin 184 rfl ?_
                    refine lx.o_pure (.bool true) (fun _ _ h => by first | rfl | kernel_rfl) ?_
                    refine lx.o_pure (.bool false) (fun _ _ h => by first | rfl | kernel_rfl) ?_
                    refine lx.o_pure (.bool false) (fun _ _ h => by first | rfl | kernel_rfl) ?_
                    refine lx.o_pure (.slice (some ⟨p2, s2, none⟩) Q k2) (fun _ _ h => by first | rfl | kernel_rfl) ?_
                    refine lx.o_pure (.int .i64 (k : Nat)) (fun _ _ h => by first | rfl | kernel_rfl) ?_
                    refine lx.o_pure (.pointer (some ⟨p2, s2 + k * 5, none⟩)) (fun D X hC => run_atk rfl rfl rfl hkl hinfC hszC) ?_
                    refine lx.o_pure (CV.val x1) (fun D X hC => run_load5 rfl rfl (HC2.out X hC)) ?_
                    refine lx.o_pure (.slice (some ⟨p1, s1, none⟩) Q k1) (fun _ _ h => by first | rfl | kernel_rfl) ?_
                    refine lx.o_pure (.int .i64 (k : Nat)) (fun _ _ h => by first | rfl | kernel_rfl) ?_
                    refine lx.o_pure (.pointer (some ⟨p1, s1 + k * 5, none⟩)) (fun D X hC => run_atk rfl rfl rfl hkl hinfC hszC) ?_
                    refine lx.o_pure (.pointer (some ⟨p1, s1 + k * 5 + 2, none⟩)) (fun D X hC => by first | rfl | kernel_rfl) ?_
                    refine lx.o_pure (x0.sty.val) (fun D X hC => run_sty3 rfl rfl (HC1.out X hC)) ?_
                    refine lx.o_call (blankT x0.sty).val 24 #[x0.sty.val] (fun _ _ _ => lx.run_fn rfl rfl rfl (enters_of Try.func24 (by kernel_rfl) rfl)) (fun D X hC => (HBL.out X).mono fun e w2 ⟨he, hw⟩ => ⟨he, hC.trans (hw.mono hC.size)⟩) ?_
                    refine lx.o_pure (.bool false) (fun D X hC => run_necell_f rfl rfl rfl hx5) ?_
                    refine lx.o_pure (.bool false) (fun _ _ h => by first | rfl | kernel_rfl) ?_
                    refine lx.o_end ?_
                    simp only [lx.ov]
                    rintro X9 d9 hd9 hC
                    have HF := run.hid hC
                    clear hC hd9
                    clear hx hx5 HBL HB2 HB4x
                    go_simp
                    go_wp2
                    go_roundw
                    case rel => exact ⟨k + 1, by omega, by go_num, HF.out⟩
                    case measure => simp [intOf]; omega
          · obtain rfl : k = Q := by omega
            have HF := run.hid (HB8.out.below hbel)
            have HFG := run.hid (run.grown_trans HG8.out (grown_below hbel g) (.inl rfl))
            clear HR2 HR8 HK8 HCH HLN1 HLN5 hbel
            go_wp2
            go_roundw
            case rel => exact ⟨i + 1, L5, by omega, by go_num, HF, HL5, HFG⟩
            case measure => simp [intOf]; omega
      · obtain rfl : i = N := by omega
        have HF := run.hid (HB4.out.grown HG.out (by have := HB4.out.size; omega) (fun q hq => by simp only [Option.some.injEq] at hq; omega))
        clear HSTEP HBU HG4 hkx
        go_wp2_with fail
        refine (HW.out _).mono ?_
        rintro e w9 ⟨rfl, hb9⟩
        have HF9 := run.hid (HF.out.trans (hb9.mono HF.out.size))
        go_wp2
        go_ret
        exact ⟨rfl, HF9.out⟩
end Go.Proofs.Ytinnggiohalifaa.cel
