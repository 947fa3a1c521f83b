/-
  part, Fill, Shift, Paste of a buffer (merged: CelPart, CelFill, CelShift, CelPaste)
-/
import Derived.Test.YtdgcfmfjgidbjaaGreatCelFp
import Derived.Test.YtdgcfmfjgidbjaaGreatCelPut
import Derived.Test.YtdgcfmfjgidbjaaGreatLxS
namespace Go.Proofs.YtdgcfmfjgidbjaaGreat.lx
open Go Go.RowKit Go.Proofs
section
variable {P : Program} {Cal : FuncId → Array Value → World → (Ending → World → Prop) → Prop} {ops : Array Oper} {C : (Nat → Bool) → World → Prop} {Q : Act → Prop} {a : Act} {n : Nat}
/-- a call that turns the world, once, what it waits for being known to have come up -/
theorem o_callD {i d : Nat} {o : Oper} {rest : List Oper} {l : List (Nat × Value)} (v : Value) (f : FuncId) (args : Array Value) (hv : ∀ D w, C D w → (execOp (look a l) o).run P w = .ok (.enter f args) w)
    (hc : ∀ D w, D i = false → Dep o D → C D w → Cal f args w (fun e w'' => e = .returned v ∧ C (mark D i) w'')) (h : walkO P Cal ops C Q a n (i + 1) rest ((d, v) :: l))
    (hd : o.dst = some d := by rfl) (hdn : Nat.blt d n = true := by rfl) (hw : Region.wanted o (yl ops (look a l)) = true := by rfl) : walkO P Cal ops C Q a n i (o :: rest) l :=
  ⟨v, .inl ⟨hw, fun D w h0 hC => by rw [hv D w hC]; exact hc D w h0.1 h0.2 hC⟩, by rw [hd]; exact ⟨by simpa [Nat.blt_eq] using hdn, h⟩⟩
end
end Go.Proofs.YtdgcfmfjgidbjaaGreat.lx
namespace Go.Proofs.YtdgcfmfjgidbjaaGreat.cel
open Go Go.RowKit Go.Proofs
set_option linter.unusedVariables false

def partAt (W : Nat) (L : List CV) (y x : Nat) : List CV := if x < W ∧ wd L (y * W + x) = 0 then setT L (y * W + x) (blankT (L.getD (y * W + x) z0).sty) else L
def sideX (X RW j : Nat) : Nat := if j = 0 then X else X + RW
def sidesT (W X RW y : Nat) : Nat → List CV → List CV
  | 0, L => L
  | j + 1, L => partAt W (sidesT W X RW y j L) y (sideX X RW j)
def partT (W X Y RW : Nat) : Nat → List CV → List CV
  | 0, L => L
  | k + 1, L => sidesT W X RW (Y + k) 2 (partT W X Y RW k L)
theorem partAt_good {W H : Nat} {L : List CV} (h : Good W H L) {y x : Nat} (hy : y < H) : Good W H (partAt W L y x) := by
  unfold partAt
  split
  · rename_i hx
    have hi : y * W + x < W * H := by
      have := Nat.mul_le_mul_right W (show y + 1 ≤ H from hy)
      rw [Nat.add_mul, Nat.one_mul, Nat.mul_comm H W] at this
      omega
    exact (wd_setT h hi rfl).1
  · exact h
theorem sidesT_good {W H : Nat} {L : List CV} (h : Good W H L) {X RW y : Nat} (hy : y < H) : ∀ j, Good W H (sidesT W X RW y j L)
  | 0 => h
  | j + 1 => partAt_good (sidesT_good h hy j) hy
theorem partT_good {W H : Nat} {L : List CV} (h : Good W H L) {X Y RW : Nat} : ∀ k, Y + k ≤ H → Good W H (partT W X Y RW k L)
  | 0, _ => h
  | k + 1, hk => sidesT_good (partT_good h k (by omega)) (by omega) 2

/-- a buffer, and a box beside it -/
structure Bx (w0 : World) (b g W H : Nat) (n : Nat) (r : Array Value) (L : List CV) (w : World) : Prop where
  buf : Buf w b g W H L
  kr : w.heap[n]? = some (.cells r 34 (0, 0))
  grown : w0.grownBy w (some g)
  ne : n ≠ g
theorem Bx.below {w0 w w' : World} {b g W H n : Nat} {L : List CV} {r : Array Value} (h : Bx w0 b g W H n r L w) (hb : Below w.heap.size w w') : Bx w0 b g W H n r L w' :=
  ⟨h.buf.below hb, (hb.block _ (Array.getElem?_eq_some_iff.1 h.kr).1).trans h.kr, run.grown_trans h.grown (grown_below hb g) (.inl rfl), h.ne⟩
theorem Bx.step {w0 w w' : World} {b g W H n : Nat} {L L' : List CV} {r : Array Value} (h : Bx w0 b g W H n r L w) (hb : Buf w' b g W H L') (hg : w.grownBy w' (some g)) : Bx w0 b g W H n r L' w' :=
  ⟨hb, (hg.block _ (Array.getElem?_eq_some_iff.1 h.kr).1 (by simpa using h.ne)).trans h.kr, run.grown_trans h.grown hg (.inl rfl), h.ne⟩
theorem Bx.drew {w0 w : World} {b g W H n : Nat} {L : List CV} {r : Array Value} (h : Bx w0 b g W H n r L w) : Bx w0 b g W H n r L w.drew := h.below (drewB (Below.refl _ _))
theorem Buf.cell5 {w : World} {b g W H : Nat} {L : List CV} (h : Buf w b g W H L) {i : Nat} (hi : i < W * H) : Cell5 w g (i * 5) (L.getD i z0) := h.grid.at (by rw [h.len]; exact hi)
theorem Bx.wide {w0 w : World} {b g W H n : Nat} {L : List CV} {r : Array Value} (h : Bx w0 b g W H n r L w) {i : Nat} (hi : i < W * H) : w.cell? ⟨g, i * 5 + 1, none⟩ = some (.int .i8 (wd L i)) := (h.buf.cell5 hi).2.1
theorem Bx.set {w0 w : World} {b g W H n : Nat} {L : List CV} {r : Array Value} (h : Bx w0 b g W H n r L w) (hG : Good W H L) {i : Nat} (hi : i < W * H) (x : CV) :
    Calls Tryz.prog 63 #[.pointer (some ⟨b, 0, none⟩), .int .i64 i, x.val] w fun e w' => e = .returned (.tuple #[]) ∧ Bx w0 b g W H n r (setT L i x) w' :=
  (set_any b g W H L i x w h.buf hi (good_pre hG hi).1 (good_pre hG hi).2).mono fun e w' ⟨he, hb, hg⟩ => ⟨he, h.step hb hg⟩

section
variable {o : Oper} {ρ : Operand → Value} {w : World} {p q : Operand} {t t' : TypeId}
theorem run_lssn {x y : Int} (ho : o.op = .binOp .lss t p q t') (hx : ρ p = .int .i64 x) (hy : ρ q = .int .i64 y) : (execOp ρ o).run Tryz.prog w = .ok (.value (.bool (decide (x < y)))) w := by
  unfold execOp
  simp only [ho, hx, hy]
  simp [go_sem]
theorem run_lssn_yes {x y : Int} (ho : o.op = .binOp .lss t p q t') (hx : ρ p = .int .i64 x) (hy : ρ q = .int .i64 y) (h : x < y) : (execOp ρ o).run Tryz.prog w = .ok (.value (.bool true)) w := by rw [run_lssn ho hx hy, decide_eq_true h]
theorem run_lssn_no {x y : Int} (ho : o.op = .binOp .lss t p q t') (hx : ρ p = .int .i64 x) (hy : ρ q = .int .i64 y) (h : ¬ x < y) : (execOp ρ o).run Tryz.prog w = .ok (.value (.bool false)) w := by rw [run_lssn ho hx hy, decide_eq_false h]
theorem run_eq8 {x y : Int} (ho : o.op = .binOp .eql t p q t') (hx : ρ p = .int .i8 x) (hy : ρ q = .int .i8 y) : (execOp ρ o).run Tryz.prog w = .ok (.value (.bool (decide (x = y)))) w := by
  unfold execOp
  simp only [ho, hx, hy]
  simp [go_sem]
  by_cases e : x = y
  · subst e; simp
  · simp [e]
theorem run_eq8_t {x y : Int} (ho : o.op = .binOp .eql t p q t') (hx : ρ p = .int .i8 x) (hy : ρ q = .int .i8 y) (h : x = y) : (execOp ρ o).run Tryz.prog w = .ok (.value (.bool true)) w := by rw [run_eq8 ho hx hy, decide_eq_true h]
theorem run_eq8_f {x y : Int} (ho : o.op = .binOp .eql t p q t') (hx : ρ p = .int .i8 x) (hy : ρ q = .int .i8 y) (h : x ≠ y) : (execOp ρ o).run Tryz.prog w = .ok (.value (.bool false)) w := by rw [run_eq8 ho hx hy, decide_eq_false h]
end
theorem index2_0 (x y : Int) (w : World) : (Instr.index 109 (.agg #[.int .i64 x, .int .i64 y]) (.int .i64 0)).run Tryz.prog w = .ok (.int .i64 x) w := by kernel_rfl
theorem index2_1 (x y : Int) (w : World) : (Instr.index 109 (.agg #[.int .i64 x, .int .i64 y]) (.int .i64 1)).run Tryz.prog w = .ok (.int .i64 y) w := by kernel_rfl

theorem let_nat (r : RT) (W H : Nat) (hW : W ≤ 4096) (hH : H ≤ 4096) : ∃ X Y RW RH : Nat, letIn r W H = ⟨X, Y, RW, RH⟩ ∧ X + RW ≤ W ∧ Y + RH ≤ H := by
  unfold letIn meetT
  have hno : ∃ X Y RW RH : Nat, (RT.mk 0 0 0 0) = ⟨X, Y, RW, RH⟩ ∧ X + RW ≤ W ∧ Y + RH ≤ H := ⟨0, 0, 0, 0, rfl, by omega, by omega⟩
  split
  · unfold rectB
    split
    · exact hno
    · rename_i h1 h2
      rw [ends_box hW hH] at h2 ⊢
      generalize endsT r = e at *
      obtain ⟨a0, b0, a1, b1⟩ := e
      unfold cutB meetB at *
      simp only at *
      obtain ⟨x0, hx0⟩ : ∃ q, q = max (max a0 0) (-1048576) := ⟨_, rfl⟩
      obtain ⟨y0, hy0⟩ : ∃ q, q = max (max b0 0) (-1048576) := ⟨_, rfl⟩
      obtain ⟨x1, hx1⟩ : ∃ q, q = min (min a1 (if (W : Int) ≤ 0 then -8388608 else (W : Int))) 1048576 := ⟨_, rfl⟩
      obtain ⟨y1, hy1⟩ : ∃ q, q = min (min b1 (if (H : Int) ≤ 0 then -8388608 else (H : Int))) 1048576 := ⟨_, rfl⟩
      rw [← hx0, ← hx1, ← hy0, ← hy1] at h2 ⊢
      have k1 : 0 ≤ x0 ∧ x0 < x1 ∧ x1 ≤ W := by
        split at hx1 <;> omega
      have k2 : 0 ≤ y0 ∧ y0 < y1 ∧ y1 ≤ H := by
        split at hy1 <;> omega
      clear hx0 hx1 hy0 hy1 h1 h2 hno
      refine ⟨x0.toNat, y0.toNat, (x1 - x0).toNat, (y1 - y0).toNat, ?_, by omega, by omega⟩
      rw [show ((x0.toNat : Nat) : Int) = x0 by omega, show ((y0.toNat : Nat) : Int) = y0 by omega, show (((x1 - x0).toNat : Nat) : Int) = x1 - x0 by omega, show (((y1 - y0).toNat : Nat) : Int) = y1 - y0 by omega]
  · exact hno

set_option maxRecDepth 100000 in
set_option maxHeartbeats 8000000 in
theorem part_any (b g W H : Nat) (L : List CV) (X0 Y0 RW RH : Nat) (w : World) (h : Buf w b g W H L) (hG : Good W H L) (hx : X0 + RW ≤ W) (hy : Y0 + RH ≤ H) :
    Calls Tryz.prog 43 #[.pointer (some ⟨b, 0, none⟩), .agg #[.int .i64 (X0 : Nat), .int .i64 (Y0 : Nat), .int .i64 (RW : Nat), .int .i64 (RH : Nat)]] w fun e w' => e = .returned (.tuple #[]) ∧ Buf w' b g W H (partT W X0 Y0 RW RH L) ∧ w.grownBy w' (some g) := by
  obtain ⟨it, hinf, -, hsz, -⟩ := info_parts info_cell
  obtain ⟨hblt, hglt⟩ := h.lt
  have hWb := h.wide
  have hHb := h.high
  have HB0 : Hid (Bx w b g W H w.heap.size #[.int .i64 (X0 : Nat), .int .i64 (Y0 : Nat), .int .i64 (RW : Nat), .int .i64 (RH : Nat)] L (w.alloc (.cells #[.int .i64 (X0 : Nat), .int .i64 (Y0 : Nat), .int .i64 (RW : Nat), .int .i64 (RH : Nat)] 34))) := ⟨h.alloc _, heap_alloc_new w _, World.grownBy_alloc w _ (some g), by omega⟩
  have HGD := run.hid (fun k hk => partT_good (X := X0) (Y := Y0) (RW := RW) hG k hk)
  have hne : w.heap.size ≠ g := by omega
  clear h hG
  obtain ⟨⟨q0, q1, q2, q3⟩, -⟩ := blk4 HB0.out.kr
  go_enter Tryz.func43, Tryz.ntmps43
  go_wp2
  go_loopw [4] (fun vy wr => ∃ k, k ≤ RH ∧ vy = .int .i64 ((Y0 + k : Nat) : Int) ∧ Hid (Bx w b g W H w.heap.size #[.int .i64 (X0 : Nat), .int .i64 (Y0 : Nat), .int .i64 (RW : Nat), .int .i64 (RH : Nat)] (partT W X0 Y0 RW k L) wr)) (fun vy _ => ((Y0 : Int) + RH - intOf vy).toNat)
  case atStart => exact ⟨0, Nat.zero_le _, rfl, HB0⟩
  case round =>
    obtain ⟨k, hk, rfl, HB⟩ := hrel
    clear q0 q1 q2 q3 HB0
    obtain ⟨⟨q0, q1, q2, q3⟩, -⟩ := blk4 HB.out.kr
    by_cases hkl : k < RH
    · have HNEXT := run.hid (show partT W X0 Y0 RW (k + 1) L = sidesT W X0 RW (Y0 + k) 2 (partT W X0 Y0 RW k L) from rfl)
      have HG0 := run.hid (HGD.out k (by omega))
      have hy2 : Y0 + k < H := by omega
      obtain ⟨y, hyy⟩ : ∃ y, y = Y0 + k := ⟨_, rfl⟩
      rw [← hyy] at hy2 HNEXT ⊢
      generalize partT W X0 Y0 RW k L = M0 at *
      have HYY := run.hid hyy
      have hyl : (y : Int) < (Y0 : Int) + (RH : Int) := by omega
      clear hyy
      go_wp2
      generalize wr = wy at *
      go_loopw [26] (fun vj wr => ∃ j : Nat, j ≤ 2 ∧ vj = .int .i64 (j : Nat) ∧ Hid (Bx w b g W H w.heap.size #[.int .i64 (X0 : Nat), .int .i64 (Y0 : Nat), .int .i64 (RW : Nat), .int .i64 (RH : Nat)] (sidesT W X0 RW y j M0) wr)) (fun vj _ => (2 - intOf vj).toNat)
      case atStart => exact ⟨0, by omega, rfl, HB⟩
      case round =>
        obtain ⟨j, hj, rfl, HB2⟩ := hrel
        clear HB
        have HB := HB2
        clear HB2
        clear q0 q1 q2 q3
        obtain ⟨⟨q0, q1, q2, q3⟩, -⟩ := blk4 HB.out.kr
        have HG := run.hid (sidesT_good HG0.out (X := X0) (RW := RW) hy2 j)
        have hqc := Int.natCast_mul y W
        have hq0 : y * W ≤ 4096 * 4096 := Nat.mul_le_mul (by omega) hWb
        rcases (show j = 0 ∨ j = 1 ∨ j = 2 by omega) with rfl | rfl | rfl
        · skip
          obtain ⟨q, hqq⟩ : ∃ q, y * W = q := ⟨_, rfl⟩
          have HQ := run.hid (show ((y : Nat) : Int) * ((W : Nat) : Int) = ((q : Nat) : Int) from by rw [← hqq]; exact hqc.symm)
          rw [hqq] at hq0
          obtain ⟨x, hxx⟩ : ∃ x, x = X0 := ⟨_, rfl⟩
          obtain ⟨M, hM⟩ : ∃ M, M = sidesT W X0 RW y 0 M0 := ⟨_, rfl⟩
          have HNX := run.hid (show sidesT W X0 RW y 1 M0 = partAt W M y x from by rw [hM, hxx]; rfl)
          rw [← hM] at HB HG
          clear hM
          have hidx : (Instr.index 109 (.agg #[.int .i64 ((X0 : Nat) : Int), .int .i64 (((X0 : Nat) : Int) + ((RW : Nat) : Int))]) (.int .i64 0)).run Tryz.prog wr = .ok (.int .i64 ((x : Nat) : Int)) wr := by rw [index2_0, show ((X0 : Nat) : Int) = ((x : Nat) : Int) from by omega]
          have HXX := run.hid hxx
          clear hxx hqc
          rcases Nat.lt_or_ge x W with hxw | hxw
          · have hi : y * W + x < W * H := by
              have := Nat.mul_le_mul_right W (show y + 1 ≤ H from hy2)
              rw [Nat.add_mul, Nat.one_mul, Nat.mul_comm H W] at this
              omega
            by_cases hz : wd M (y * W + x) = 0
            · rw [hqq] at hz hi
              have HZ := run.hid hz
              have HI := run.hid hi
              have HS := run.hid (show partAt W M y x = setT M (q + x) (blankT (M.getD (q + x) z0).sty) from (by unfold partAt; rw [hqq]; exact if_pos ⟨hxw, hz⟩))
              clear hz hi hqq
              go_upto_region 7 with fail
              clear q0 q1 q2 q3
              refine lx.region (fun D X => Bx w b g W H w.heap.size #[.int .i64 (X0 : Nat), .int .i64 (Y0 : Nat), .int .i64 (RW : Nat), .int .i64 (RH : Nat)] M X) (by kernel_rfl) (by kernel_rfl) (by kernel_rfl) HB.out.drew ?_
              refine lx.begin 80 rfl ?_
              refine lx.o_pure (.int .i64 (x : Nat)) (fun _ _ h => by first | rfl | kernel_rfl) ?_
              refine lx.o_pure (.pointer (some ⟨b, 0, none⟩)) (fun _ _ h => by first | rfl | kernel_rfl) ?_
              refine lx.o_pure (.pointer (some ⟨b, 0, none⟩)) (fun _ _ h => by first | rfl | kernel_rfl) ?_
              refine lx.o_pure (.pointer (some ⟨b, 0, none⟩)) (fun _ _ h => by first | rfl | kernel_rfl) ?_
              refine lx.o_pure (.int .i64 (W : Nat)) (fun D X hC => lx.run_load rfl rfl Tryz.underlying3 rfl hC.buf.h0) ?_
              refine lx.o_pure (.bool true) (fun _ _ _ => run_lssn_yes rfl rfl rfl (by omega)) ?_
              refine lx.o_pure (.bool true) (fun _ _ h => by first | rfl | kernel_rfl) ?_
              refine lx.o_pure (.pointer (some ⟨b, 0, none⟩)) (fun _ _ h => by first | rfl | kernel_rfl) ?_
              refine lx.o_pure (.pointer (some ⟨b, 0, none⟩)) (fun _ _ h => by first | rfl | kernel_rfl) ?_
              refine lx.o_pure (.pointer (some ⟨b, 2, none⟩)) (fun _ _ h => by first | rfl | kernel_rfl) ?_
              refine lx.o_pure (.slice (some ⟨g, 0, none⟩) (W * H : Nat) (W * H : Nat)) (fun D X hC => lx.run_load rfl rfl Tryz.underlying35 rfl hC.buf.h2) ?_
              refine lx.o_pure (.int .i64 (y : Nat)) (fun _ _ h => by first | rfl | kernel_rfl) ?_
              refine lx.o_pure (.pointer (some ⟨b, 0, none⟩)) (fun _ _ h => by first | rfl | kernel_rfl) ?_
              refine lx.o_pure (.pointer (some ⟨b, 0, none⟩)) (fun _ _ h => by first | rfl | kernel_rfl) ?_
              refine lx.o_pure (.pointer (some ⟨b, 0, none⟩)) (fun _ _ h => by first | rfl | kernel_rfl) ?_
              refine lx.o_pure (.int .i64 (W : Nat)) (fun D X hC => lx.run_load rfl rfl Tryz.underlying3 rfl hC.buf.h0) ?_
              refine lx.o_pure (.int .i64 (q : Nat)) (fun _ _ _ => lx.run_mul rfl rfl rfl HQ.out (by omega)) ?_
              refine lx.o_pure (.int .i64 (x : Nat)) (fun _ _ h => by first | rfl | kernel_rfl) ?_
              refine lx.o_pure (.int .i64 ((q + x : Nat) : Int)) (fun _ _ _ => lx.run_add rfl rfl rfl (by omega) (by push_cast; rfl)) ?_
              refine lx.o_pure (.pointer (some ⟨g, (q + x) * 5, none⟩)) (fun D X hC => run_at5 rfl rfl rfl HI.out Tryz.underlying35 hinf hsz) ?_
              refine lx.o_pure (.pointer (some ⟨g, (q + x) * 5 + 1, none⟩)) (fun _ _ h => by first | rfl | kernel_rfl) ?_
              refine lx.o_pure (.int .i8 (wd M (q + x))) (fun D X hC => lx.run_load rfl rfl Tryz.underlying57 rfl (hC.wide HI.out)) ?_
              refine lx.o_pure (.bool true) (fun _ _ _ => run_eq8_t rfl rfl rfl HZ.out) ?_
              refine lx.o_pure (.bool true) (fun _ _ h => by first | rfl | kernel_rfl) ?_
              refine lx.o_end ?_
              simp only [lx.ov]
              rintro X d hd hC
              have HB7 := run.hid hC
              clear hC hd HB
              go_simp
              go_upto_region 8 with fail
              have HB := HB7
              clear HB7
              obtain ⟨sv, hsv⟩ : ∃ sv, (M.getD (q + x) z0).sty = sv := ⟨_, rfl⟩
              have HBL := run.hid (fun w => blank_any sv w)
              rw [hsv] at HS
              have HSV := run.hid hsv
              clear hsv
              obtain ⟨bx, hbx⟩ : ∃ bx, bx = blankT sv := ⟨_, rfl⟩
              rw [← hbx] at HBL HS
              clear hbx
              refine lx.region (fun D X => ∃ L2, Bx w b g W H w.heap.size #[.int .i64 (X0 : Nat), .int .i64 (Y0 : Nat), .int .i64 (RW : Nat), .int .i64 (RH : Nat)] L2 X ∧ (D 25 = false → L2 = M) ∧ (D 25 = true → L2 = setT M (q + x) bx) ∧ (D 24 = true → D 23 = true) ∧ (D 25 = true → D 24 = true)) (by kernel_rfl) (by kernel_rfl) (by kernel_rfl) ⟨M, HB.out.drew, fun _ => rfl, fun h => (by cases h), fun h => (by cases h), fun h => (by cases h)⟩ ?_
              refine lx.begin 80 rfl ?_
              refine lx.o_pure (.pointer (some ⟨b, 0, none⟩)) (fun _ _ h => by first | rfl | kernel_rfl) ?_
              refine lx.o_pure (.int .i64 (y : Nat)) (fun _ _ h => by first | rfl | kernel_rfl) ?_
              refine lx.o_pure (.pointer (some ⟨b, 0, none⟩)) (fun _ _ h => by first | rfl | kernel_rfl) ?_
              refine lx.o_pure (.pointer (some ⟨b, 0, none⟩)) (fun _ _ h => by first | rfl | kernel_rfl) ?_
              refine lx.o_pure (.pointer (some ⟨b, 0, none⟩)) (fun _ _ h => by first | rfl | kernel_rfl) ?_
              refine lx.o_pure (.int .i64 (W : Nat)) (fun D X hC => lx.run_load rfl rfl Tryz.underlying3 rfl hC.choose_spec.1.buf.h0) ?_
              refine lx.o_pure (.int .i64 (q : Nat)) (fun _ _ _ => lx.run_mul rfl rfl rfl HQ.out (by omega)) ?_
              refine lx.o_pure (.int .i64 (x : Nat)) (fun _ _ h => by first | rfl | kernel_rfl) ?_
              refine lx.o_pure (.int .i64 ((q + x : Nat) : Int)) (fun _ _ _ => lx.run_add rfl rfl rfl (by omega) (by push_cast; rfl)) ?_
              refine lx.o_pure (.pointer (some ⟨b, 0, none⟩)) (fun _ _ h => by first | rfl | kernel_rfl) ?_
              refine lx.o_pure (.pointer (some ⟨b, 0, none⟩)) (fun _ _ h => by first | rfl | kernel_rfl) ?_
              refine lx.o_pure (.pointer (some ⟨b, 2, none⟩)) (fun _ _ h => by first | rfl | kernel_rfl) ?_
              refine lx.o_pure (.slice (some ⟨g, 0, none⟩) (W * H : Nat) (W * H : Nat)) (fun D X hC => lx.run_load rfl rfl Tryz.underlying35 rfl hC.choose_spec.1.buf.h2) ?_
              refine lx.o_pure (.int .i64 (y : Nat)) (fun _ _ h => by first | rfl | kernel_rfl) ?_
              refine lx.o_pure (.pointer (some ⟨b, 0, none⟩)) (fun _ _ h => by first | rfl | kernel_rfl) ?_
              refine lx.o_pure (.pointer (some ⟨b, 0, none⟩)) (fun _ _ h => by first | rfl | kernel_rfl) ?_
              refine lx.o_pure (.pointer (some ⟨b, 0, none⟩)) (fun _ _ h => by first | rfl | kernel_rfl) ?_
              refine lx.o_pure (.int .i64 (W : Nat)) (fun D X hC => lx.run_load rfl rfl Tryz.underlying3 rfl hC.choose_spec.1.buf.h0) ?_
              refine lx.o_pure (.int .i64 (q : Nat)) (fun _ _ _ => lx.run_mul rfl rfl rfl HQ.out (by omega)) ?_
              refine lx.o_pure (.int .i64 (x : Nat)) (fun _ _ h => by first | rfl | kernel_rfl) ?_
              refine lx.o_pure (.int .i64 ((q + x : Nat) : Int)) (fun _ _ _ => lx.run_add rfl rfl rfl (by omega) (by push_cast; rfl)) ?_
              refine lx.o_pure (.pointer (some ⟨g, (q + x) * 5, none⟩)) (fun D X hC => run_at5 rfl rfl rfl HI.out Tryz.underlying35 hinf hsz) ?_
              refine lx.o_pure (.pointer (some ⟨g, (q + x) * 5 + 2, none⟩)) (fun _ _ h => by first | rfl | kernel_rfl) ?_
              refine lx.o_eff sv.val (fun D X h0 hdep hC => ?_) ?_
              · obtain ⟨L2, hS, h1, h2, h3, h4⟩ := hC
                have e24 : D 24 = false := by cases h : D 24 with
                  | false => rfl
                  | true => have := h3 h; rw [h0] at this; cases this
                have e25 : D 25 = false := by cases h : D 25 with
                  | false => rfl
                  | true => have := h4 h; rw [e24] at this; cases this
                obtain rfl := h1 e25
                exact ⟨X, by rw [← HSV.out]; exact run_sty3 rfl rfl (hS.buf.cell5 HI.out), _, hS, h1, h2, fun _ => rfl, h4⟩
              refine lx.o_callD bx.val 31 #[sv.val] (fun _ _ _ => lx.run_fn rfl rfl rfl (enters_of Tryz.func31 (by kernel_rfl) rfl)) (fun D X h0 hdep hC => (HBL.out X).mono fun e w2 ⟨he, hw⟩ => ⟨he, ?_⟩) ?_
              · obtain ⟨L2, h1, h2, h3, h4, h5⟩ := hC
                have hs : D 23 = true := hdep ⟨23, .data⟩ (by simp) rfl
                exact ⟨L2, h1.below hw, h2, h3, fun _ => hs, fun _ => rfl⟩
              refine lx.o_callD (.tuple #[]) 63 #[.pointer (some ⟨b, 0, none⟩), .int .i64 ((q + x : Nat) : Int), bx.val] (fun _ _ _ => lx.run_fn rfl rfl rfl (enters_of Tryz.func63 (by kernel_rfl) rfl)) (fun D X h0 hdep hC => ?_) ?_
              · obtain ⟨L2, hS, h1, h2, h3, h4⟩ := hC
                obtain rfl := h1 h0
                have hs : D 24 = true := hdep ⟨24, .data⟩ (by simp) rfl
                exact (hS.set HG.out HI.out bx).mono fun e w2 ⟨he, hS2⟩ => ⟨he, _, hS2, (fun h => by cases h), (fun _ => rfl), h3, fun _ => hs⟩
              refine lx.o_end ?_
              simp only [lx.ov]
              rintro X d hd ⟨L2, hS, -, h2, -⟩
              obtain rfl := h2 (hd 25 (by decide))
              have HF := run.hid hS
              clear hS h2 hd HB HBL HG HSV HZ HI
              go_simp
              go_wp2
              go_roundw
              case rel => exact ⟨1, by omega, by go_num, by show Bx _ _ _ _ _ _ _ _ _; rw [HNX.out, HS.out]; exact HF.out⟩
              case measure => simp [intOf]
            · rw [hqq] at hz hi
              have HZ := run.hid hz
              have HI := run.hid hi
              have HS := run.hid (show partAt W M y x = M from if_neg (fun h => hz (by have := h.2; rwa [hqq] at this)))
              clear hz hi hqq
              go_upto_region 7 with fail
              clear q0 q1 q2 q3
              refine lx.region (fun D X => Bx w b g W H w.heap.size #[.int .i64 (X0 : Nat), .int .i64 (Y0 : Nat), .int .i64 (RW : Nat), .int .i64 (RH : Nat)] M X) (by kernel_rfl) (by kernel_rfl) (by kernel_rfl) HB.out.drew ?_
              refine lx.begin 80 rfl ?_
              refine lx.o_pure (.int .i64 (x : Nat)) (fun _ _ h => by first | rfl | kernel_rfl) ?_
              refine lx.o_pure (.pointer (some ⟨b, 0, none⟩)) (fun _ _ h => by first | rfl | kernel_rfl) ?_
              refine lx.o_pure (.pointer (some ⟨b, 0, none⟩)) (fun _ _ h => by first | rfl | kernel_rfl) ?_
              refine lx.o_pure (.pointer (some ⟨b, 0, none⟩)) (fun _ _ h => by first | rfl | kernel_rfl) ?_
              refine lx.o_pure (.int .i64 (W : Nat)) (fun D X hC => lx.run_load rfl rfl Tryz.underlying3 rfl hC.buf.h0) ?_
              refine lx.o_pure (.bool true) (fun _ _ _ => run_lssn_yes rfl rfl rfl (by omega)) ?_
              refine lx.o_pure (.bool true) (fun _ _ h => by first | rfl | kernel_rfl) ?_
              refine lx.o_pure (.pointer (some ⟨b, 0, none⟩)) (fun _ _ h => by first | rfl | kernel_rfl) ?_
              refine lx.o_pure (.pointer (some ⟨b, 0, none⟩)) (fun _ _ h => by first | rfl | kernel_rfl) ?_
              refine lx.o_pure (.pointer (some ⟨b, 2, none⟩)) (fun _ _ h => by first | rfl | kernel_rfl) ?_
              refine lx.o_pure (.slice (some ⟨g, 0, none⟩) (W * H : Nat) (W * H : Nat)) (fun D X hC => lx.run_load rfl rfl Tryz.underlying35 rfl hC.buf.h2) ?_
              refine lx.o_pure (.int .i64 (y : Nat)) (fun _ _ h => by first | rfl | kernel_rfl) ?_
              refine lx.o_pure (.pointer (some ⟨b, 0, none⟩)) (fun _ _ h => by first | rfl | kernel_rfl) ?_
              refine lx.o_pure (.pointer (some ⟨b, 0, none⟩)) (fun _ _ h => by first | rfl | kernel_rfl) ?_
              refine lx.o_pure (.pointer (some ⟨b, 0, none⟩)) (fun _ _ h => by first | rfl | kernel_rfl) ?_
              refine lx.o_pure (.int .i64 (W : Nat)) (fun D X hC => lx.run_load rfl rfl Tryz.underlying3 rfl hC.buf.h0) ?_
              refine lx.o_pure (.int .i64 (q : Nat)) (fun _ _ _ => lx.run_mul rfl rfl rfl HQ.out (by omega)) ?_
              refine lx.o_pure (.int .i64 (x : Nat)) (fun _ _ h => by first | rfl | kernel_rfl) ?_
              refine lx.o_pure (.int .i64 ((q + x : Nat) : Int)) (fun _ _ _ => lx.run_add rfl rfl rfl (by omega) (by push_cast; rfl)) ?_
              refine lx.o_pure (.pointer (some ⟨g, (q + x) * 5, none⟩)) (fun D X hC => run_at5 rfl rfl rfl HI.out Tryz.underlying35 hinf hsz) ?_
              refine lx.o_pure (.pointer (some ⟨g, (q + x) * 5 + 1, none⟩)) (fun _ _ h => by first | rfl | kernel_rfl) ?_
              refine lx.o_pure (.int .i8 (wd M (q + x))) (fun D X hC => lx.run_load rfl rfl Tryz.underlying57 rfl (hC.wide HI.out)) ?_
              refine lx.o_pure (.bool false) (fun _ _ _ => run_eq8_f rfl rfl rfl HZ.out) ?_
              refine lx.o_pure (.bool false) (fun _ _ h => by first | rfl | kernel_rfl) ?_
              refine lx.o_end ?_
              simp only [lx.ov]
              rintro X d hd hC
              have HB7 := run.hid hC
              clear hC hd HB
              go_simp
              have HF := HB7
              clear HB7 HG
              go_wp2
              go_roundw
              case rel => exact ⟨1, by omega, by go_num, by show Bx _ _ _ _ _ _ _ _ _; rw [HNX.out, HS.out]; exact HF.out⟩
              case measure => simp [intOf]
          · replace hxw : ¬ x < W := by omega
            have HS := run.hid (show partAt W M y x = M from if_neg (fun h => hxw h.1))
            clear hqq
            go_upto_region 7 with fail
            clear q0 q1 q2 q3
            refine lx.region (fun D X => Bx w b g W H w.heap.size #[.int .i64 (X0 : Nat), .int .i64 (Y0 : Nat), .int .i64 (RW : Nat), .int .i64 (RH : Nat)] M X) (by kernel_rfl) (by kernel_rfl) (by kernel_rfl) HB.out.drew ?_
            refine lx.begin 80 rfl ?_
            refine lx.o_pure (.int .i64 (x : Nat)) (fun _ _ h => by first | rfl | kernel_rfl) ?_
            refine lx.o_pure (.pointer (some ⟨b, 0, none⟩)) (fun _ _ h => by first | rfl | kernel_rfl) ?_
            refine lx.o_pure (.pointer (some ⟨b, 0, none⟩)) (fun _ _ h => by first | rfl | kernel_rfl) ?_
            refine lx.o_pure (.pointer (some ⟨b, 0, none⟩)) (fun _ _ h => by first | rfl | kernel_rfl) ?_
            refine lx.o_pure (.int .i64 (W : Nat)) (fun D X hC => lx.run_load rfl rfl Tryz.underlying3 rfl hC.buf.h0) ?_
            refine lx.o_pure (.bool false) (fun _ _ _ => run_lssn_no rfl rfl rfl (by omega)) ?_
            refine lx.o_pure (.bool false) (fun _ _ h => by first | rfl | kernel_rfl) ?_
            refine lx.o_skip ?_
            refine lx.o_skip ?_
            refine lx.o_skip ?_
            refine lx.o_skip ?_
            refine lx.o_skip ?_
            refine lx.o_skip ?_
            refine lx.o_skip ?_
            refine lx.o_skip ?_
            refine lx.o_skip ?_
            refine lx.o_skip ?_
            refine lx.o_skip ?_
            refine lx.o_skip ?_
            refine lx.o_skip ?_
            refine lx.o_skip ?_
            refine lx.o_skip ?_
            refine lx.o_skip ?_
            refine lx.o_pure (.bool false) (fun _ _ h => by first | rfl | kernel_rfl) ?_
            refine lx.o_end ?_
            simp only [lx.ov]
            rintro X d hd hC
            have HB7 := run.hid hC
            clear hC hd HB
            go_simp
            have HF := HB7
            clear HB7 HG
            go_wp2
            go_roundw
            case rel => exact ⟨1, by omega, by go_num, by show Bx _ _ _ _ _ _ _ _ _; rw [HNX.out, HS.out]; exact HF.out⟩
            case measure => simp [intOf]
        · skip
          obtain ⟨q, hqq⟩ : ∃ q, y * W = q := ⟨_, rfl⟩
          have HQ := run.hid (show ((y : Nat) : Int) * ((W : Nat) : Int) = ((q : Nat) : Int) from by rw [← hqq]; exact hqc.symm)
          rw [hqq] at hq0
          obtain ⟨x, hxx⟩ : ∃ x, x = X0 + RW := ⟨_, rfl⟩
          obtain ⟨M, hM⟩ : ∃ M, M = sidesT W X0 RW y 1 M0 := ⟨_, rfl⟩
          have HNX := run.hid (show sidesT W X0 RW y 2 M0 = partAt W M y x from by rw [hM, hxx]; rfl)
          rw [← hM] at HB HG
          clear hM
          have hidx : (Instr.index 109 (.agg #[.int .i64 ((X0 : Nat) : Int), .int .i64 (((X0 : Nat) : Int) + ((RW : Nat) : Int))]) (.int .i64 1)).run Tryz.prog wr = .ok (.int .i64 ((x : Nat) : Int)) wr := by rw [index2_1, show (((X0 : Nat) : Int) + ((RW : Nat) : Int)) = ((x : Nat) : Int) from by omega]
          have HXX := run.hid hxx
          clear hxx hqc
          rcases Nat.lt_or_ge x W with hxw | hxw
          · have hi : y * W + x < W * H := by
              have := Nat.mul_le_mul_right W (show y + 1 ≤ H from hy2)
              rw [Nat.add_mul, Nat.one_mul, Nat.mul_comm H W] at this
              omega
            by_cases hz : wd M (y * W + x) = 0
            · rw [hqq] at hz hi
              have HZ := run.hid hz
              have HI := run.hid hi
              have HS := run.hid (show partAt W M y x = setT M (q + x) (blankT (M.getD (q + x) z0).sty) from (by unfold partAt; rw [hqq]; exact if_pos ⟨hxw, hz⟩))
              clear hz hi hqq
              go_upto_region 7 with fail
              clear q0 q1 q2 q3
              refine lx.region (fun D X => Bx w b g W H w.heap.size #[.int .i64 (X0 : Nat), .int .i64 (Y0 : Nat), .int .i64 (RW : Nat), .int .i64 (RH : Nat)] M X) (by kernel_rfl) (by kernel_rfl) (by kernel_rfl) HB.out.drew ?_
              refine lx.begin 80 rfl ?_
              refine lx.o_pure (.int .i64 (x : Nat)) (fun _ _ h => by first | rfl | kernel_rfl) ?_
              refine lx.o_pure (.pointer (some ⟨b, 0, none⟩)) (fun _ _ h => by first | rfl | kernel_rfl) ?_
              refine lx.o_pure (.pointer (some ⟨b, 0, none⟩)) (fun _ _ h => by first | rfl | kernel_rfl) ?_
              refine lx.o_pure (.pointer (some ⟨b, 0, none⟩)) (fun _ _ h => by first | rfl | kernel_rfl) ?_
              refine lx.o_pure (.int .i64 (W : Nat)) (fun D X hC => lx.run_load rfl rfl Tryz.underlying3 rfl hC.buf.h0) ?_
              refine lx.o_pure (.bool true) (fun _ _ _ => run_lssn_yes rfl rfl rfl (by omega)) ?_
              refine lx.o_pure (.bool true) (fun _ _ h => by first | rfl | kernel_rfl) ?_
              refine lx.o_pure (.pointer (some ⟨b, 0, none⟩)) (fun _ _ h => by first | rfl | kernel_rfl) ?_
              refine lx.o_pure (.pointer (some ⟨b, 0, none⟩)) (fun _ _ h => by first | rfl | kernel_rfl) ?_
              refine lx.o_pure (.pointer (some ⟨b, 2, none⟩)) (fun _ _ h => by first | rfl | kernel_rfl) ?_
              refine lx.o_pure (.slice (some ⟨g, 0, none⟩) (W * H : Nat) (W * H : Nat)) (fun D X hC => lx.run_load rfl rfl Tryz.underlying35 rfl hC.buf.h2) ?_
              refine lx.o_pure (.int .i64 (y : Nat)) (fun _ _ h => by first | rfl | kernel_rfl) ?_
              refine lx.o_pure (.pointer (some ⟨b, 0, none⟩)) (fun _ _ h => by first | rfl | kernel_rfl) ?_
              refine lx.o_pure (.pointer (some ⟨b, 0, none⟩)) (fun _ _ h => by first | rfl | kernel_rfl) ?_
              refine lx.o_pure (.pointer (some ⟨b, 0, none⟩)) (fun _ _ h => by first | rfl | kernel_rfl) ?_
              refine lx.o_pure (.int .i64 (W : Nat)) (fun D X hC => lx.run_load rfl rfl Tryz.underlying3 rfl hC.buf.h0) ?_
              refine lx.o_pure (.int .i64 (q : Nat)) (fun _ _ _ => lx.run_mul rfl rfl rfl HQ.out (by omega)) ?_
              refine lx.o_pure (.int .i64 (x : Nat)) (fun _ _ h => by first | rfl | kernel_rfl) ?_
              refine lx.o_pure (.int .i64 ((q + x : Nat) : Int)) (fun _ _ _ => lx.run_add rfl rfl rfl (by omega) (by push_cast; rfl)) ?_
              refine lx.o_pure (.pointer (some ⟨g, (q + x) * 5, none⟩)) (fun D X hC => run_at5 rfl rfl rfl HI.out Tryz.underlying35 hinf hsz) ?_
              refine lx.o_pure (.pointer (some ⟨g, (q + x) * 5 + 1, none⟩)) (fun _ _ h => by first | rfl | kernel_rfl) ?_
              refine lx.o_pure (.int .i8 (wd M (q + x))) (fun D X hC => lx.run_load rfl rfl Tryz.underlying57 rfl (hC.wide HI.out)) ?_
              refine lx.o_pure (.bool true) (fun _ _ _ => run_eq8_t rfl rfl rfl HZ.out) ?_
              refine lx.o_pure (.bool true) (fun _ _ h => by first | rfl | kernel_rfl) ?_
              refine lx.o_end ?_
              simp only [lx.ov]
              rintro X d hd hC
              have HB7 := run.hid hC
              clear hC hd HB
              go_simp
              go_upto_region 8 with fail
              have HB := HB7
              clear HB7
              obtain ⟨sv, hsv⟩ : ∃ sv, (M.getD (q + x) z0).sty = sv := ⟨_, rfl⟩
              have HBL := run.hid (fun w => blank_any sv w)
              rw [hsv] at HS
              have HSV := run.hid hsv
              clear hsv
              obtain ⟨bx, hbx⟩ : ∃ bx, bx = blankT sv := ⟨_, rfl⟩
              rw [← hbx] at HBL HS
              clear hbx
              refine lx.region (fun D X => ∃ L2, Bx w b g W H w.heap.size #[.int .i64 (X0 : Nat), .int .i64 (Y0 : Nat), .int .i64 (RW : Nat), .int .i64 (RH : Nat)] L2 X ∧ (D 25 = false → L2 = M) ∧ (D 25 = true → L2 = setT M (q + x) bx) ∧ (D 24 = true → D 23 = true) ∧ (D 25 = true → D 24 = true)) (by kernel_rfl) (by kernel_rfl) (by kernel_rfl) ⟨M, HB.out.drew, fun _ => rfl, fun h => (by cases h), fun h => (by cases h), fun h => (by cases h)⟩ ?_
              refine lx.begin 80 rfl ?_
              refine lx.o_pure (.pointer (some ⟨b, 0, none⟩)) (fun _ _ h => by first | rfl | kernel_rfl) ?_
              refine lx.o_pure (.int .i64 (y : Nat)) (fun _ _ h => by first | rfl | kernel_rfl) ?_
              refine lx.o_pure (.pointer (some ⟨b, 0, none⟩)) (fun _ _ h => by first | rfl | kernel_rfl) ?_
              refine lx.o_pure (.pointer (some ⟨b, 0, none⟩)) (fun _ _ h => by first | rfl | kernel_rfl) ?_
              refine lx.o_pure (.pointer (some ⟨b, 0, none⟩)) (fun _ _ h => by first | rfl | kernel_rfl) ?_
              refine lx.o_pure (.int .i64 (W : Nat)) (fun D X hC => lx.run_load rfl rfl Tryz.underlying3 rfl hC.choose_spec.1.buf.h0) ?_
              refine lx.o_pure (.int .i64 (q : Nat)) (fun _ _ _ => lx.run_mul rfl rfl rfl HQ.out (by omega)) ?_
              refine lx.o_pure (.int .i64 (x : Nat)) (fun _ _ h => by first | rfl | kernel_rfl) ?_
              refine lx.o_pure (.int .i64 ((q + x : Nat) : Int)) (fun _ _ _ => lx.run_add rfl rfl rfl (by omega) (by push_cast; rfl)) ?_
              refine lx.o_pure (.pointer (some ⟨b, 0, none⟩)) (fun _ _ h => by first | rfl | kernel_rfl) ?_
              refine lx.o_pure (.pointer (some ⟨b, 0, none⟩)) (fun _ _ h => by first | rfl | kernel_rfl) ?_
              refine lx.o_pure (.pointer (some ⟨b, 2, none⟩)) (fun _ _ h => by first | rfl | kernel_rfl) ?_
              refine lx.o_pure (.slice (some ⟨g, 0, none⟩) (W * H : Nat) (W * H : Nat)) (fun D X hC => lx.run_load rfl rfl Tryz.underlying35 rfl hC.choose_spec.1.buf.h2) ?_
              refine lx.o_pure (.int .i64 (y : Nat)) (fun _ _ h => by first | rfl | kernel_rfl) ?_
              refine lx.o_pure (.pointer (some ⟨b, 0, none⟩)) (fun _ _ h => by first | rfl | kernel_rfl) ?_
              refine lx.o_pure (.pointer (some ⟨b, 0, none⟩)) (fun _ _ h => by first | rfl | kernel_rfl) ?_
              refine lx.o_pure (.pointer (some ⟨b, 0, none⟩)) (fun _ _ h => by first | rfl | kernel_rfl) ?_
              refine lx.o_pure (.int .i64 (W : Nat)) (fun D X hC => lx.run_load rfl rfl Tryz.underlying3 rfl hC.choose_spec.1.buf.h0) ?_
              refine lx.o_pure (.int .i64 (q : Nat)) (fun _ _ _ => lx.run_mul rfl rfl rfl HQ.out (by omega)) ?_
              refine lx.o_pure (.int .i64 (x : Nat)) (fun _ _ h => by first | rfl | kernel_rfl) ?_
              refine lx.o_pure (.int .i64 ((q + x : Nat) : Int)) (fun _ _ _ => lx.run_add rfl rfl rfl (by omega) (by push_cast; rfl)) ?_
              refine lx.o_pure (.pointer (some ⟨g, (q + x) * 5, none⟩)) (fun D X hC => run_at5 rfl rfl rfl HI.out Tryz.underlying35 hinf hsz) ?_
              refine lx.o_pure (.pointer (some ⟨g, (q + x) * 5 + 2, none⟩)) (fun _ _ h => by first | rfl | kernel_rfl) ?_
              refine lx.o_eff sv.val (fun D X h0 hdep hC => ?_) ?_
              · obtain ⟨L2, hS, h1, h2, h3, h4⟩ := hC
                have e24 : D 24 = false := by cases h : D 24 with
                  | false => rfl
                  | true => have := h3 h; rw [h0] at this; cases this
                have e25 : D 25 = false := by cases h : D 25 with
                  | false => rfl
                  | true => have := h4 h; rw [e24] at this; cases this
                obtain rfl := h1 e25
                exact ⟨X, by rw [← HSV.out]; exact run_sty3 rfl rfl (hS.buf.cell5 HI.out), _, hS, h1, h2, fun _ => rfl, h4⟩
              refine lx.o_callD bx.val 31 #[sv.val] (fun _ _ _ => lx.run_fn rfl rfl rfl (enters_of Tryz.func31 (by kernel_rfl) rfl)) (fun D X h0 hdep hC => (HBL.out X).mono fun e w2 ⟨he, hw⟩ => ⟨he, ?_⟩) ?_
              · obtain ⟨L2, h1, h2, h3, h4, h5⟩ := hC
                have hs : D 23 = true := hdep ⟨23, .data⟩ (by simp) rfl
                exact ⟨L2, h1.below hw, h2, h3, fun _ => hs, fun _ => rfl⟩
              refine lx.o_callD (.tuple #[]) 63 #[.pointer (some ⟨b, 0, none⟩), .int .i64 ((q + x : Nat) : Int), bx.val] (fun _ _ _ => lx.run_fn rfl rfl rfl (enters_of Tryz.func63 (by kernel_rfl) rfl)) (fun D X h0 hdep hC => ?_) ?_
              · obtain ⟨L2, hS, h1, h2, h3, h4⟩ := hC
                obtain rfl := h1 h0
                have hs : D 24 = true := hdep ⟨24, .data⟩ (by simp) rfl
                exact (hS.set HG.out HI.out bx).mono fun e w2 ⟨he, hS2⟩ => ⟨he, _, hS2, (fun h => by cases h), (fun _ => rfl), h3, fun _ => hs⟩
              refine lx.o_end ?_
              simp only [lx.ov]
              rintro X d hd ⟨L2, hS, -, h2, -⟩
              obtain rfl := h2 (hd 25 (by decide))
              have HF := run.hid hS
              clear hS h2 hd HB HBL HG HSV HZ HI
              go_simp
              go_wp2
              go_roundw
              case rel => exact ⟨2, by omega, by go_num, by show Bx _ _ _ _ _ _ _ _ _; rw [HNX.out, HS.out]; exact HF.out⟩
              case measure => simp [intOf]
            · rw [hqq] at hz hi
              have HZ := run.hid hz
              have HI := run.hid hi
              have HS := run.hid (show partAt W M y x = M from if_neg (fun h => hz (by have := h.2; rwa [hqq] at this)))
              clear hz hi hqq
              go_upto_region 7 with fail
              clear q0 q1 q2 q3
              refine lx.region (fun D X => Bx w b g W H w.heap.size #[.int .i64 (X0 : Nat), .int .i64 (Y0 : Nat), .int .i64 (RW : Nat), .int .i64 (RH : Nat)] M X) (by kernel_rfl) (by kernel_rfl) (by kernel_rfl) HB.out.drew ?_
              refine lx.begin 80 rfl ?_
              refine lx.o_pure (.int .i64 (x : Nat)) (fun _ _ h => by first | rfl | kernel_rfl) ?_
              refine lx.o_pure (.pointer (some ⟨b, 0, none⟩)) (fun _ _ h => by first | rfl | kernel_rfl) ?_
              refine lx.o_pure (.pointer (some ⟨b, 0, none⟩)) (fun _ _ h => by first | rfl | kernel_rfl) ?_
              refine lx.o_pure (.pointer (some ⟨b, 0, none⟩)) (fun _ _ h => by first | rfl | kernel_rfl) ?_
              refine lx.o_pure (.int .i64 (W : Nat)) (fun D X hC => lx.run_load rfl rfl Tryz.underlying3 rfl hC.buf.h0) ?_
              refine lx.o_pure (.bool true) (fun _ _ _ => run_lssn_yes rfl rfl rfl (by omega)) ?_
              refine lx.o_pure (.bool true) (fun _ _ h => by first | rfl | kernel_rfl) ?_
              refine lx.o_pure (.pointer (some ⟨b, 0, none⟩)) (fun _ _ h => by first | rfl | kernel_rfl) ?_
              refine lx.o_pure (.pointer (some ⟨b, 0, none⟩)) (fun _ _ h => by first | rfl | kernel_rfl) ?_
              refine lx.o_pure (.pointer (some ⟨b, 2, none⟩)) (fun _ _ h => by first | rfl | kernel_rfl) ?_
              refine lx.o_pure (.slice (some ⟨g, 0, none⟩) (W * H : Nat) (W * H : Nat)) (fun D X hC => lx.run_load rfl rfl Tryz.underlying35 rfl hC.buf.h2) ?_
              refine lx.o_pure (.int .i64 (y : Nat)) (fun _ _ h => by first | rfl | kernel_rfl) ?_
              refine lx.o_pure (.pointer (some ⟨b, 0, none⟩)) (fun _ _ h => by first | rfl | kernel_rfl) ?_
              refine lx.o_pure (.pointer (some ⟨b, 0, none⟩)) (fun _ _ h => by first | rfl | kernel_rfl) ?_
              refine lx.o_pure (.pointer (some ⟨b, 0, none⟩)) (fun _ _ h => by first | rfl | kernel_rfl) ?_
              refine lx.o_pure (.int .i64 (W : Nat)) (fun D X hC => lx.run_load rfl rfl Tryz.underlying3 rfl hC.buf.h0) ?_
              refine lx.o_pure (.int .i64 (q : Nat)) (fun _ _ _ => lx.run_mul rfl rfl rfl HQ.out (by omega)) ?_
              refine lx.o_pure (.int .i64 (x : Nat)) (fun _ _ h => by first | rfl | kernel_rfl) ?_
              refine lx.o_pure (.int .i64 ((q + x : Nat) : Int)) (fun _ _ _ => lx.run_add rfl rfl rfl (by omega) (by push_cast; rfl)) ?_
              refine lx.o_pure (.pointer (some ⟨g, (q + x) * 5, none⟩)) (fun D X hC => run_at5 rfl rfl rfl HI.out Tryz.underlying35 hinf hsz) ?_
              refine lx.o_pure (.pointer (some ⟨g, (q + x) * 5 + 1, none⟩)) (fun _ _ h => by first | rfl | kernel_rfl) ?_
              refine lx.o_pure (.int .i8 (wd M (q + x))) (fun D X hC => lx.run_load rfl rfl Tryz.underlying57 rfl (hC.wide HI.out)) ?_
              refine lx.o_pure (.bool false) (fun _ _ _ => run_eq8_f rfl rfl rfl HZ.out) ?_
              refine lx.o_pure (.bool false) (fun _ _ h => by first | rfl | kernel_rfl) ?_
              refine lx.o_end ?_
              simp only [lx.ov]
              rintro X d hd hC
              have HB7 := run.hid hC
              clear hC hd HB
              go_simp
              have HF := HB7
              clear HB7 HG
              go_wp2
              go_roundw
              case rel => exact ⟨2, by omega, by go_num, by show Bx _ _ _ _ _ _ _ _ _; rw [HNX.out, HS.out]; exact HF.out⟩
              case measure => simp [intOf]
          · replace hxw : ¬ x < W := by omega
            have HS := run.hid (show partAt W M y x = M from if_neg (fun h => hxw h.1))
            clear hqq
            go_upto_region 7 with fail
            clear q0 q1 q2 q3
            refine lx.region (fun D X => Bx w b g W H w.heap.size #[.int .i64 (X0 : Nat), .int .i64 (Y0 : Nat), .int .i64 (RW : Nat), .int .i64 (RH : Nat)] M X) (by kernel_rfl) (by kernel_rfl) (by kernel_rfl) HB.out.drew ?_
            refine lx.begin 80 rfl ?_
            refine lx.o_pure (.int .i64 (x : Nat)) (fun _ _ h => by first | rfl | kernel_rfl) ?_
            refine lx.o_pure (.pointer (some ⟨b, 0, none⟩)) (fun _ _ h => by first | rfl | kernel_rfl) ?_
            refine lx.o_pure (.pointer (some ⟨b, 0, none⟩)) (fun _ _ h => by first | rfl | kernel_rfl) ?_
            refine lx.o_pure (.pointer (some ⟨b, 0, none⟩)) (fun _ _ h => by first | rfl | kernel_rfl) ?_
            refine lx.o_pure (.int .i64 (W : Nat)) (fun D X hC => lx.run_load rfl rfl Tryz.underlying3 rfl hC.buf.h0) ?_
            refine lx.o_pure (.bool false) (fun _ _ _ => run_lssn_no rfl rfl rfl (by omega)) ?_
            refine lx.o_pure (.bool false) (fun _ _ h => by first | rfl | kernel_rfl) ?_
            refine lx.o_skip ?_
            refine lx.o_skip ?_
            refine lx.o_skip ?_
            refine lx.o_skip ?_
            refine lx.o_skip ?_
            refine lx.o_skip ?_
            refine lx.o_skip ?_
            refine lx.o_skip ?_
            refine lx.o_skip ?_
            refine lx.o_skip ?_
            refine lx.o_skip ?_
            refine lx.o_skip ?_
            refine lx.o_skip ?_
            refine lx.o_skip ?_
            refine lx.o_skip ?_
            refine lx.o_skip ?_
            refine lx.o_pure (.bool false) (fun _ _ h => by first | rfl | kernel_rfl) ?_
            refine lx.o_end ?_
            simp only [lx.ov]
            rintro X d hd hC
            have HB7 := run.hid hC
            clear hC hd HB
            go_simp
            have HF := HB7
            clear HB7 HG
            go_wp2
            go_roundw
            case rel => exact ⟨2, by omega, by go_num, by show Bx _ _ _ _ _ _ _ _ _; rw [HNX.out, HS.out]; exact HF.out⟩
            case measure => simp [intOf]
        · clear hqc hq0 HG
          go_wp2
          go_roundw
          case rel => exact ⟨k + 1, by omega, by have := HYY.out; simp only [Value.int.injEq, true_and]; push_cast; omega, by show Bx _ _ _ _ _ _ _ _ _; rw [HNEXT.out]; exact HB.out⟩
          case measure => have := HYY.out; simp [intOf]; omega
    · obtain rfl : k = RH := by omega
      have HF := HB
      clear HB
      go_wp2
      first | go_end0 | (refine bodyPost_ret (results_none rfl _ _ _) rfl ?_)
      exact ⟨rfl, HF.out.buf, HF.out.grown⟩
end Go.Proofs.YtdgcfmfjgidbjaaGreat.cel
namespace Go.Proofs.YtdgcfmfjgidbjaaGreat.cel
open Go Go.RowKit Go.Proofs
set_option linter.unusedVariables false

def fillRow (W y X : Nat) (c : CV) : Nat → List CV → List CV
  | 0, L => L
  | k + 1, L => (fillRow W y X c k L).set (y * W + (X + k)) c
def fillRect (W X Y RW : Nat) (c : CV) : Nat → List CV → List CV
  | 0, L => L
  | k + 1, L => fillRow W (Y + k) X c RW (fillRect W X Y RW c k L)

/-- a buffer, and two boxes beside it -/
structure Bf (w0 : World) (b g W H : Nat) (n : Nat) (r s : Array Value) (L : List CV) (w : World) : Prop where
  buf : Buf w b g W H L
  kr : w.heap[n]? = some (.cells r 34 (0, 0))
  ks : w.heap[n + 1]? = some (.cells s 32 (0, 0))
  grown : w0.grownBy w (some g)
  ne : n ≠ g
  ne2 : n + 1 ≠ g
  le : w0.heap.size ≤ n
  bn : b < n
theorem Bf.below {w0 w w' : World} {b g W H n : Nat} {L : List CV} {r s : Array Value} (h : Bf w0 b g W H n r s L w) (hb : Below w.heap.size w w') : Bf w0 b g W H n r s L w' :=
  ⟨h.buf.below hb, (hb.block _ (Array.getElem?_eq_some_iff.1 h.kr).1).trans h.kr, (hb.block _ (Array.getElem?_eq_some_iff.1 h.ks).1).trans h.ks, run.grown_trans h.grown (grown_below hb g) (.inl rfl), h.ne, h.ne2, h.le, h.bn⟩
theorem Bf.step {w0 w w' : World} {b g W H n : Nat} {L L' : List CV} {r s : Array Value} (h : Bf w0 b g W H n r s L w) (hb : Buf w' b g W H L') (hg : w.grownBy w' (some g)) : Bf w0 b g W H n r s L' w' :=
  ⟨hb, (hg.block _ (Array.getElem?_eq_some_iff.1 h.kr).1 (by simpa using h.ne)).trans h.kr, (hg.block _ (Array.getElem?_eq_some_iff.1 h.ks).1 (by simpa using h.ne2)).trans h.ks, run.grown_trans h.grown hg (.inl rfl), h.ne, h.ne2, h.le, h.bn⟩
theorem Bf.drew {w0 w : World} {b g W H n : Nat} {L : List CV} {r s : Array Value} (h : Bf w0 b g W H n r s L w) : Bf w0 b g W H n r s L w.drew := h.below (drewB (Below.refl _ _))
theorem Bf.store {w0 w : World} {b g W H n : Nat} {L : List CV} {r s : Array Value} (h : Bf w0 b g W H n r s L w) {i : Nat} (hi : i < W * H) (x : CV) : Bf w0 b g W H n r s (L.set i x) (setC w g i x) := h.step (h.buf.store hi x) (setC_grown _ _ _ _)
/-- the rectangle's box, written -/
theorem Bf.rect {w0 w : World} {b g W H n : Nat} {L : List CV} {a b' c d a2 b2 c2 d2 : Value} {s : Array Value} (h : Bf w0 b g W H n #[a, b', c, d] s L w) :
    Bf w0 b g W H n #[a2, b2, c2, d2] s L ((((w.setCell ⟨n, 0, none⟩ a2).setCell ⟨n, 1, none⟩ b2).setCell ⟨n, 2, none⟩ c2).setCell ⟨n, 3, none⟩ d2) := by
  have hg : w.grownBy ((((w.setCell ⟨n, 0, none⟩ a2).setCell ⟨n, 1, none⟩ b2).setCell ⟨n, 2, none⟩ c2).setCell ⟨n, 3, none⟩ d2) (some n) :=
    run.grown_trans (run.setCell_grown w n 0 a2) (run.grown_trans (run.setCell_grown _ n 1 b2) (run.grown_trans (run.setCell_grown _ n 2 c2) (run.setCell_grown _ n 3 d2) (.inl rfl)) (.inl rfl)) (.inl rfl)
  refine ⟨h.buf.kept hg (by have := h.bn; omega) (fun e => h.ne e.symm), set4 h.kr, (hg.block _ (Array.getElem?_eq_some_iff.1 h.ks).1 (by simp)).trans h.ks, ?_, h.ne, h.ne2, h.le, h.bn⟩
  have h1 := h.grown
  have h2 := h.le
  obtain ⟨p1, p2, p3, p4, p5⟩ := h1
  obtain ⟨q1, q2, q3, q4, q5⟩ := hg
  refine ⟨q1.trans p1, q2.trans p2, q3.trans p3, Nat.le_trans p4 q4, fun k hk hne => ?_⟩
  exact (q5 k (by omega) (by simp; omega)).trans (p5 k hk hne)

set_option maxRecDepth 100000 in
set_option maxHeartbeats 8000000 in
theorem fill_any (b g W H : Nat) (L : List CV) (r : RT) (s : SV) (X0 Y0 RW RH : Nat) (w : World) (h : Buf w b g W H L) (hG : Good W H L) (hr : r.wf) (hlet : letIn r W H = ⟨X0, Y0, RW, RH⟩) (hx : X0 + RW ≤ W) (hy : Y0 + RH ≤ H) :
    Calls Tryz.prog 14 #[.pointer (some ⟨b, 0, none⟩), r.val, s.val] w fun e w' => e = .returned (.tuple #[]) ∧ Buf w' b g W H (fillRect W X0 Y0 RW (blankT s) RH (partT W X0 Y0 RW RH L)) ∧ w.grownBy w' (some g) := by
  obtain ⟨it, hinf, -, hsz, -⟩ := info_parts info_cell
  obtain ⟨hblt, hglt⟩ := h.lt
  have hWb := h.wide
  have hHb := h.high
  have HWIN := run.hid (fun w (h : Buf w b g W H L) => window_any b g W H L r w h hr)
  change Hid (∀ w, _ → Calls _ _ _ _ fun e w' => e = .returned (letIn r W H).val ∧ _) at HWIN
  rw [hlet] at HWIN
  have HPART := run.hid (fun w h => part_any b g W H L X0 Y0 RW RH w h hG hx hy)
  have HBL := run.hid (fun w => blank_any s w)
  have HGM := run.hid (partT_good (X := X0) (Y := Y0) (RW := RW) hG RH hy)
  generalize partT W X0 Y0 RW RH L = PT at *
  obtain ⟨bx, hbx⟩ : ∃ bx, bx = blankT s := ⟨_, rfl⟩
  rw [← hbx] at HBL ⊢
  clear hbx hlet hG
  obtain ⟨sf, sb, sa⟩ := s
  obtain ⟨r1, r2, r3, r4⟩ := r
  change Hid (∀ w, _ → Calls _ _ #[_, .agg #[.int .i64 r1, .int .i64 r2, .int .i64 r3, .int .i64 r4]] _ fun e w' => e = .returned (.agg #[.int .i64 (X0 : Nat), .int .i64 (Y0 : Nat), .int .i64 (RW : Nat), .int .i64 (RH : Nat)]) ∧ _) at HWIN
  change Hid (∀ w, Calls _ _ #[.agg #[.int .i32 sf, .int .i32 sb, .int .u8 sa]] _ _) at HBL
  show Calls _ _ #[_, .agg #[.int .i64 r1, .int .i64 r2, .int .i64 r3, .int .i64 r4], .agg #[.int .i32 sf, .int .i32 sb, .int .u8 sa]] _ _
  have HB0 : Hid (Bf w b g W H w.heap.size #[.int .i64 r1, .int .i64 r2, .int .i64 r3, .int .i64 r4] #[.int .i32 sf, .int .i32 sb, .int .u8 sa] L ((w.alloc (.cells #[.int .i64 r1, .int .i64 r2, .int .i64 r3, .int .i64 r4] 34)).alloc (.cells #[.int .i32 sf, .int .i32 sb, .int .u8 sa] 32))) :=
    ⟨(h.alloc _).alloc _, heap_alloc2_old w _ _, heap_alloc2_new w _ _, run.grown_trans (World.grownBy_alloc w _ (some g)) (World.grownBy_alloc _ _ (some g)) (.inl rfl), by omega, by omega, Nat.le_refl _, hblt⟩
  have hne : w.heap.size ≠ g := by omega
  have hne2 : w.heap.size + 1 ≠ g := by omega
  clear h hr
  obtain ⟨⟨q0, q1, q2, q3⟩, -⟩ := blk4 HB0.out.kr
  have HC := run.hid (HWIN.out _ HB0.out.buf)
  go_enter Tryz.func14, Tryz.ntmps14
  go_wp2_with fail
  refine HC.out.mono ?_
  rintro e w3 ⟨rfl, hb⟩
  clear q0 q1 q2 q3
  have HB3 := run.hid (HB0.out.below hb)
  obtain ⟨⟨q0, q1, q2, q3⟩, f0, f1, f2, f3⟩ := blk4 HB3.out.kr
  have HB4 := run.hid (HB3.out.rect (a2 := .int .i64 (X0 : Nat)) (b2 := .int .i64 (Y0 : Nat)) (c2 := .int .i64 (RW : Nat)) (d2 := .int .i64 (RH : Nat)))
  clear hb HB0 HC HWIN HB3
  go_upto_region 3 with fail
  clear q0 q1 q2 q3 f0 f1 f2 f3
  generalize ((((w3.setCell ⟨w.heap.size, 0, none⟩ (.int .i64 (X0 : Nat))).setCell ⟨w.heap.size, 1, none⟩ (.int .i64 (Y0 : Nat))).setCell ⟨w.heap.size, 2, none⟩ (.int .i64 (RW : Nat))).setCell ⟨w.heap.size, 3, none⟩ (.int .i64 (RH : Nat))) = w4 at *
  obtain ⟨⟨q0, q1, q2, q3⟩, -⟩ := blk4 HB4.out.kr
  have HP := run.hid (HPART.out w4 HB4.out.buf)
  clear HPART
  go_wp2_with fail
  refine HP.out.mono ?_
  rintro e w5 ⟨rfl, hb5, hg5⟩
  clear q0 q1 q2 q3
  have HB5 := run.hid (HB4.out.step hb5 hg5)
  clear hb5 hg5 HB4 HP
  obtain ⟨⟨q0, q1, q2, q3⟩, -⟩ := blk4 HB5.out.kr
  go_wp2
  go_loopw [6] (fun vy wr => ∃ k, k ≤ RH ∧ vy = .int .i64 ((Y0 + k : Nat) : Int) ∧ Hid (Bf w b g W H w.heap.size #[.int .i64 (X0 : Nat), .int .i64 (Y0 : Nat), .int .i64 (RW : Nat), .int .i64 (RH : Nat)] #[.int .i32 sf, .int .i32 sb, .int .u8 sa] (fillRect W X0 Y0 RW bx k PT) wr)) (fun vy _ => ((Y0 : Int) + RH - intOf vy).toNat)
  case atStart => exact ⟨0, Nat.zero_le _, rfl, HB5⟩
  case round =>
    obtain ⟨k, hk, rfl, HB⟩ := hrel
    clear q0 q1 q2 q3 HB5
    obtain ⟨⟨q0, q1, q2, q3⟩, -⟩ := blk4 HB.out.kr
    by_cases hkl : k < RH
    · have HNEXT := run.hid (show fillRect W X0 Y0 RW bx (k + 1) PT = fillRow W (Y0 + k) X0 bx RW (fillRect W X0 Y0 RW bx k PT) from rfl)
      have hy2 : Y0 + k < H := by omega
      obtain ⟨y, hyy⟩ : ∃ y, y = Y0 + k := ⟨_, rfl⟩
      rw [← hyy] at hy2 HNEXT ⊢
      generalize fillRect W X0 Y0 RW bx k PT = M0 at *
      have HYY := run.hid hyy
      have hyl : (y : Int) < (Y0 : Int) + (RH : Int) := by omega
      clear hyy
      have hqc := Int.natCast_mul y W
      have hq0 : y * W ≤ 4096 * 4096 := Nat.mul_le_mul (by omega) hWb
      have hrow := Nat.mul_le_mul_right W (show y + 1 ≤ H from hy2)
      rw [Nat.add_mul, Nat.one_mul, Nat.mul_comm H W] at hrow
      obtain ⟨q, hqq⟩ : ∃ q, y * W = q := ⟨_, rfl⟩
      have HQ := run.hid (show ((y : Nat) : Int) * ((W : Nat) : Int) = ((q : Nat) : Int) from by rw [← hqq]; exact hqc.symm)
      rw [hqq] at hq0 hrow
      have HQQ := run.hid hqq
      clear hqq hqc
      go_wp2
      generalize wr = wy at *
      go_loopw [7] (fun vx wr => ∃ j, j ≤ RW ∧ vx = .int .i64 ((X0 + j : Nat) : Int) ∧ Hid (Bf w b g W H w.heap.size #[.int .i64 (X0 : Nat), .int .i64 (Y0 : Nat), .int .i64 (RW : Nat), .int .i64 (RH : Nat)] #[.int .i32 sf, .int .i32 sb, .int .u8 sa] (fillRow W y X0 bx j M0) wr)) (fun vx _ => ((X0 : Int) + RW - intOf vx).toNat)
      case atStart => exact ⟨0, Nat.zero_le _, rfl, HB⟩
      case round =>
        obtain ⟨j, hj, rfl, HB2⟩ := hrel
        clear HB
        have HB := HB2
        clear HB2
        clear q0 q1 q2 q3
        obtain ⟨⟨q0, q1, q2, q3⟩, -⟩ := blk4 HB.out.kr
        by_cases hjl : j < RW
        · obtain ⟨x, hxx⟩ : ∃ x, x = X0 + j := ⟨_, rfl⟩
          have HNX := run.hid (show fillRow W y X0 bx (j + 1) M0 = (fillRow W y X0 bx j M0).set (q + x) bx from by rw [← HQQ.out, hxx]; rfl)
          have HI := run.hid (show q + x < W * H by omega)
          rw [← hxx]
          generalize fillRow W y X0 bx j M0 = M at *
          have HXX := run.hid hxx
          have hxl : (x : Int) < (X0 : Int) + (RW : Int) := by omega
          have hxb : x ≤ 4096 := by omega
          clear hxx hrow
          go_upto_region 10 with fail
          clear q0 q1 q2 q3
          refine lx.region (fun D X => ∃ L2, Bf w b g W H w.heap.size #[.int .i64 (X0 : Nat), .int .i64 (Y0 : Nat), .int .i64 (RW : Nat), .int .i64 (RH : Nat)] #[.int .i32 sf, .int .i32 sb, .int .u8 sa] L2 X ∧ (D 15 = false → L2 = M) ∧ (D 15 = true → L2 = M.set (q + x) bx)) (by kernel_rfl) (by kernel_rfl) (by kernel_rfl) ⟨M, HB.out.drew, fun _ => rfl, fun h => (by cases h)⟩ ?_
          refine lx.begin 53 rfl ?_
          refine lx.o_pure (.pointer (some ⟨b, 0, none⟩)) (fun _ _ h => by first | rfl | kernel_rfl) ?_
          refine lx.o_pure (.pointer (some ⟨b, 0, none⟩)) (fun _ _ h => by first | rfl | kernel_rfl) ?_
          refine lx.o_pure (.pointer (some ⟨b, 2, none⟩)) (fun _ _ h => by first | rfl | kernel_rfl) ?_
          refine lx.o_pure (.slice (some ⟨g, 0, none⟩) (W * H : Nat) (W * H : Nat)) (fun D X hC => lx.run_load rfl rfl Tryz.underlying35 rfl hC.choose_spec.1.buf.h2) ?_
          refine lx.o_pure (.int .i64 (y : Nat)) (fun _ _ h => by first | rfl | kernel_rfl) ?_
          refine lx.o_pure (.pointer (some ⟨b, 0, none⟩)) (fun _ _ h => by first | rfl | kernel_rfl) ?_
          refine lx.o_pure (.pointer (some ⟨b, 0, none⟩)) (fun _ _ h => by first | rfl | kernel_rfl) ?_
          refine lx.o_pure (.pointer (some ⟨b, 0, none⟩)) (fun _ _ h => by first | rfl | kernel_rfl) ?_
          refine lx.o_pure (.int .i64 (W : Nat)) (fun D X hC => lx.run_load rfl rfl Tryz.underlying3 rfl hC.choose_spec.1.buf.h0) ?_
          refine lx.o_pure (.int .i64 (q : Nat)) (fun _ _ _ => lx.run_mul rfl rfl rfl HQ.out (by omega)) ?_
          refine lx.o_pure (.int .i64 (x : Nat)) (fun _ _ h => by first | rfl | kernel_rfl) ?_
          refine lx.o_pure (.int .i64 ((q + x : Nat) : Int)) (fun _ _ _ => lx.run_add rfl rfl rfl (by omega) (by push_cast; rfl)) ?_
          refine lx.o_pure (.agg #[.int .i32 sf, .int .i32 sb, .int .u8 sa]) (fun D X hC => run_loadrow rfl rfl hC.choose_spec.1.ks Tryz.underlying32 rfl (by kernel_rfl)) ?_
          refine lx.o_call bx.val 31 #[.agg #[.int .i32 sf, .int .i32 sb, .int .u8 sa]] (fun _ _ _ => lx.run_fn rfl rfl rfl (enters_of Tryz.func31 (by kernel_rfl) rfl)) (fun D X hC => (HBL.out X).mono fun e w2 ⟨he, hw⟩ => ⟨he, by obtain ⟨L2, h1, h2⟩ := hC; exact ⟨L2, h1.below hw, h2⟩⟩) ?_
          refine lx.o_pure (.pointer (some ⟨g, (q + x) * 5, none⟩)) (fun D X hC => run_at5 rfl rfl rfl HI.out Tryz.underlying35 hinf hsz) ?_
          refine lx.o_put (fun D X h0 hdep hC => ?_) ?_
          · obtain ⟨L2, hS, h1, h2⟩ := hC
            obtain rfl := h1 h0
            exact ⟨_, run_store5 hS.buf HI.out rfl rfl rfl, _, hS.store HI.out bx, (fun h => by cases h), fun _ => rfl⟩
          refine lx.o_end ?_
          simp only [lx.ov]
          rintro X d hd ⟨L2, hS, -, h2⟩
          obtain rfl := h2 (hd 15 (by decide))
          have HF := run.hid hS
          clear hS h2 hd HB HI
          go_simp
          go_wp2
          go_roundw
          case rel => exact ⟨j + 1, by omega, by have := HXX.out; simp only [Value.int.injEq, true_and]; push_cast; omega, by show Bf _ _ _ _ _ _ _ _ _ _; rw [HNX.out]; exact HF.out⟩
          case measure => have := HXX.out; simp [intOf]; omega
        · obtain rfl : j = RW := by omega
          go_wp2
          go_roundw
          case rel => exact ⟨k + 1, by omega, by have := HYY.out; simp only [Value.int.injEq, true_and]; push_cast; omega, by show Bf _ _ _ _ _ _ _ _ _ _; rw [HNEXT.out]; exact HB.out⟩
          case measure => have := HYY.out; simp [intOf]; omega
    · obtain rfl : k = RH := by omega
      have HF := HB
      clear HB
      go_wp2
      first | go_end0 | (refine bodyPost_ret (results_none rfl _ _ _) rfl ?_)
      exact ⟨rfl, HF.out.buf, HF.out.grown⟩
end Go.Proofs.YtdgcfmfjgidbjaaGreat.cel
namespace Go.Proofs.YtdgcfmfjgidbjaaGreat.cel
open Go Go.RowKit Go.Proofs
set_option linter.unusedVariables false

def copyRow (W y f X : Nat) (O : List CV) : Nat → List CV → List CV
  | 0, L => L
  | k + 1, L => (copyRow W y f X O k L).set (y * W + (X + k)) (O.getD (f * W + (X + k)) z0)
def shiftRow (W X Y RW RH : Nat) (D : Int) (c : CV) (O : List CV) (y : Nat) (L : List CV) : List CV :=
  if (Y : Int) ≤ (y : Int) + D ∧ (y : Int) + D < (Y : Int) + (RH : Int) then copyRow W y ((y : Int) + D).toNat X O RW L else fillRow W y X c RW L
def shiftT (W X Y RW RH : Nat) (D : Int) (c : CV) (O : List CV) : Nat → List CV → List CV
  | 0, L => L
  | k + 1, L => shiftRow W X Y RW RH D c O (Y + k) (shiftT W X Y RW RH D c O k L)
def spliceL (L : List CV) (i : Nat) (S : List CV) : List CV := L.take i ++ S ++ L.drop (i + S.length)
theorem copyRow_len (W y f X : Nat) (O L : List CV) : ∀ k, (copyRow W y f X O k L).length = L.length
  | 0 => rfl
  | k + 1 => by unfold copyRow; rw [List.length_set, copyRow_len]
theorem copyRow_get (W y f X : Nat) (O L : List CV) (i : Nat) : ∀ k, y * W + X + k ≤ L.length → (copyRow W y f X O k L)[i]? = if y * W + X ≤ i ∧ i < y * W + X + k then some (O.getD (f * W + X + (i - (y * W + X))) z0) else L[i]?
  | 0, _ => by rw [if_neg (by omega)]; rfl
  | k + 1, hk => by
    unfold copyRow
    rw [List.getElem?_set, copyRow_len, copyRow_get W y f X O L i k (by omega)]
    by_cases e : y * W + (X + k) = i
    · rw [if_pos e, if_pos (by omega), if_pos (by omega), show f * W + (X + k) = f * W + X + (i - (y * W + X)) by omega]
    · rw [if_neg e]
      by_cases h : y * W + X ≤ i ∧ i < y * W + X + k
      · rw [if_pos h, if_pos (by omega)]
      · rw [if_neg h, if_neg (by omega)]
theorem copyRow_splice (W y f X RW : Nat) (O L : List CV) (h1 : y * W + X + RW ≤ L.length) (h2 : f * W + X + RW ≤ O.length) : spliceL L (y * W + X) ((O.drop (f * W + X)).take RW) = copyRow W y f X O RW L := by
  apply List.ext_getElem?
  intro i
  rw [copyRow_get W y f X O L i RW h1]
  have hl : ((O.drop (f * W + X)).take RW).length = RW := by rw [List.length_take, List.length_drop]; omega
  unfold spliceL
  rw [hl]
  by_cases ha : i < y * W + X
  · rw [if_neg (by omega), List.append_assoc, List.getElem?_append_left (by rw [List.length_take]; omega), List.getElem?_take_of_lt ha]
  · by_cases hb : i < y * W + X + RW
    · rw [if_pos (by omega), List.getElem?_append_left (by rw [List.length_append, List.length_take, hl]; omega), List.getElem?_append_right (by rw [List.length_take]; omega), List.length_take, show i - min (y * W + X) L.length = i - (y * W + X) by omega, List.getElem?_take_of_lt (by omega), List.getElem?_drop, List.getD_eq_getElem?_getD]
      rw [List.getElem?_eq_getElem (show f * W + X + (i - (y * W + X)) < O.length by omega)]
      rfl
    · rw [if_neg (by omega), List.getElem?_append_right (by rw [List.length_append, List.length_take, hl]; omega), List.length_append, List.length_take, hl, List.getElem?_drop]
      congr 1
      omega

/-- a segment of the row, copied -/
theorem Buf.copied {w : World} {b g W H : Nat} {L : List CV} (h : Buf w b g W H L) {cur : Array Value} {t : TypeId} (hk : w.heap[g]? = some (.cells cur t (0, 0))) (S : List CV) (i : Nat) (hi : i + S.length ≤ W * H) :
    Buf (w.setRow g (cur.toList.take (i * 5) ++ cells5 S ++ cur.toList.drop (i * 5 + (cells5 S).length)).toArray) b g W H (spliceL L i S) ∧ i * 5 + (cells5 S).length ≤ cur.size := by
  have hsz : W * H * 5 ≤ cur.size := by
    rcases Nat.eq_zero_or_pos (W * H) with h0 | h0
    · rw [h0]; omega
    · have hlt : W * H - 1 < L.length := by rw [h.len]; omega
      obtain ⟨-, -, -, -, c4⟩ := h.grid.at hlt
      unfold World.cell? at c4
      simp only [hk] at c4
      have : (W * H - 1) * 5 + 4 < cur.size := by
        by_cases e : (W * H - 1) * 5 + 4 < cur.size
        · exact e
        · simp [Array.getElem?_eq_none (Nat.le_of_not_lt e)] at c4
      omega
  have hcl := cells5_length S
  refine ⟨?_, by omega⟩
  have hself := setRow_heap w g cur (cur.toList.take (i * 5) ++ cells5 S ++ cur.toList.drop (i * 5 + (cells5 S).length)).toArray t (0, 0) hk
  have hoth : (w.setRow g (cur.toList.take (i * 5) ++ cells5 S ++ cur.toList.drop (i * 5 + (cells5 S).length)).toArray).heap[b]? = w.heap[b]? := setRow_other _ _ _ _ h.ne
  have hcur : ∀ (j : Nat) (v : Value), (cells5 L)[j]? = some v → cur.toList[j]? = some v := by
    intro j v hj
    have := h.grid.cells hj
    unfold World.cell? at this
    simp only [hk] at this
    simpa using this
  have hnew : ∀ (j : Nat) (v : Value), (cells5 (spliceL L i S))[j]? = some v → (w.setRow g (cur.toList.take (i * 5) ++ cells5 S ++ cur.toList.drop (i * 5 + (cells5 S).length)).toArray).cell? ⟨g, j, none⟩ = some v := by
    intro j v hj
    unfold World.cell?
    simp only [hself]
    show (List.toArray _)[j]? = some v
    rw [List.getElem?_toArray]
    unfold spliceL at hj
    rw [cells5_append, cells5_append] at hj
    have hlt : (cells5 (L.take i)).length = i * 5 := by rw [cells5_length, List.length_take, h.len]; congr 1; omega
    by_cases ha : j < i * 5
    · rw [List.append_assoc, List.getElem?_append_left (by omega)] at hj
      rw [List.append_assoc, List.getElem?_append_left (by rw [List.length_take, Array.length_toList]; omega), List.getElem?_take_of_lt ha]
      refine hcur j v ?_
      rw [← hj]
      conv => lhs; rw [← List.take_append_drop i L, cells5_append]
      rw [List.getElem?_append_left (by omega)]
    · by_cases hb : j < i * 5 + (cells5 S).length
      · rw [List.getElem?_append_left (by rw [List.length_append]; omega), List.getElem?_append_right (by omega), hlt] at hj
        rw [List.getElem?_append_left (by rw [List.length_append, List.length_take, Array.length_toList]; omega), List.getElem?_append_right (by rw [List.length_take, Array.length_toList]; omega), List.length_take, show min (i * 5) cur.toList.length = i * 5 by rw [Array.length_toList]; omega]
        exact hj
      · rw [List.getElem?_append_right (by rw [List.length_append]; omega), List.length_append, hlt] at hj
        rw [List.getElem?_append_right (by rw [List.length_append, List.length_take, Array.length_toList]; omega), List.length_append, List.length_take, show min (i * 5) cur.toList.length = i * 5 by rw [Array.length_toList]; omega, List.getElem?_drop]
        refine hcur _ v ?_
        rw [← hj]
        conv => lhs; rw [← List.take_append_drop (i + S.length) L, cells5_append]
        have hl2 : (cells5 (L.take (i + S.length))).length = i * 5 + (cells5 S).length := by rw [cells5_length, List.length_take, h.len, hcl]; omega
        rw [List.getElem?_append_right (by omega), hl2]
        congr 1
        omega
  refine ⟨(World.cell?_of_block (a := ⟨b, 0, none⟩) hoth).trans h.h0, (World.cell?_of_block (a := ⟨b, 1, none⟩) hoth).trans h.h1, (World.cell?_of_block (a := ⟨b, 2, none⟩) hoth).trans h.h2, ?_, ⟨_, _, hself⟩, ?_, h.ne, h.wide, h.high, h.size⟩
  · intro k c hkc
    obtain ⟨hklt, hkv⟩ := List.getElem?_eq_some_iff.1 hkc
    have e : (spliceL L i S).getD k z0 = c := by rw [List.getD_eq_getElem?_getD, hkc]; rfl
    obtain ⟨g0, g1, g2, g3, g4⟩ := cells5_get (spliceL L i S) k hklt
    rw [e] at g0 g1 g2 g3 g4
    exact ⟨hnew _ _ g0, hnew _ _ g1, hnew _ _ g2, hnew _ _ g3, hnew _ _ g4⟩
  · unfold spliceL
    rw [List.length_append, List.length_append, List.length_take, List.length_drop, h.len]
    omega
theorem setRow_grown {w : World} {g : Nat} {cur : Array Value} {t : TypeId} (hk : w.heap[g]? = some (.cells cur t (0, 0))) (cs : Array Value) : w.grownBy (w.setRow g cs) (some g) := by
  refine ⟨rfl, rfl, rfl, Nat.le_of_eq (by simp [World.setRow]), fun k hk' hne => ?_⟩
  exact setRow_other _ _ _ _ (fun e => hne (by rw [e]))

theorem seg_cells {O : List CV} {i m j : Nat} {v : Value} (h : (cells5 ((O.drop i).take m))[j]? = some v) : (cells5 O)[i * 5 + j]? = some v := by
  rcases Nat.lt_or_ge O.length i with hi | hi
  · rw [List.drop_eq_nil_of_le (Nat.le_of_lt hi)] at h
    simp [cells5] at h
  · have e : O = O.take i ++ ((O.drop i).take m ++ (O.drop i).drop m) := by rw [List.take_append_drop, List.take_append_drop]
    conv => lhs; rw [e, cells5_append, cells5_append]
    have hl : (cells5 (O.take i)).length = i * 5 := by rw [cells5_length, List.length_take]; congr 1; omega
    rw [List.getElem?_append_right (by omega), hl, show i * 5 + j - i * 5 = j by omega, List.getElem?_append_left]
    · exact h
    · exact (List.getElem?_eq_some_iff.1 h).1
theorem fillRow_len (W y X : Nat) (c : CV) (L : List CV) : ∀ k, (fillRow W y X c k L).length = L.length
  | 0 => rfl
  | k + 1 => by unfold fillRow; rw [List.length_set, fillRow_len]
theorem shiftT_len (W X Y RW RH : Nat) (D : Int) (c : CV) (O L : List CV) : ∀ k, (shiftT W X Y RW RH D c O k L).length = L.length
  | 0 => rfl
  | k + 1 => by
    unfold shiftT shiftRow
    split
    · rw [copyRow_len, shiftT_len]
    · rw [fillRow_len, shiftT_len]

/-- a buffer with two boxes, and the cells as they were -/
structure Sh (w0 : World) (b g W H : Nat) (n : Nat) (r s : Array Value) (B : Nat) (v : Value) (O : List CV) (L : List CV) (w : World) : Prop where
  bf : Bf w0 b g W H n r s L w
  old : w.ownsRow B 59 5 v (W * H) (cells5 O)
  gB : g < B
theorem Sh.below {w0 w w' : World} {b g W H n B : Nat} {v : Value} {O L : List CV} {r s : Array Value} (h : Sh w0 b g W H n r s B v O L w) (hb : Below w.heap.size w w') : Sh w0 b g W H n r s B v O L w' :=
  ⟨h.bf.below hb, run.own_below h.old hb, h.gB⟩
theorem Sh.step {w0 w w' : World} {b g W H n B : Nat} {v : Value} {O L L' : List CV} {r s : Array Value} (h : Sh w0 b g W H n r s B v O L w) (hb : Buf w' b g W H L') (hg : w.grownBy w' (some g)) : Sh w0 b g W H n r s B v O L' w' := by
  refine ⟨h.bf.step hb hg, h.old.kept hg ?_, h.gB⟩
  cases hv : v.ownBlock with
  | none => exact .inl rfl
  | some k =>
    refine .inr fun e => ?_
    have h1 := (h.old.lt k hv).1
    have h2 := h.gB
    simp only [Option.some.injEq] at e
    omega
theorem Sh.drew {w0 w : World} {b g W H n B : Nat} {v : Value} {O L : List CV} {r s : Array Value} (h : Sh w0 b g W H n r s B v O L w) : Sh w0 b g W H n r s B v O L w.drew := h.below (drewB (Below.refl _ _))
theorem Sh.store {w0 w : World} {b g W H n B : Nat} {v : Value} {O L : List CV} {r s : Array Value} (h : Sh w0 b g W H n r s B v O L w) {i : Nat} (hi : i < W * H) (x : CV) : Sh w0 b g W H n r s B v O (L.set i x) (setC w g i x) := h.step (h.bf.buf.store hi x) (setC_grown _ _ _ _)
theorem Sh.copy {w0 w : World} {b g W H n B gg gc : Nat} {O L : List CV} {r s : Array Value} (h : Sh w0 b g W H n r s B (.slice (some ⟨gg, 0, none⟩) (W * H) gc) O L w) {y f X RW : Nat} (h1 : y * W + X + RW ≤ W * H) (h2 : f * W + X + RW ≤ O.length) (hO : O.length = W * H) (c1 c2 : Nat) (ty : TypeId) :
    ∃ w', (Builtin.copy_ #[35, 35] ty #[.slice (some ⟨g, (y * W + X) * 5, none⟩) RW c1, .slice (some ⟨gg, (f * W + X) * 5, none⟩) RW c2]).run Tryz.prog w = .ok (.int .i64 (RW : Nat)) w' ∧ Sh w0 b g W H n r s B (.slice (some ⟨gg, 0, none⟩) (W * H) gc) O (copyRow W y f X O RW L) w' := by
  obtain ⟨it, hinf, -, hsz, -⟩ := info_parts info_cell
  obtain ⟨cur, t, hk⟩ := h.bf.buf.blk
  have hlen := h.bf.buf.len
  have hSl : ((O.drop (f * W + X)).take RW).length = RW := by rw [List.length_take, List.length_drop]; omega
  obtain ⟨hb, hfit⟩ := h.bf.buf.copied hk ((O.drop (f * W + X)).take RW) (y * W + X) (by rw [hSl]; exact h1)
  rw [copyRow_splice W y f X RW O L (by rw [hlen]; exact h1) h2] at hb
  have hr := run_copy_rowN (P := Tryz.prog) w 35 35 ty 59 5 g ((y * W + X) * 5) RW c1 ⟨gg, (f * W + X) * 5, none⟩ RW c2 cur t (cells5 ((O.drop (f * W + X)).take RW)) Tryz.underlying35 (by rw [hinf, Option.map_some, hsz]) hk (by rw [cells5_length, hSl, show Nat.min RW RW = RW from Nat.min_self RW])
    (fun j v hj => by
      have h3 := seg_cells hj
      rw [run.add_none]
      refine (h.old.cellAt ((f * W + X) * 5 + j) ?_).trans h3
      have := (List.getElem?_eq_some_iff.1 h3).1
      rw [cells5_length] at this
      omega) hfit one_cell5
  rw [show Nat.min RW RW = RW from Nat.min_self RW] at hr
  exact ⟨_, hr, h.step hb (setRow_grown hk _)⟩
section
variable {o : Oper} {ρ : Operand → Value} {w : World} {p q : Operand} {t : TypeId}
theorem run_neg {x z : Int} (ho : o.op = .unOp .neg t p) (hx : ρ p = .int .i64 x) (hz : -x = z) (hb : -9223372036854775808 ≤ z ∧ z ≤ 9223372036854775807) : (execOp ρ o).run Tryz.prog w = .ok (.value (.int .i64 z)) w := by
  subst hz
  have := IntWalk.i64_in _ hb
  unfold execOp
  simp only [ho, hx]
  simp [go_sem, this]
theorem run_from5 {g len cap i c o9 : Nat} {it : TypeInfo} (ho : o.op = .slice 35 p (some q) none none) (hx : ρ p = .slice (some ⟨g, 0, none⟩) len cap) (hy : ρ q = .int .i64 (i : Nat)) (hi : i ≤ len) (hc : i < cap) (hn : len = cap) (hs : Tryz.prog.info? 59 = some it) (hz : it.size = 5) (e : c = cap - i) (e9 : o9 = i * 5) :
    (execOp ρ o).run Tryz.prog w = .ok (.value (.slice (some ⟨g, o9, none⟩) c c)) w := by
  subst e e9 hn
  have := run_from (P := Tryz.prog) (w := w) ho hx hy hi Tryz.underlying35 hs hz
  rw [this]
  unfold subA
  rw [if_neg (by omega)]
  simp [run.add_none]
end

theorem field_scr (x y z u v : Value) (a : Option Addr) (n c : Nat) (w : World) : (Instr.field 64 (.agg #[x, y, .slice a n c, z, u, v]) 2).run Tryz.prog w = .ok (.slice a n c) w := by kernel_rfl
theorem run_from12 {o : Oper} {ρ : Operand → Value} {w : World} {p q : Operand} {g len cap i l c o9 : Nat} {it : TypeInfo} (ho : o.op = .slice 35 p (some q) none none) (hx : ρ p = .slice (some ⟨g, 0, none⟩) len cap) (hy : ρ q = .int .i64 (i : Nat)) (hi : i ≤ len) (hc : i < cap) (hs : Tryz.prog.info? 59 = some it) (hz : it.size = 5) (el : l = len - i) (e : c = cap - i) (e9 : o9 = i * 5) :
    (execOp ρ o).run Tryz.prog w = .ok (.value (.slice (some ⟨g, o9, none⟩) l c)) w := by
  subst el e e9
  have := run_from (P := Tryz.prog) (w := w) ho hx hy hi Tryz.underlying35 hs hz
  rw [this]
  unfold subA
  rw [if_neg (by omega)]
  simp [run.add_none]
theorem run_atk {o : Oper} {ρ : Operand → Value} {w : World} {p q : Operand} {b off len cap i : Nat} {it : TypeInfo} (ho : o.op = .indexAddr 35 p q) (hx : ρ p = .slice (some ⟨b, off, none⟩) len cap) (hy : ρ q = .int .i64 (i : Nat)) (hi : i < len)
    (hs : Tryz.prog.info? 59 = some it) (hz : it.size = 5) : (execOp ρ o).run Tryz.prog w = .ok (.value (.pointer (some ⟨b, off + i * 5, none⟩))) w := lx.run_at ho hx hy hi Tryz.underlying35 hs hz

set_option maxRecDepth 100000 in
set_option maxHeartbeats 8000000 in
theorem shift_any (b g W H : Nat) (L : List CV) (r : RT) (by0 : Int) (s : SV) (X0 Y0 RW RH : Nat) (w : World) (h : Buf w b g W H L) (hG : Good W H L) (hr : r.wf) (hlet : letIn r W H = ⟨X0, Y0, RW, RH⟩) (hx : X0 + RW ≤ W) (hy : Y0 + RH ≤ H) (hp : 0 < RH → 0 < RW) :
    Calls Tryz.prog 20 #[.pointer (some ⟨b, 0, none⟩), r.val, .int .i64 by0, s.val] w fun e w' => e = .returned (.tuple #[]) ∧ Buf w' b g W H (shiftT W X0 Y0 RW RH (min (max by0 (-(H : Int))) H) (blankT s) (partT W X0 Y0 RW RH L) RH (partT W X0 Y0 RW RH L)) ∧ w.grownBy w' (some g) := by
  obtain ⟨it, hinf, -, hsz, -⟩ := info_parts info_cell
  obtain ⟨hblt, hglt⟩ := h.lt
  have hWb := h.wide
  have hHb := h.high
  have HWIN := run.hid (fun w (h : Buf w b g W H L) => window_any b g W H L r w h hr)
  change Hid (∀ w, _ → Calls _ _ _ _ fun e w' => e = .returned (letIn r W H).val ∧ _) at HWIN
  rw [hlet] at HWIN
  have HPART := run.hid (fun w h => part_any b g W H L X0 Y0 RW RH w h hG hx hy)
  have HBL := run.hid (fun w => blank_any s w)
  have HGM := run.hid (partT_good (X := X0) (Y := Y0) (RW := RW) hG RH hy)
  generalize partT W X0 Y0 RW RH L = PT at *
  obtain ⟨DD, hDD⟩ : ∃ d, min (max by0 (-(H : Int))) H = d := ⟨_, rfl⟩
  rw [hDD]
  have hDb : -(H : Int) ≤ DD ∧ DD ≤ (H : Int) := by omega
  have HDD := run.hid hDD
  clear hDD
  obtain ⟨bx, hbx⟩ : ∃ bx, bx = blankT s := ⟨_, rfl⟩
  rw [← hbx] at HBL ⊢
  clear hbx hlet hG
  obtain ⟨sf, sb, sa⟩ := s
  obtain ⟨r1, r2, r3, r4⟩ := r
  change Hid (∀ w, _ → Calls _ _ #[_, .agg #[.int .i64 r1, .int .i64 r2, .int .i64 r3, .int .i64 r4]] _ fun e w' => e = .returned (.agg #[.int .i64 (X0 : Nat), .int .i64 (Y0 : Nat), .int .i64 (RW : Nat), .int .i64 (RH : Nat)]) ∧ _) at HWIN
  change Hid (∀ w, Calls _ _ #[.agg #[.int .i32 sf, .int .i32 sb, .int .u8 sa]] _ _) at HBL
  show Calls _ _ #[_, .agg #[.int .i64 r1, .int .i64 r2, .int .i64 r3, .int .i64 r4], _, .agg #[.int .i32 sf, .int .i32 sb, .int .u8 sa]] _ _
  have HB0 : Hid (Bf w b g W H w.heap.size #[.int .i64 r1, .int .i64 r2, .int .i64 r3, .int .i64 r4] #[.int .i32 sf, .int .i32 sb, .int .u8 sa] L ((w.alloc (.cells #[.int .i64 r1, .int .i64 r2, .int .i64 r3, .int .i64 r4] 34)).alloc (.cells #[.int .i32 sf, .int .i32 sb, .int .u8 sa] 32))) :=
    ⟨(h.alloc _).alloc _, heap_alloc2_old w _ _, heap_alloc2_new w _ _, run.grown_trans (World.grownBy_alloc w _ (some g)) (World.grownBy_alloc _ _ (some g)) (.inl rfl), by omega, by omega, Nat.le_refl _, hblt⟩
  have hne : w.heap.size ≠ g := by omega
  have hne2 : w.heap.size + 1 ≠ g := by omega
  clear h hr
  obtain ⟨⟨q0, q1, q2, q3⟩, -⟩ := blk4 HB0.out.kr
  have HC := run.hid (HWIN.out _ HB0.out.buf)
  go_enter Tryz.func20, Tryz.ntmps20
  go_wp2_with fail
  refine HC.out.mono ?_
  rintro e w3 ⟨rfl, hb⟩
  clear q0 q1 q2 q3
  have HB3 := run.hid (HB0.out.below hb)
  obtain ⟨⟨q0, q1, q2, q3⟩, f0, f1, f2, f3⟩ := blk4 HB3.out.kr
  have HB4 := run.hid (HB3.out.rect (a2 := .int .i64 (X0 : Nat)) (b2 := .int .i64 (Y0 : Nat)) (c2 := .int .i64 (RW : Nat)) (d2 := .int .i64 (RH : Nat)))
  clear hb HB0 HC HWIN HB3
  go_upto_region 3 with fail
  clear q0 q1 q2 q3 f0 f1 f2 f3
  generalize ((((w3.setCell ⟨w.heap.size, 0, none⟩ (.int .i64 (X0 : Nat))).setCell ⟨w.heap.size, 1, none⟩ (.int .i64 (Y0 : Nat))).setCell ⟨w.heap.size, 2, none⟩ (.int .i64 (RW : Nat))).setCell ⟨w.heap.size, 3, none⟩ (.int .i64 (RH : Nat))) = w4 at *
  obtain ⟨⟨q0, q1, q2, q3⟩, -⟩ := blk4 HB4.out.kr
  have HP := run.hid (HPART.out w4 HB4.out.buf)
  clear HPART
  go_wp2_with fail
  refine HP.out.mono ?_
  rintro e w5 ⟨rfl, hb5, hg5⟩
  clear q0 q1 q2 q3
  have HB5 := run.hid (HB4.out.step hb5 hg5)
  clear hb5 hg5 HB4 HP
  obtain ⟨⟨q0, q1, q2, q3⟩, -⟩ := blk4 HB5.out.kr
  have hs5 : g < w5.heap.size := HB5.out.buf.lt.2
  have HSC := run.hid (screen_any b g W H PT w5 HB5.out.buf)
  go_wp2_with fail
  refine HSC.out.mono ?_
  rintro e w6 ⟨v, he, ho6, hb6⟩
  change e = .returned (.agg #[.int .i64 W, .int .i64 H, v, .int .i64 0, .int .i64 0, .bool false]) at he
  subst he
  clear q0 q1 q2 q3 HSC
  obtain ⟨ga, gc, rfl⟩ := run.own_value ho6
  have HS6 := run.hid (show Sh w b g W H w.heap.size #[.int .i64 (X0 : Nat), .int .i64 (Y0 : Nat), .int .i64 (RW : Nat), .int .i64 (RH : Nat)] #[.int .i32 sf, .int .i32 sb, .int .u8 sa] w5.heap.size (.slice ga (W * H) gc) PT PT w6 from ⟨HB5.out.below hb6, ho6, hs5⟩)
  have HPL := run.hid HGM.out.1
  have hfld := field_scr (.int .i64 W) (.int .i64 H) (.int .i64 0) (.int .i64 0) (.bool false) ga (W * H) gc w6
  clear ho6 hb6 HB5
  obtain ⟨⟨q0, q1, q2, q3⟩, -⟩ := blk4 HS6.out.bf.kr
  go_upto_region 5 with fail
  clear q0 q1 q2 q3 hfld
  refine lx.region (fun D X => Sh w b g W H w.heap.size #[.int .i64 (X0 : Nat), .int .i64 (Y0 : Nat), .int .i64 (RW : Nat), .int .i64 (RH : Nat)] #[.int .i32 sf, .int .i32 sb, .int .u8 sa] w5.heap.size (.slice ga (W * H) gc) PT PT X) (by kernel_rfl) (by kernel_rfl) (by kernel_rfl) HS6.out.drew ?_
  refine lx.begin 107 rfl ?_
  refine lx.o_pure (.int .i64 by0) (fun _ _ h => by first | rfl | kernel_rfl) ?_
  refine lx.o_pure (.pointer (some ⟨b, 0, none⟩)) (fun _ _ h => by first | rfl | kernel_rfl) ?_
  refine lx.o_pure (.pointer (some ⟨b, 0, none⟩)) (fun _ _ h => by first | rfl | kernel_rfl) ?_
  refine lx.o_pure (.pointer (some ⟨b, 1, none⟩)) (fun _ _ h => by first | rfl | kernel_rfl) ?_
  refine lx.o_pure (.int .i64 (H : Nat)) (fun D X hC => lx.run_load rfl rfl Tryz.underlying3 rfl hC.bf.buf.h1) ?_
  refine lx.o_pure (.int .i64 (-(H : Int))) (fun D X hC => run_neg rfl rfl rfl (by omega)) ?_
  refine lx.o_pure (.int .i64 (max by0 (-(H : Int)))) (fun D X hC => run_max rfl rfl rfl rfl) ?_
  refine lx.o_pure (.pointer (some ⟨b, 0, none⟩)) (fun _ _ h => by first | rfl | kernel_rfl) ?_
  refine lx.o_pure (.pointer (some ⟨b, 0, none⟩)) (fun _ _ h => by first | rfl | kernel_rfl) ?_
  refine lx.o_pure (.pointer (some ⟨b, 1, none⟩)) (fun _ _ h => by first | rfl | kernel_rfl) ?_
  refine lx.o_pure (.int .i64 (H : Nat)) (fun D X hC => lx.run_load rfl rfl Tryz.underlying3 rfl hC.bf.buf.h1) ?_
  refine lx.o_pure (.int .i64 DD) (fun D X hC => run_min rfl rfl rfl HDD.out) ?_
  refine lx.o_pure (.int .i64 DD) (fun _ _ h => by first | rfl | kernel_rfl) ?_
  refine lx.o_end ?_
  simp only [lx.ov]
  rintro X d hd hC
  have HS7 := run.hid hC
  clear hC hd HS6 HDD
  go_simp
  obtain ⟨⟨q0, q1, q2, q3⟩, -⟩ := blk4 HS7.out.bf.kr
  go_wp2
  generalize X = w7 at *
  go_loopw [9] (fun vy wr => ∃ k, k ≤ RH ∧ vy = .int .i64 ((Y0 + k : Nat) : Int) ∧ Hid (Sh w b g W H w.heap.size #[.int .i64 (X0 : Nat), .int .i64 (Y0 : Nat), .int .i64 (RW : Nat), .int .i64 (RH : Nat)] #[.int .i32 sf, .int .i32 sb, .int .u8 sa] w5.heap.size (.slice ga (W * H) gc) PT (shiftT W X0 Y0 RW RH DD bx PT k PT) wr)) (fun vy _ => ((Y0 : Int) + RH - intOf vy).toNat)
  case atStart => exact ⟨0, Nat.zero_le _, rfl, HS7⟩
  case round =>
    obtain ⟨k, hk, rfl, HB⟩ := hrel
    clear q0 q1 q2 q3 HS7
    obtain ⟨⟨q0, q1, q2, q3⟩, -⟩ := blk4 HB.out.bf.kr
    by_cases hkl : k < RH
    · have HNEXT := run.hid (show shiftT W X0 Y0 RW RH DD bx PT (k + 1) PT = shiftRow W X0 Y0 RW RH DD bx PT (Y0 + k) (shiftT W X0 Y0 RW RH DD bx PT k PT) from rfl)
      have hy2 : Y0 + k < H := by omega
      have hRW := hp (by omega)
      obtain ⟨y, hyy⟩ : ∃ y, y = Y0 + k := ⟨_, rfl⟩
      rw [← hyy] at hy2 HNEXT ⊢
      generalize shiftT W X0 Y0 RW RH DD bx PT k PT = M0 at *
      have HYY := run.hid hyy
      have hyl : (y : Int) < (Y0 : Int) + (RH : Int) := by omega
      clear hyy
      have hqc := Int.natCast_mul y W
      have hq0 : y * W ≤ 4096 * 4096 := Nat.mul_le_mul (by omega) hWb
      have hrow := Nat.mul_le_mul_right W (show y + 1 ≤ H from hy2)
      rw [Nat.add_mul, Nat.one_mul, Nat.mul_comm H W] at hrow
      obtain ⟨q, hqq⟩ : ∃ q, y * W = q := ⟨_, rfl⟩
      have HQ := run.hid (show ((y : Nat) : Int) * ((W : Nat) : Int) = ((q : Nat) : Int) from by rw [← hqq]; exact hqc.symm)
      rw [hqq] at hq0 hrow
      have HQY := run.hid hqq
      clear hqq hqc
      obtain ⟨gg, hga, hgc⟩ : ∃ gg, ga = some ⟨gg, 0, none⟩ ∧ W * H ≤ gc := by
        rcases HB.out.old.2 with ⟨-, h0⟩ | ⟨gg, cap, cur, h1, -, -, h4, -⟩
        · omega
        · simp only [Value.slice.injEq] at h1
          obtain ⟨h1, -, rfl⟩ := h1
          exact ⟨gg, h1, h4⟩
      subst hga
      obtain ⟨o9, ho9⟩ : ∃ o, o = (q + X0) * 5 := ⟨_, rfl⟩
      obtain ⟨c9, hc9⟩ : ∃ o, o = W * H - (q + X0) := ⟨_, rfl⟩
      have HO9 := run.hid ho9
      have HC9 := run.hid hc9
      clear ho9 hc9
      go_upto_region 9 with fail
      clear q0 q1 q2 q3
      refine lx.region (fun D X => Sh w b g W H w.heap.size #[.int .i64 (X0 : Nat), .int .i64 (Y0 : Nat), .int .i64 (RW : Nat), .int .i64 (RH : Nat)] #[.int .i32 sf, .int .i32 sb, .int .u8 sa] w5.heap.size (.slice (some ⟨gg, 0, none⟩) (W * H) gc) PT M0 X) (by kernel_rfl) (by kernel_rfl) (by kernel_rfl) HB.out.drew ?_
      refine lx.begin 107 rfl ?_
      refine lx.o_pure (.pointer (some ⟨b, 0, none⟩)) (fun _ _ h => by first | rfl | kernel_rfl) ?_
      refine lx.o_pure (.pointer (some ⟨b, 0, none⟩)) (fun _ _ h => by first | rfl | kernel_rfl) ?_
      refine lx.o_pure (.pointer (some ⟨b, 2, none⟩)) (fun _ _ h => by first | rfl | kernel_rfl) ?_
      refine lx.o_pure (.slice (some ⟨g, 0, none⟩) (W * H : Nat) (W * H : Nat)) (fun D X hC => lx.run_load rfl rfl Tryz.underlying35 rfl hC.bf.buf.h2) ?_
      refine lx.o_pure (.int .i64 (y : Nat)) (fun _ _ h => by first | rfl | kernel_rfl) ?_
      refine lx.o_pure (.pointer (some ⟨b, 0, none⟩)) (fun _ _ h => by first | rfl | kernel_rfl) ?_
      refine lx.o_pure (.pointer (some ⟨b, 0, none⟩)) (fun _ _ h => by first | rfl | kernel_rfl) ?_
      refine lx.o_pure (.pointer (some ⟨b, 0, none⟩)) (fun _ _ h => by first | rfl | kernel_rfl) ?_
      refine lx.o_pure (.int .i64 (W : Nat)) (fun D X hC => lx.run_load rfl rfl Tryz.underlying3 rfl hC.bf.buf.h0) ?_
      refine lx.o_pure (.int .i64 (q : Nat)) (fun _ _ _ => lx.run_mul rfl rfl rfl HQ.out (by omega)) ?_
      refine lx.o_pure (.pointer (some ⟨w.heap.size, 0, none⟩)) (fun _ _ h => by first | rfl | kernel_rfl) ?_
      refine lx.o_pure (.int .i64 (X0 : Nat)) (fun D X hC => lx.run_load rfl rfl Tryz.underlying3 rfl (blk_cell hC.bf.kr 0)) ?_
      refine lx.o_pure (.int .i64 ((q + X0 : Nat) : Int)) (fun _ _ _ => lx.run_add rfl rfl rfl (by omega) (by push_cast; rfl)) ?_
      refine lx.o_pure (.slice (some ⟨g, o9, none⟩) c9 c9) (fun D X hC => run_from5 rfl rfl rfl (by omega) (by omega) rfl hinf hsz HC9.out HO9.out) ?_
      refine lx.o_pure (.pointer (some ⟨w.heap.size, 2, none⟩)) (fun _ _ h => by first | rfl | kernel_rfl) ?_
      refine lx.o_pure (.int .i64 (RW : Nat)) (fun D X hC => lx.run_load rfl rfl Tryz.underlying3 rfl (blk_cell hC.bf.kr 2)) ?_
      refine lx.o_pure (.slice (some ⟨g, o9, none⟩) RW c9) (fun D X hC => run_upto rfl rfl rfl (by have := HC9.out; omega) Tryz.underlying35 hinf hsz) ?_
      refine lx.o_pure (.slice (some ⟨g, o9, none⟩) RW c9) (fun _ _ h => by first | rfl | kernel_rfl) ?_
      refine lx.o_end ?_
      simp only [lx.ov]
      rintro X9 d hd hC
      have HB9 := run.hid hC
      clear hC hd HB
      go_simp
      obtain ⟨⟨q0, q1, q2, q3⟩, -⟩ := blk4 HB9.out.bf.kr
      by_cases h1 : (Y0 : Int) ≤ (y : Int) + DD
      · by_cases h2 : (y : Int) + DD < (Y0 : Int) + (RH : Int)
        · skip
          have HR := run.hid (show shiftRow W X0 Y0 RW RH DD bx PT y M0 = copyRow W y ((y : Int) + DD).toNat X0 PT RW M0 from if_pos ⟨h1, h2⟩)
          obtain ⟨f, hf⟩ : ∃ f, f = ((y : Int) + DD).toNat := ⟨_, rfl⟩
          have hfi : (f : Int) = (y : Int) + DD := by omega
          rw [← hf] at HR
          have hfH : f < H := by omega
          have hqfc := Int.natCast_mul f W
          have hqf0 : f * W ≤ 4096 * 4096 := Nat.mul_le_mul (by omega) hWb
          have hrowf := Nat.mul_le_mul_right W (show f + 1 ≤ H from hfH)
          rw [Nat.add_mul, Nat.one_mul, Nat.mul_comm H W] at hrowf
          obtain ⟨qf, hqqf⟩ : ∃ q, f * W = q := ⟨_, rfl⟩
          have HQF := run.hid (show ((y : Int) + DD) * ((W : Nat) : Int) = ((qf : Nat) : Int) from by rw [← hfi, ← hqqf]; exact hqfc.symm)
          rw [hqqf] at hqf0 hrowf
          have HQQF := run.hid hqqf
          obtain ⟨o12, ho12⟩ : ∃ o, o = (qf + X0) * 5 := ⟨_, rfl⟩
          obtain ⟨l12, hl12⟩ : ∃ o, o = W * H - (qf + X0) := ⟨_, rfl⟩
          obtain ⟨c12, hc12⟩ : ∃ o, o = gc - (qf + X0) := ⟨_, rfl⟩
          have HO12 := run.hid ho12
          have HL12 := run.hid hl12
          have HC12 := run.hid hc12
          clear hqfc hqqf hf hfi ho12 hl12 hc12
          go_upto_region 12 with fail
          clear q0 q1 q2 q3
          refine lx.region (fun D X => ∃ L2, Sh w b g W H w.heap.size #[.int .i64 (X0 : Nat), .int .i64 (Y0 : Nat), .int .i64 (RW : Nat), .int .i64 (RH : Nat)] #[.int .i32 sf, .int .i32 sb, .int .u8 sa] w5.heap.size (.slice (some ⟨gg, 0, none⟩) (W * H) gc) PT L2 X ∧ (D 15 = false → L2 = M0) ∧ (D 15 = true → L2 = copyRow W y f X0 PT RW M0)) (by kernel_rfl) (by kernel_rfl) (by kernel_rfl) ⟨M0, HB9.out.drew, fun _ => rfl, fun h => (by cases h)⟩ ?_
          refine lx.begin 107 rfl ?_
          refine lx.o_pure (.slice (some ⟨g, o9, none⟩) RW c9) (fun _ _ h => by first | rfl | kernel_rfl) ?_
          refine lx.o_pure (.slice (some ⟨gg, 0, none⟩) (W * H) gc) (fun _ _ h => by first | rfl | kernel_rfl) ?_
          refine lx.o_pure (.int .i64 ((y : Int) + DD)) (fun _ _ h => by first | rfl | kernel_rfl) ?_
          refine lx.o_pure (.pointer (some ⟨b, 0, none⟩)) (fun _ _ h => by first | rfl | kernel_rfl) ?_
          refine lx.o_pure (.pointer (some ⟨b, 0, none⟩)) (fun _ _ h => by first | rfl | kernel_rfl) ?_
          refine lx.o_pure (.pointer (some ⟨b, 0, none⟩)) (fun _ _ h => by first | rfl | kernel_rfl) ?_
          refine lx.o_pure (.int .i64 (W : Nat)) (fun D X hC => lx.run_load rfl rfl Tryz.underlying3 rfl hC.choose_spec.1.bf.buf.h0) ?_
          refine lx.o_pure (.int .i64 (qf : Nat)) (fun _ _ _ => lx.run_mul rfl rfl rfl HQF.out (by omega)) ?_
          refine lx.o_pure (.pointer (some ⟨w.heap.size, 0, none⟩)) (fun _ _ h => by first | rfl | kernel_rfl) ?_
          refine lx.o_pure (.int .i64 (X0 : Nat)) (fun D X hC => lx.run_load rfl rfl Tryz.underlying3 rfl (blk_cell hC.choose_spec.1.bf.kr 0)) ?_
          refine lx.o_pure (.int .i64 ((qf + X0 : Nat) : Int)) (fun _ _ _ => lx.run_add rfl rfl rfl (by omega) (by push_cast; rfl)) ?_
          refine lx.o_pure (.slice (some ⟨gg, o12, none⟩) l12 c12) (fun D X hC => run_from12 rfl rfl rfl (by omega) (by omega) hinf hsz HL12.out HC12.out HO12.out) ?_
          refine lx.o_pure (.pointer (some ⟨w.heap.size, 2, none⟩)) (fun _ _ h => by first | rfl | kernel_rfl) ?_
          refine lx.o_pure (.int .i64 (RW : Nat)) (fun D X hC => lx.run_load rfl rfl Tryz.underlying3 rfl (blk_cell hC.choose_spec.1.bf.kr 2)) ?_
          refine lx.o_pure (.slice (some ⟨gg, o12, none⟩) RW c12) (fun D X hC => run_upto rfl rfl rfl (by have := HC12.out; omega) Tryz.underlying35 hinf hsz) ?_
          refine lx.o_eff (.int .i64 (RW : Nat)) (fun D X h0 hdep hC => ?_) ?_
          · obtain ⟨L2, hS, h1, h2⟩ := hC
            obtain rfl := h1 h0
            obtain ⟨w', hr, hS2⟩ := hS.copy (y := y) (f := f) (X := X0) (RW := RW) (by rw [HQY.out]; omega) (by rw [HQQF.out, HPL.out]; omega) HPL.out c9 c12 3
            rw [HQY.out, HQQF.out, ← HO9.out, ← HO12.out] at hr
            refine ⟨w', ?_, _, hS2, (fun h => by cases h), fun _ => rfl⟩
            unfold execOp
            simp only [resolve, invoke, builtin, Sem.run_bind, Sem.run_pure, Result.andThen_ok, List.map_toArray, List.map_cons, List.map_nil]
            rw [show lx.look _ _ (Operand.tmp 80) = Value.slice (some ⟨g, o9, none⟩) RW c9 from rfl, show lx.look _ _ (Operand.tmp 94) = Value.slice (some ⟨gg, o12, none⟩) RW c12 from rfl, hr]
            rfl
          refine lx.o_end ?_
          simp only [lx.ov]
          rintro X d hd ⟨L2, hS, -, h2⟩
          obtain rfl := h2 (hd 15 (by decide))
          have HF := run.hid hS
          clear hS h2 hd HB9
          go_simp
          go_wp2
          go_roundw
          case rel => exact ⟨k + 1, by omega, by have := HYY.out; simp only [Value.int.injEq, true_and]; push_cast; omega, by show Sh _ _ _ _ _ _ _ _ _ _ _ _ _; rw [HNEXT.out, HR.out]; exact HF.out⟩
          case measure => have := HYY.out; simp [intOf]; omega
        · skip
          have HR := run.hid (show shiftRow W X0 Y0 RW RH DD bx PT y M0 = fillRow W y X0 bx RW M0 from if_neg (fun h => h2 h.2))
          go_wp2
          generalize X9 = wy at *
          go_loopw [98] (fun vx wr => ∃ j : Nat, j ≤ RW ∧ vx = .int .i64 (j : Nat) ∧ Hid (Sh w b g W H w.heap.size #[.int .i64 (X0 : Nat), .int .i64 (Y0 : Nat), .int .i64 (RW : Nat), .int .i64 (RH : Nat)] #[.int .i32 sf, .int .i32 sb, .int .u8 sa] w5.heap.size (.slice (some ⟨gg, 0, none⟩) (W * H) gc) PT (fillRow W y X0 bx j M0) wr)) (fun vx _ => ((RW : Int) - intOf vx).toNat)
          case atStart => exact ⟨0, Nat.zero_le _, rfl, HB9⟩
          case round =>
            obtain ⟨j, hj, rfl, HB⟩ := hrel
            clear q0 q1 q2 q3 HB9
            obtain ⟨⟨q0, q1, q2, q3⟩, -⟩ := blk4 HB.out.bf.kr
            by_cases hjl : j < RW
            · have HNX := run.hid (show fillRow W y X0 bx (j + 1) M0 = (fillRow W y X0 bx j M0).set (q + (X0 + j)) bx from by rw [← HQY.out]; rfl)
              have HI := run.hid (show q + (X0 + j) < W * H by omega)
              generalize fillRow W y X0 bx j M0 = M at *
              go_upto_region 16 with fail
              clear q0 q1 q2 q3
              refine lx.straight (fun D X => ∃ L2, Sh w b g W H w.heap.size #[.int .i64 (X0 : Nat), .int .i64 (Y0 : Nat), .int .i64 (RW : Nat), .int .i64 (RH : Nat)] #[.int .i32 sf, .int .i32 sb, .int .u8 sa] w5.heap.size (.slice (some ⟨gg, 0, none⟩) (W * H) gc) PT L2 X ∧ (D 5 = false → L2 = M) ∧ (D 5 = true → L2 = M.set (q + (X0 + j)) bx)) (by kernel_rfl) ⟨M, HB.out, fun _ => rfl, fun h => (by cases h)⟩ ?_
              refine lx.begin 107 rfl ?_
              refine lx.o_pure (.slice (some ⟨g, o9, none⟩) RW c9) (fun _ _ h => by first | rfl | kernel_rfl) ?_
              refine lx.o_pure (.int .i64 (j : Nat)) (fun _ _ h => by first | rfl | kernel_rfl) ?_
              refine lx.o_pure (.agg #[.int .i32 sf, .int .i32 sb, .int .u8 sa]) (fun D X hC => run_loadrow rfl rfl hC.choose_spec.1.bf.ks Tryz.underlying32 rfl (by kernel_rfl)) ?_
              refine lx.o_call bx.val 31 #[.agg #[.int .i32 sf, .int .i32 sb, .int .u8 sa]] (fun _ _ _ => lx.run_fn rfl rfl rfl (enters_of Tryz.func31 (by kernel_rfl) rfl)) (fun D X hC => (HBL.out X).mono fun e w2 ⟨he, hw⟩ => ⟨he, by obtain ⟨L2, h1, h2⟩ := hC; exact ⟨L2, h1.below hw, h2⟩⟩) ?_
              refine lx.o_pure (.pointer (some ⟨g, (q + (X0 + j)) * 5, none⟩)) (fun D X hC => by rw [show (q + (X0 + j)) * 5 = o9 + j * 5 by have := HO9.out; omega]; exact run_atk rfl rfl rfl hjl hinf hsz) ?_
              refine lx.o_put (fun D X h0 hdep hC => ?_) ?_
              · obtain ⟨L2, hS, h1, h2⟩ := hC
                obtain rfl := h1 h0
                exact ⟨_, run_store5 hS.bf.buf HI.out rfl rfl rfl, _, hS.store HI.out bx, (fun h => by cases h), fun _ => rfl⟩
              refine lx.o_end ?_
              simp only [lx.ov]
              rintro X d hd ⟨L2, hS, -, h2⟩
              obtain rfl := h2 (hd 5 (by decide))
              have HF := run.hid hS
              clear hS h2 hd HB HI
              go_simp
              go_wp2
              go_roundw
              case rel => exact ⟨j + 1, by omega, by go_num, by show Sh _ _ _ _ _ _ _ _ _ _ _ _ _; rw [HNX.out]; exact HF.out⟩
              case measure => simp [intOf]; omega
            · obtain rfl : j = RW := by omega
              go_wp2
              go_roundw
              case rel => exact ⟨k + 1, by omega, by have := HYY.out; simp only [Value.int.injEq, true_and]; push_cast; omega, by show Sh _ _ _ _ _ _ _ _ _ _ _ _ _; rw [HNEXT.out, HR.out]; exact HB.out⟩
              case measure => have := HYY.out; simp [intOf]; omega
      · skip
        have HR := run.hid (show shiftRow W X0 Y0 RW RH DD bx PT y M0 = fillRow W y X0 bx RW M0 from if_neg (fun h => h1 h.1))
        go_wp2
        generalize X9 = wy at *
        go_loopw [98] (fun vx wr => ∃ j : Nat, j ≤ RW ∧ vx = .int .i64 (j : Nat) ∧ Hid (Sh w b g W H w.heap.size #[.int .i64 (X0 : Nat), .int .i64 (Y0 : Nat), .int .i64 (RW : Nat), .int .i64 (RH : Nat)] #[.int .i32 sf, .int .i32 sb, .int .u8 sa] w5.heap.size (.slice (some ⟨gg, 0, none⟩) (W * H) gc) PT (fillRow W y X0 bx j M0) wr)) (fun vx _ => ((RW : Int) - intOf vx).toNat)
        case atStart => exact ⟨0, Nat.zero_le _, rfl, HB9⟩
        case round =>
          obtain ⟨j, hj, rfl, HB⟩ := hrel
          clear q0 q1 q2 q3 HB9
          obtain ⟨⟨q0, q1, q2, q3⟩, -⟩ := blk4 HB.out.bf.kr
          by_cases hjl : j < RW
          · have HNX := run.hid (show fillRow W y X0 bx (j + 1) M0 = (fillRow W y X0 bx j M0).set (q + (X0 + j)) bx from by rw [← HQY.out]; rfl)
            have HI := run.hid (show q + (X0 + j) < W * H by omega)
            generalize fillRow W y X0 bx j M0 = M at *
            go_upto_region 16 with fail
            clear q0 q1 q2 q3
            refine lx.straight (fun D X => ∃ L2, Sh w b g W H w.heap.size #[.int .i64 (X0 : Nat), .int .i64 (Y0 : Nat), .int .i64 (RW : Nat), .int .i64 (RH : Nat)] #[.int .i32 sf, .int .i32 sb, .int .u8 sa] w5.heap.size (.slice (some ⟨gg, 0, none⟩) (W * H) gc) PT L2 X ∧ (D 5 = false → L2 = M) ∧ (D 5 = true → L2 = M.set (q + (X0 + j)) bx)) (by kernel_rfl) ⟨M, HB.out, fun _ => rfl, fun h => (by cases h)⟩ ?_
            refine lx.begin 107 rfl ?_
            refine lx.o_pure (.slice (some ⟨g, o9, none⟩) RW c9) (fun _ _ h => by first | rfl | kernel_rfl) ?_
            refine lx.o_pure (.int .i64 (j : Nat)) (fun _ _ h => by first | rfl | kernel_rfl) ?_
            refine lx.o_pure (.agg #[.int .i32 sf, .int .i32 sb, .int .u8 sa]) (fun D X hC => run_loadrow rfl rfl hC.choose_spec.1.bf.ks Tryz.underlying32 rfl (by kernel_rfl)) ?_
            refine lx.o_call bx.val 31 #[.agg #[.int .i32 sf, .int .i32 sb, .int .u8 sa]] (fun _ _ _ => lx.run_fn rfl rfl rfl (enters_of Tryz.func31 (by kernel_rfl) rfl)) (fun D X hC => (HBL.out X).mono fun e w2 ⟨he, hw⟩ => ⟨he, by obtain ⟨L2, h1, h2⟩ := hC; exact ⟨L2, h1.below hw, h2⟩⟩) ?_
            refine lx.o_pure (.pointer (some ⟨g, (q + (X0 + j)) * 5, none⟩)) (fun D X hC => by rw [show (q + (X0 + j)) * 5 = o9 + j * 5 by have := HO9.out; omega]; exact run_atk rfl rfl rfl hjl hinf hsz) ?_
            refine lx.o_put (fun D X h0 hdep hC => ?_) ?_
            · obtain ⟨L2, hS, h1, h2⟩ := hC
              obtain rfl := h1 h0
              exact ⟨_, run_store5 hS.bf.buf HI.out rfl rfl rfl, _, hS.store HI.out bx, (fun h => by cases h), fun _ => rfl⟩
            refine lx.o_end ?_
            simp only [lx.ov]
            rintro X d hd ⟨L2, hS, -, h2⟩
            obtain rfl := h2 (hd 5 (by decide))
            have HF := run.hid hS
            clear hS h2 hd HB HI
            go_simp
            go_wp2
            go_roundw
            case rel => exact ⟨j + 1, by omega, by go_num, by show Sh _ _ _ _ _ _ _ _ _ _ _ _ _; rw [HNX.out]; exact HF.out⟩
            case measure => simp [intOf]; omega
          · obtain rfl : j = RW := by omega
            go_wp2
            go_roundw
            case rel => exact ⟨k + 1, by omega, by have := HYY.out; simp only [Value.int.injEq, true_and]; push_cast; omega, by show Sh _ _ _ _ _ _ _ _ _ _ _ _ _; rw [HNEXT.out, HR.out]; exact HB.out⟩
            case measure => have := HYY.out; simp [intOf]; omega
    · obtain rfl : k = RH := by omega
      have HF := HB
      clear HB
      go_wp2
      first | go_end0 | (refine bodyPost_ret (results_none rfl _ _ _) rfl ?_)
      exact ⟨rfl, HF.out.bf.buf, HF.out.bf.grown⟩
end Go.Proofs.YtdgcfmfjgidbjaaGreat.cel
namespace Go.Proofs.YtdgcfmfjgidbjaaGreat.cel
open Go Go.RowKit Go.Proofs
set_option linter.unusedVariables false

def pasteF (W : Nat) (r : RT) (y x : Int) (R : List CV) : Nat → Nat → List CV → List CV
  | 0, _, G => G
  | f + 1, i, G => if i < R.length then pasteF W r y x R f (i + max (unitT (R.drop i)) 1) (layT W G (x + i) y (R.getD i z0) (hasT r (x + i) y) (hasT r (x + i + 1) y)) else G
/-- a row of cells, written -/
def pasteT (W : Nat) (r : RT) (y x : Int) (R G : List CV) : List CV := pasteF W r y x R R.length 0 G

theorem Reads5.grown {w w' : World} {a : Option Addr} {cap g : Nat} {L : List CV} (h : Reads5 w (.slice a L.length cap) L) (hg : w.grownBy w' (some g)) (hne : ∀ b off, a = some ⟨b, off, none⟩ → b ≠ g) : Reads5 w' (.slice a L.length cap) L := by
  obtain ⟨a', cap', e, hc⟩ := h
  simp only [Value.slice.injEq, true_and] at e
  obtain ⟨rfl, rfl⟩ := e
  refine ⟨a, cap, rfl, fun i hi => ?_⟩
  obtain ⟨b, off, rfl, hlt, h0, h1, h2, h3, h4⟩ := hc i hi
  have hb := hg.block b hlt (by have := hne b off rfl; simpa using this)
  exact ⟨b, off, rfl, Nat.lt_of_lt_of_le hlt hg.size, (World.cell?_of_block (a := ⟨b, off + i * 5, none⟩) hb).trans h0, (World.cell?_of_block (a := ⟨b, off + i * 5 + 1, none⟩) hb).trans h1, (World.cell?_of_block (a := ⟨b, off + i * 5 + 2, none⟩) hb).trans h2, (World.cell?_of_block (a := ⟨b, off + i * 5 + 3, none⟩) hb).trans h3, (World.cell?_of_block (a := ⟨b, off + i * 5 + 4, none⟩) hb).trans h4⟩

/-- where Paste stands -/
structure Pst (w0 : World) (b g W H : Nat) (n m : Nat) (x y : Int) (a : Option Addr) (cap : Nat) (r : Array Value) (R : List CV) (G : List CV) (w : World) : Prop where
  buf : Buf w b g W H G
  good : Good W H G
  k0 : w.heap[n]? = some (.cells #[.pointer (some ⟨b, 0, none⟩)] 42 (0, 0))
  k1 : w.heap[n + 1]? = some (.cells #[.int .i64 x] 3 (0, 0))
  k2 : w.heap[n + 2]? = some (.cells #[.int .i64 y] 3 (0, 0))
  k3 : w.heap[n + 3]? = some (.cells #[.slice a R.length cap] 35 (0, 0))
  k4 : w.heap[m]? = some (.cells r 34 (0, 0))
  row : Reads5 w (.slice a R.length cap) R
  far : ∀ b off, a = some ⟨b, off, none⟩ → b ≠ g
  grown : w0.grownBy w (some g)
  glt : g < w0.heap.size
  nle : w0.heap.size ≤ n
  mle : w0.heap.size ≤ m
theorem Pst.below {w0 w w' : World} {b g W H n m : Nat} {x y : Int} {a : Option Addr} {cap : Nat} {r : Array Value} {R G : List CV} (h : Pst w0 b g W H n m x y a cap r R G w) (hb : Below w.heap.size w w') : Pst w0 b g W H n m x y a cap r R G w' :=
  ⟨h.buf.below hb, h.good, (hb.block _ (Array.getElem?_eq_some_iff.1 h.k0).1).trans h.k0, (hb.block _ (Array.getElem?_eq_some_iff.1 h.k1).1).trans h.k1, (hb.block _ (Array.getElem?_eq_some_iff.1 h.k2).1).trans h.k2, (hb.block _ (Array.getElem?_eq_some_iff.1 h.k3).1).trans h.k3, (hb.block _ (Array.getElem?_eq_some_iff.1 h.k4).1).trans h.k4, h.row.below hb, h.far, run.grown_trans h.grown (grown_below hb g) (.inl rfl), h.glt, h.nle, h.mle⟩
theorem Pst.step {w0 w w' : World} {b g W H n m : Nat} {x y : Int} {a : Option Addr} {cap : Nat} {r : Array Value} {R G G' : List CV} (h : Pst w0 b g W H n m x y a cap r R G w) (hb : Buf w' b g W H G') (hG : Good W H G') (hg : w.grownBy w' (some g)) : Pst w0 b g W H n m x y a cap r R G' w' := by
  have h1 := h.glt
  have h2 := h.nle
  have h3 := h.mle
  exact ⟨hb, hG, (hg.block _ (Array.getElem?_eq_some_iff.1 h.k0).1 (by simp; omega)).trans h.k0, (hg.block _ (Array.getElem?_eq_some_iff.1 h.k1).1 (by simp; omega)).trans h.k1, (hg.block _ (Array.getElem?_eq_some_iff.1 h.k2).1 (by simp; omega)).trans h.k2, (hg.block _ (Array.getElem?_eq_some_iff.1 h.k3).1 (by simp; omega)).trans h.k3, (hg.block _ (Array.getElem?_eq_some_iff.1 h.k4).1 (by simp; omega)).trans h.k4, h.row.grown hg h.far, h.far, run.grown_trans h.grown hg (.inl rfl), h.glt, h.nle, h.mle⟩

theorem unit_wide {R : List CV} {i : Nat} (hi : i < R.length) (hu : 0 < unitT (R.drop i)) : (R.getD i z0).wide = 1 ∨ (R.getD i z0).wide = 2 := by
  have hd : R.drop i = R[i] :: R.drop (i + 1) := List.drop_eq_getElem_cons hi
  have e : R.getD i z0 = R[i] := by simp [List.getD_eq_getElem?_getD, hi]
  rw [hd] at hu
  rw [e]
  have h1 : 0 < unit1 R[i] := by
    change 0 < (if unit1 R[i] = 2 ∧ (R.drop (i + 1)).head? ≠ some (restT R[i].sty) then 0 else unit1 R[i]) at hu
    split at hu
    · omega
    · exact hu
  unfold unit1 at h1
  split at h1
  · rename_i h
    obtain ⟨-, h2, h3, -⟩ := h
    have := wdT_le R[i].text
    omega
  · omega

set_option maxRecDepth 100000 in
set_option maxHeartbeats 8000000 in
theorem pasteStep_any (w0 : World) (b g W H n m : Nat) (x y : Int) (a : Option Addr) (cap : Nat) (lt : RT) (R G : List CV) (i k : Nat) (w : World) (h : Pst w0 b g W H n m x y a cap #[.int .i64 lt.x, .int .i64 lt.y, .int .i64 lt.w, .int .i64 lt.h] R G w) (hi : i < R.length) (hc : (R.getD i z0).wide = 1 ∨ (R.getD i z0).wide = 2)
    (hN : R.length ≤ 140737488355328) (hx : -1099511627776 ≤ x ∧ x ≤ 1099511627776) (hlw : lt.wf) (hin : ∀ x y, hasT lt x y = true → 0 ≤ x ∧ x < W ∧ 0 ≤ y ∧ y < H) :
    Calls Tryz.prog 48 #[.int .i64 i, .int .i64 k, .pointer (some ⟨n, 0, none⟩), .pointer (some ⟨n + 1, 0, none⟩), .pointer (some ⟨n + 2, 0, none⟩), .pointer (some ⟨n + 3, 0, none⟩), .pointer (some ⟨m, 0, none⟩)] w fun e w' => e = .returned (.tuple #[]) ∧ Pst w0 b g W H n m x y a cap #[.int .i64 lt.x, .int .i64 lt.y, .int .i64 lt.w, .int .i64 lt.h] R (layT W G (x + (i : Nat)) y (R.getD i z0) (hasT lt (x + (i : Nat)) y) (hasT lt (x + (i : Nat) + 1) y)) w' := by
  obtain ⟨it, hinf, -, hsz, -⟩ := info_parts info_cell
  have hxi : -4611686018427387904 ≤ x + (i : Int) ∧ x + (i : Int) ≤ 4611686018427387904 := by omega
  have HLAY := run.hid (fun X hB => lay_any b g W H G (x + (i : Nat)) y (R.getD i z0) lt X hB h.good hc hlw hxi hin)
  have HG2 := run.hid (lay_good (y := y) (x := x + (i : Nat)) h.good hc (hin _ _) (hin _ _))
  obtain ⟨rb, ro, ha, hrb, -⟩ := reads_cell h.row hi
  subst ha
  have HCE := run.hid (fun X G2 (h2 : Pst w0 b g W H n m x y (some ⟨rb, ro, none⟩) cap #[.int .i64 lt.x, .int .i64 lt.y, .int .i64 lt.w, .int .i64 lt.h] R G2 X) => show Cell5 X rb (ro + i * 5) (R.getD i z0) from by
    obtain ⟨b1, o1, e, -, hc⟩ := reads_cell h2.row hi
    simp only [Option.some.injEq, Addr.mk.injEq, and_true] at e
    obtain ⟨rfl, rfl⟩ := e
    exact hc)
  have HP := run.hid h
  generalize hLAY : layT W G (x + (i : Nat)) y (R.getD i z0) (hasT lt (x + (i : Nat)) y) (hasT lt (x + (i : Nat) + 1) y) = LAY at *
  generalize R.getD i z0 = c at *
  obtain ⟨l1, l2, l3, l4⟩ := lt
  change Hid (∀ X, _ → Calls _ _ #[_, _, _, _, .agg #[.int .i64 l1, .int .i64 l2, .int .i64 l3, .int .i64 l4]] _ _) at HLAY
  dsimp only at HP HCE ⊢
  have q0 := blk_cell h.k0 0
  clear h hLAY hc hin hlw
  go_enter Tryz.func48, Tryz.ntmps48
  go_upto_region 0 with fail
  refine lx.region (fun D X => ∃ G2, Pst w0 b g W H n m x y (some ⟨rb, ro, none⟩) cap #[.int .i64 l1, .int .i64 l2, .int .i64 l3, .int .i64 l4] R G2 X ∧ (D 10 = false → G2 = G) ∧ (D 10 = true → G2 = LAY)) (by kernel_rfl) (by kernel_rfl) (by kernel_rfl) ⟨G, HP.out.below (drewB (Below.refl _ _)), fun _ => rfl, fun h => (by cases h)⟩ ?_
  refine lx.begin 20 rfl ?_
  refine lx.o_pure (.pointer (some ⟨b, 0, none⟩)) (fun D X hC => lx.run_load rfl rfl Tryz.underlying42 rfl (blk_cell hC.choose_spec.1.k0 0)) ?_
  refine lx.o_pure (.int .i64 x) (fun D X hC => lx.run_load rfl rfl Tryz.underlying3 rfl (blk_cell hC.choose_spec.1.k1 0)) ?_
  refine lx.o_pure (.int .i64 (i : Nat)) (fun _ _ h => by first | rfl | kernel_rfl) ?_
  refine lx.o_pure (.int .i64 (x + (i : Nat))) (fun _ _ _ => lx.run_add rfl rfl rfl (by omega) rfl) ?_
  refine lx.o_pure (.int .i64 y) (fun D X hC => lx.run_load rfl rfl Tryz.underlying3 rfl (blk_cell hC.choose_spec.1.k2 0)) ?_
  refine lx.o_pure (.slice (some ⟨rb, ro, none⟩) R.length cap) (fun D X hC => lx.run_load rfl rfl Tryz.underlying35 rfl (blk_cell hC.choose_spec.1.k3 0)) ?_
  refine lx.o_pure (.int .i64 (i : Nat)) (fun _ _ h => by first | rfl | kernel_rfl) ?_
  refine lx.o_pure (.pointer (some ⟨rb, ro + i * 5, none⟩)) (fun D X hC => run_atk rfl rfl rfl hi hinf hsz) ?_
  refine lx.o_pure c.val (fun D X hC => run_load5 rfl rfl (HCE.out X _ hC.choose_spec.1)) ?_
  refine lx.o_pure (.agg #[.int .i64 l1, .int .i64 l2, .int .i64 l3, .int .i64 l4]) (fun D X hC => run_loadrow rfl rfl hC.choose_spec.1.k4 Tryz.underlying34 rfl (by kernel_rfl)) ?_
  refine lx.o_callE (.tuple #[]) 38 #[.pointer (some ⟨b, 0, none⟩), .int .i64 (x + (i : Nat)), .int .i64 y, c.val, .agg #[.int .i64 l1, .int .i64 l2, .int .i64 l3, .int .i64 l4]] (fun _ _ _ => lx.run_fn rfl rfl rfl (enters_of Tryz.func38 (by kernel_rfl) rfl)) (fun D X h0 hC => ?_) ?_
  · obtain ⟨G2, hS, h1, h2⟩ := hC
    obtain rfl := h1 h0
    exact (HLAY.out X hS.buf).mono fun e w2 ⟨he, hb2, hg2⟩ => ⟨he, _, hS.step hb2 HG2.out hg2, (fun h => by cases h), fun _ => rfl⟩
  refine lx.o_end ?_
  simp only [lx.ov]
  rintro X d hd ⟨G2, hS, -, h2⟩
  obtain rfl := h2 (hd 10 (by decide))
  have HF := run.hid hS
  clear hS h2 hd HP
  go_simp
  go_wp2
  first | go_end0 | (refine bodyPost_ret (results_none rfl _ _ _) rfl ?_)
  exact ⟨rfl, HF.out⟩

theorem alloc5 (w : World) (o0 o1 o2 o3 o4 : Obj) : (((((w.alloc o0).alloc o1).alloc o2).alloc o3).alloc o4).heap[w.heap.size]? = some o0 ∧ (((((w.alloc o0).alloc o1).alloc o2).alloc o3).alloc o4).heap[w.heap.size + 1]? = some o1 ∧ (((((w.alloc o0).alloc o1).alloc o2).alloc o3).alloc o4).heap[w.heap.size + 2]? = some o2 ∧ (((((w.alloc o0).alloc o1).alloc o2).alloc o3).alloc o4).heap[w.heap.size + 3]? = some o3 ∧ (((((w.alloc o0).alloc o1).alloc o2).alloc o3).alloc o4).heap[w.heap.size + 4]? = some o4 ∧ (((((w.alloc o0).alloc o1).alloc o2).alloc o3).alloc o4).heap.size = w.heap.size + 5 ∧ Below w.heap.size w (((((w.alloc o0).alloc o1).alloc o2).alloc o3).alloc o4) := by
  refine ⟨?_, ?_, ?_, ?_, ?_, ?_, ?_⟩
  · show ((((((w.heap.push o0).push o1).push o2).push o3).push o4))[_]? = _
    simp [Array.getElem?_push]
    repeat rw [if_neg (by omega)]
    try rfl
  · show ((((((w.heap.push o0).push o1).push o2).push o3).push o4))[_]? = _
    simp [Array.getElem_push]
  · show ((((((w.heap.push o0).push o1).push o2).push o3).push o4))[_]? = _
    simp [Array.getElem_push]
  · show ((((((w.heap.push o0).push o1).push o2).push o3).push o4))[_]? = _
    simp [Array.getElem_push]
  · show ((((((w.heap.push o0).push o1).push o2).push o3).push o4))[_]? = _
    simp [Array.getElem_push]
  · simp
  · have h := run.below_one w o0
    have h1 := h.alloc h.size o1
    have h2 := h1.alloc h1.size o2
    have h3 := h2.alloc h2.size o3
    exact h3.alloc h3.size o4

theorem pasteF_step {W : Nat} {r : RT} {y x : Int} {R G T : List CV} {i : Nat} (hi : i < R.length) (h : ∃ f, R.length ≤ i + f ∧ T = pasteF W r y x R f i G) :
    ∃ f, R.length ≤ i + max (unitT (R.drop i)) 1 + f ∧ T = pasteF W r y x R f (i + max (unitT (R.drop i)) 1) (layT W G (x + i) y (R.getD i z0) (hasT r (x + i) y) (hasT r (x + i + 1) y)) := by
  obtain ⟨f, h1, h2⟩ := h
  cases f with
  | zero => omega
  | succ f =>
    unfold pasteF at h2
    rw [if_pos hi] at h2
    exact ⟨f, by omega, h2⟩
theorem pasteF_end {W : Nat} {r : RT} {y x : Int} {R G T : List CV} (h : ∃ f, R.length ≤ R.length + f ∧ T = pasteF W r y x R f R.length G) : T = G := by
  obtain ⟨f, -, h⟩ := h
  cases f with
  | zero => exact h
  | succ f => unfold pasteF at h; rw [if_neg (by omega)] at h; exact h

set_option maxRecDepth 100000 in
set_option maxHeartbeats 8000000 in
theorem paste_any (b g W H : Nat) (L : List CV) (x y : Int) (a : Option Addr) (cap : Nat) (R : List CV) (r : RT) (w : World) (h : Buf w b g W H L) (hG : Good W H L) (hr : r.wf) (hR : Reads5 w (.slice a R.length cap) R) (hcap : R.length ≤ cap) (hN : R.length ≤ 140737488355328) (hL : ∀ c ∈ R, Fit c) (hfar : ∀ b off, a = some ⟨b, off, none⟩ → b ≠ g) :
    Calls Tryz.prog 17 #[.pointer (some ⟨b, 0, none⟩), .int .i64 x, .int .i64 y, .slice a R.length cap, r.val] w fun e w' => e = .returned (.int .i64 (if wholeT R = true then 0 else 180)) ∧ Buf w' b g W H (if wholeT R = true then pasteT W (letIn r W H) y (farX x) R L else L) ∧ Good W H (if wholeT R = true then pasteT W (letIn r W H) y (farX x) R L else L) ∧ w.grownBy w' (some g) := by
  obtain ⟨hblt, hglt⟩ := h.lt
  obtain ⟨hlw, hlin⟩ := let_in r W H h.wide h.high
  have HWIN := run.hid (fun w (h : Buf w b g W H L) => window_any b g W H L r w h hr)
  change Hid (∀ w, _ → Calls _ _ _ _ fun e w' => e = .returned (letIn r W H).val ∧ _) at HWIN
  have hfx : -1099511627776 ≤ farX x ∧ farX x ≤ 1099511627776 := by unfold farX; omega
  have hfe : min (max x (-1099511627776)) 1099511627776 = farX x := rfl
  have HWH := run.hid (fun w hR => whole_any a cap R w hR hcap hN hL)
  have HPT := run.hid (show ∃ f, R.length ≤ 0 + f ∧ pasteT W (letIn r W H) y (farX x) R L = pasteF W (letIn r W H) y (farX x) R f 0 L from ⟨R.length, by omega, rfl⟩)
  generalize pasteT W (letIn r W H) y (farX x) R L = FT at *
  generalize farX x = xx at *
  generalize letIn r W H = lt at *
  have HUN : Hid (∀ m wa, Pst w b g W H w.heap.size m xx y a cap #[.int .i64 lt.x, .int .i64 lt.y, .int .i64 lt.w, .int .i64 lt.h] R L wa → wholeT R = true → Calls Tryz.prog 47 #[.slice a R.length cap, .func (.func 48) #[] #[.pointer (some ⟨w.heap.size, 0, none⟩), .pointer (some ⟨w.heap.size + 1, 0, none⟩), .pointer (some ⟨w.heap.size + 2, 0, none⟩), .pointer (some ⟨w.heap.size + 3, 0, none⟩), .pointer (some ⟨m, 0, none⟩)]] wa fun e w' => e = .returned (.tuple #[]) ∧ Buf w' b g W H FT ∧ Good W H FT ∧ w.grownBy w' (some g)) := by
    intro m wa hP hw
    refine (units_paste a cap R _ _ _ _ _ wa (fun i X => ∃ G, Pst w b g W H w.heap.size m xx y a cap #[.int .i64 lt.x, .int .i64 lt.y, .int .i64 lt.w, .int .i64 lt.h] R G X ∧ wholeT (R.drop i) = true ∧ ∃ f, R.length ≤ i + f ∧ FT = pasteF W lt y xx R f i G) hcap hN hL
      ⟨L, hP, hw, HPT.out⟩ (fun i X h => h.choose_spec.1.row) (fun i X Y h hb => by obtain ⟨G, h1, h2⟩ := h; exact ⟨G, h1.below hb, h2⟩) (fun i X hi h => ?_)).mono fun e w' he => ?_
    · obtain ⟨G, h1, h2, h3⟩ := h
      rw [wholeT_step hi, Bool.and_eq_true, decide_eq_true_eq] at h2
      exact (pasteStep_any w b g W H w.heap.size m xx y a cap lt R G i _ X h1 hi (unit_wide hi h2.1) hN hfx hlw hlin).mono fun e Y he => ⟨he.1, _, he.2, h2.2, pasteF_step hi h3⟩
    · obtain ⟨he, G, h1, -, h3⟩ := he
      obtain rfl := pasteF_end h3
      exact ⟨he, h1.buf, h1.good, h1.grown⟩
  obtain ⟨r1, r2, r3, r4⟩ := r
  obtain ⟨l1, l2, l3, l4⟩ := lt
  dsimp only at HUN
  change Hid (∀ w, _ → Calls _ _ #[_, .agg #[.int .i64 r1, .int .i64 r2, .int .i64 r3, .int .i64 r4]] _ fun e w' => e = .returned (.agg #[.int .i64 l1, .int .i64 l2, .int .i64 l3, .int .i64 l4]) ∧ _) at HWIN
  show Calls _ _ #[_, _, _, _, .agg #[.int .i64 r1, .int .i64 r2, .int .i64 r3, .int .i64 r4]] _ _
  have hA := alloc5 w (.cells #[.pointer (some ⟨b, 0, none⟩)] 42) (.cells #[.int .i64 x] 3) (.cells #[.int .i64 y] 3) (.cells #[.slice a R.length cap] 35) (.cells #[.int .i64 r1, .int .i64 r2, .int .i64 r3, .int .i64 r4] 34)
  have HW0 := run.hid (HWH.out _ (hR.below hA.2.2.2.2.2.2))
  have HA := run.hid hA
  have HBG := run.hid (And.intro h (And.intro hG hR))
  have HFR := run.hid hfar
  have c3 := blk_cell hA.2.2.2.1 0
  have c0 := blk_cell hA.1 0
  change World.cell? _ _ = some (.slice a R.length cap) at c3
  change World.cell? _ _ = some (.pointer (some ⟨b, 0, none⟩)) at c0
  clear hA h hG hR hfar HWH hlin HPT hlw hL
  cases hw : wholeT R with
  | false =>
    rw [hw] at HW0
    clear hw HUN HWIN
    go_enter Tryz.func17, Tryz.ntmps17
    go_wp2_with fail
    refine HW0.out.mono ?_
    rintro e w6 ⟨rfl, hb⟩
    clear c0 c3 HW0
    have hB := HA.out.2.2.2.2.2.2.trans (hb.mono HA.out.2.2.2.2.2.2.size)
    clear hb
    go_wp2
    go_ret
    exact ⟨rfl, HBG.out.1.below hB, HBG.out.2.1, grown_below hB g⟩
  | true =>
    rw [hw] at HW0
    replace HUN := run.hid (fun m wa hP => HUN.out m wa hP hw)
    clear hw
    go_enter Tryz.func17, Tryz.ntmps17
    go_wp2_with fail
    refine HW0.out.mono ?_
    rintro e w6 ⟨rfl, hb⟩
    clear c0 c3 HW0
    obtain ⟨a0, a1, a2, a3, a4, asz, hB5⟩ := HA.out
    have b0 := (hb.block _ (Array.getElem?_eq_some_iff.1 a0).1).trans a0
    have b1 := (hb.block _ (Array.getElem?_eq_some_iff.1 a1).1).trans a1
    have b2 := (hb.block _ (Array.getElem?_eq_some_iff.1 a2).1).trans a2
    have b3 := (hb.block _ (Array.getElem?_eq_some_iff.1 a3).1).trans a3
    have b4 := (hb.block _ (Array.getElem?_eq_some_iff.1 a4).1).trans a4
    have hB6 := hB5.trans (hb.mono hB5.size)
    have HC := run.hid (HWIN.out w6 (HBG.out.1.below hB6))
    have c0 := blk_cell b0 0
    change World.cell? _ _ = some (.pointer (some ⟨b, 0, none⟩)) at c0
    obtain ⟨⟨q0, q1, q2, q3⟩, -⟩ := blk4 b4
    have KK := run.hid (And.intro b0 (And.intro b1 (And.intro b2 (And.intro b3 hB6))))
    clear a0 a1 a2 a3 a4 asz hB5 b0 b1 b2 b3 b4 hb HA HWIN hB6
    go_wp2_with fail
    refine HC.out.mono ?_
    rintro e w7 ⟨rfl, hb7⟩
    clear c0 q0 q1 q2 q3 HC
    obtain ⟨b0, b1, b2, b3, hB6⟩ := KK.out
    have hs6 : w.heap.size + 3 < w6.heap.size := (Array.getElem?_eq_some_iff.1 b3).1
    have hs7 := hb7.size
    have hBa : Below w6.heap.size w6 (w7.alloc (.cells #[.int .i64 l1, .int .i64 l2, .int .i64 l3, .int .i64 l4] 34)) := hb7.alloc hs7 _
    have e0 := (hBa.block _ (show w.heap.size < w6.heap.size by omega)).trans b0
    have e1 := (hBa.block _ (show w.heap.size + 1 < w6.heap.size by omega)).trans b1
    have e2 := (hBa.block _ (show w.heap.size + 2 < w6.heap.size by omega)).trans b2
    have e3 := (hBa.block _ (show w.heap.size + 3 < w6.heap.size by omega)).trans b3
    have e4 := heap_alloc_new w7 (.cells #[.int .i64 l1, .int .i64 l2, .int .i64 l3, .int .i64 l4] 34)
    have hB7 := hB6.trans (hBa.mono hB6.size)
    have hB8 : Below w.heap.size w ((w7.alloc (.cells #[.int .i64 l1, .int .i64 l2, .int .i64 l3, .int .i64 l4] 34)).setCell ⟨w.heap.size + 1, 0, none⟩ (.int .i64 xx)) := hB7.setCell (p := ⟨w.heap.size + 1, 0, none⟩) (by simp) _
    have HP : Hid (Pst w b g W H w.heap.size w7.heap.size xx y a cap #[.int .i64 l1, .int .i64 l2, .int .i64 l3, .int .i64 l4] R L ((w7.alloc (.cells #[.int .i64 l1, .int .i64 l2, .int .i64 l3, .int .i64 l4] 34)).setCell ⟨w.heap.size + 1, 0, none⟩ (.int .i64 xx))) :=
      ⟨HBG.out.1.below hB8, HBG.out.2.1, (blk_other _ (by simp)).trans e0, blk_set e1, (blk_other _ (by simp)).trans e2, (blk_other _ (by simp)).trans e3, (blk_other _ (by simp; omega)).trans e4, HBG.out.2.2.below hB8, HFR.out, grown_below hB8 g, hglt, Nat.le_refl _, by omega⟩
    have d1 := blk_cell e1 0
    change World.cell? _ _ = some (.int .i64 x) at d1
    have f1 := blk_free e1 0
    clear KK b0 b1 b2 b3 e0 e1 e2 e3 e4 hB6 hB7 hB8 hBa hb7
    go_upto_region 7 with fail
    clear d1 f1
    have HU := run.hid (HUN.out _ _ HP.out)
    have c3 := blk_cell HP.out.k3 0
    change World.cell? _ _ = some (.slice a R.length cap) at c3
    clear HUN HP
    generalize ((w7.alloc (.cells #[.int .i64 l1, .int .i64 l2, .int .i64 l3, .int .i64 l4] 34)).setCell ⟨w.heap.size + 1, 0, none⟩ (.int .i64 xx)) = w8 at *
    go_wp2_with fail
    refine HU.out.mono ?_
    rintro e w9 ⟨rfl, hbf, hgf, hg9⟩
    have HF := run.hid (And.intro hbf (And.intro hgf hg9))
    clear hbf hgf hg9 HU c3
    go_wp2
    go_ret
    exact ⟨rfl, HF.out⟩
end Go.Proofs.YtdgcfmfjgidbjaaGreat.cel
