/-
  The walk of part: the pairs that a rectangle's sides go through become blanks. (Printed by gen_celpart.py.)
-/
import Derived.Test.YtinnggiohalifaaCelF
import Derived.Test.YtinnggiohalifaaCelPut
namespace Go.Proofs.Ytinnggiohalifaa.lx
open Go Go.RowKit Go.Proofs
section
variable {P : Program} {Cal : FuncId → Array Value → World → (Ending → World → Prop) → Prop} {ops : Array Oper} {C : (Nat → Bool) → World → Prop} {Q : Act → Prop} {a : Act} {n : Nat}
/-- a call that turns the world, once, what it waits for being known to have come up -/
theorem o_callD {i d : Nat} {o : Oper} {rest : List Oper} {l : List (Nat × Value)} (v : Value) (f : FuncId) (args : Array Value) (hv : ∀ D w, C D w → (execOp (look a l) o).run P w = .ok (.enter f args) w)
    (hc : ∀ D w, D i = false → Dep o D → C D w → Cal f args w (fun e w'' => e = .returned v ∧ C (mark D i) w'')) (h : walkO P Cal ops C Q a n (i + 1) rest ((d, v) :: l))
    (hd : o.dst = some d := by rfl) (hdn : Nat.blt d n = true := by rfl) (hw : Region.wanted o (yl ops (look a l)) = true := by rfl) : walkO P Cal ops C Q a n i (o :: rest) l :=
  ⟨v, .inl ⟨hw, fun D w h0 hC => by rw [hv D w hC]; exact hc D w h0.1 h0.2 hC⟩, by rw [hd]; exact ⟨by simpa [Nat.blt_eq] using hdn, h⟩⟩
end
end Go.Proofs.Ytinnggiohalifaa.lx
namespace Go.Proofs.Ytinnggiohalifaa.cel
open Go Go.RowKit Go.Proofs
set_option linter.unusedVariables false

def partAt (W : Nat) (L : List CV) (y x : Nat) : List CV := if x < W ∧ wd L (y * W + x) = 0 then setT L (y * W + x) (blankT (L.getD (y * W + x) z0).sty) else L
def sideX (X RW j : Nat) : Nat := if j = 0 then X else X + RW
def sidesT (W X RW y : Nat) : Nat → List CV → List CV
  | 0, L => L
  | j + 1, L => partAt W (sidesT W X RW y j L) y (sideX X RW j)
def partT (W X Y RW : Nat) : Nat → List CV → List CV
  | 0, L => L
  | k + 1, L => sidesT W X RW (Y + k) 2 (partT W X Y RW k L)
theorem partAt_good {W H : Nat} {L : List CV} (h : Good W H L) {y x : Nat} (hy : y < H) : Good W H (partAt W L y x) := by
  unfold partAt
  split
  · rename_i hx
    have hi : y * W + x < W * H := by
      have := Nat.mul_le_mul_right W (show y + 1 ≤ H from hy)
      rw [Nat.add_mul, Nat.one_mul, Nat.mul_comm H W] at this
      omega
    exact (wd_setT h hi rfl).1
  · exact h
theorem sidesT_good {W H : Nat} {L : List CV} (h : Good W H L) {X RW y : Nat} (hy : y < H) : ∀ j, Good W H (sidesT W X RW y j L)
  | 0 => h
  | j + 1 => partAt_good (sidesT_good h hy j) hy
theorem partT_good {W H : Nat} {L : List CV} (h : Good W H L) {X Y RW : Nat} : ∀ k, Y + k ≤ H → Good W H (partT W X Y RW k L)
  | 0, _ => h
  | k + 1, hk => sidesT_good (partT_good h k (by omega)) (by omega) 2

/-- a buffer, and a box beside it -/
structure Bx (w0 : World) (b g W H : Nat) (n : Nat) (r : Array Value) (L : List CV) (w : World) : Prop where
  buf : Buf w b g W H L
  kr : w.heap[n]? = some (.cells r 58 (0, 0))
  grown : w0.grownBy w (some g)
  ne : n ≠ g
theorem Bx.below {w0 w w' : World} {b g W H n : Nat} {L : List CV} {r : Array Value} (h : Bx w0 b g W H n r L w) (hb : Below w.heap.size w w') : Bx w0 b g W H n r L w' :=
  ⟨h.buf.below hb, (hb.block _ (Array.getElem?_eq_some_iff.1 h.kr).1).trans h.kr, run.grown_trans h.grown (grown_below hb g) (.inl rfl), h.ne⟩
theorem Bx.step {w0 w w' : World} {b g W H n : Nat} {L L' : List CV} {r : Array Value} (h : Bx w0 b g W H n r L w) (hb : Buf w' b g W H L') (hg : w.grownBy w' (some g)) : Bx w0 b g W H n r L' w' :=
  ⟨hb, (hg.block _ (Array.getElem?_eq_some_iff.1 h.kr).1 (by simpa using h.ne)).trans h.kr, run.grown_trans h.grown hg (.inl rfl), h.ne⟩
theorem Bx.drew {w0 w : World} {b g W H n : Nat} {L : List CV} {r : Array Value} (h : Bx w0 b g W H n r L w) : Bx w0 b g W H n r L w.drew := h.below (drewB (Below.refl _ _))
theorem Buf.cell5 {w : World} {b g W H : Nat} {L : List CV} (h : Buf w b g W H L) {i : Nat} (hi : i < W * H) : Cell5 w g (i * 5) (L.getD i z0) := h.grid.at (by rw [h.len]; exact hi)
theorem Bx.wide {w0 w : World} {b g W H n : Nat} {L : List CV} {r : Array Value} (h : Bx w0 b g W H n r L w) {i : Nat} (hi : i < W * H) : w.cell? ⟨g, i * 5 + 1, none⟩ = some (.int .i8 (wd L i)) := (h.buf.cell5 hi).2.1
theorem Bx.set {w0 w : World} {b g W H n : Nat} {L : List CV} {r : Array Value} (h : Bx w0 b g W H n r L w) (hG : Good W H L) {i : Nat} (hi : i < W * H) (x : CV) :
    Calls Try.prog 82 #[.pointer (some ⟨b, 0, none⟩), .int .i64 i, x.val] w fun e w' => e = .returned (.tuple #[]) ∧ Bx w0 b g W H n r (setT L i x) w' :=
  (set_any b g W H L i x w h.buf hi (good_pre hG hi).1 (good_pre hG hi).2).mono fun e w' ⟨he, hb, hg⟩ => ⟨he, h.step hb hg⟩

section
variable {o : Oper} {ρ : Operand → Value} {w : World} {p q : Operand} {t t' : TypeId}
theorem run_lssn {x y : Int} (ho : o.op = .binOp .lss t p q t') (hx : ρ p = .int .i64 x) (hy : ρ q = .int .i64 y) : (execOp ρ o).run Try.prog w = .ok (.value (.bool (decide (x < y)))) w := by
  unfold execOp
  simp only [ho, hx, hy]
  simp [go_sem]
theorem run_lssn_yes {x y : Int} (ho : o.op = .binOp .lss t p q t') (hx : ρ p = .int .i64 x) (hy : ρ q = .int .i64 y) (h : x < y) : (execOp ρ o).run Try.prog w = .ok (.value (.bool true)) w := by rw [run_lssn ho hx hy, decide_eq_true h]
theorem run_lssn_no {x y : Int} (ho : o.op = .binOp .lss t p q t') (hx : ρ p = .int .i64 x) (hy : ρ q = .int .i64 y) (h : ¬ x < y) : (execOp ρ o).run Try.prog w = .ok (.value (.bool false)) w := by rw [run_lssn ho hx hy, decide_eq_false h]
theorem run_eq8 {x y : Int} (ho : o.op = .binOp .eql t p q t') (hx : ρ p = .int .i8 x) (hy : ρ q = .int .i8 y) : (execOp ρ o).run Try.prog w = .ok (.value (.bool (decide (x = y)))) w := by
  unfold execOp
  simp only [ho, hx, hy]
  simp [go_sem]
  by_cases e : x = y
  · subst e; simp
  · simp [e]
theorem run_eq8_t {x y : Int} (ho : o.op = .binOp .eql t p q t') (hx : ρ p = .int .i8 x) (hy : ρ q = .int .i8 y) (h : x = y) : (execOp ρ o).run Try.prog w = .ok (.value (.bool true)) w := by rw [run_eq8 ho hx hy, decide_eq_true h]
theorem run_eq8_f {x y : Int} (ho : o.op = .binOp .eql t p q t') (hx : ρ p = .int .i8 x) (hy : ρ q = .int .i8 y) (h : x ≠ y) : (execOp ρ o).run Try.prog w = .ok (.value (.bool false)) w := by rw [run_eq8 ho hx hy, decide_eq_false h]
end
theorem index2_0 (x y : Int) (w : World) : (Instr.index 125 (.agg #[.int .i64 x, .int .i64 y]) (.int .i64 0)).run Try.prog w = .ok (.int .i64 x) w := by kernel_rfl
theorem index2_1 (x y : Int) (w : World) : (Instr.index 125 (.agg #[.int .i64 x, .int .i64 y]) (.int .i64 1)).run Try.prog w = .ok (.int .i64 y) w := by kernel_rfl

theorem let_nat (r : RT) (W H : Nat) (hW : W ≤ 4096) (hH : H ≤ 4096) : ∃ X Y RW RH : Nat, letIn r W H = ⟨X, Y, RW, RH⟩ ∧ X + RW ≤ W ∧ Y + RH ≤ H := by
  unfold letIn meetT
  have hno : ∃ X Y RW RH : Nat, (RT.mk 0 0 0 0) = ⟨X, Y, RW, RH⟩ ∧ X + RW ≤ W ∧ Y + RH ≤ H := ⟨0, 0, 0, 0, rfl, by omega, by omega⟩
  split
  · unfold rectB
    split
    · exact hno
    · rename_i h1 h2
      rw [ends_box hW hH] at h2 ⊢
      generalize endsT r = e at *
      obtain ⟨a0, b0, a1, b1⟩ := e
      unfold cutB meetB at *
      simp only at *
      obtain ⟨x0, hx0⟩ : ∃ q, q = max (max a0 0) (-1048576) := ⟨_, rfl⟩
      obtain ⟨y0, hy0⟩ : ∃ q, q = max (max b0 0) (-1048576) := ⟨_, rfl⟩
      obtain ⟨x1, hx1⟩ : ∃ q, q = min (min a1 (if (W : Int) ≤ 0 then -8388608 else (W : Int))) 1048576 := ⟨_, rfl⟩
      obtain ⟨y1, hy1⟩ : ∃ q, q = min (min b1 (if (H : Int) ≤ 0 then -8388608 else (H : Int))) 1048576 := ⟨_, rfl⟩
      rw [← hx0, ← hx1, ← hy0, ← hy1] at h2 ⊢
      have k1 : 0 ≤ x0 ∧ x0 < x1 ∧ x1 ≤ W := by
        split at hx1 <;> omega
      have k2 : 0 ≤ y0 ∧ y0 < y1 ∧ y1 ≤ H := by
        split at hy1 <;> omega
      clear hx0 hx1 hy0 hy1 h1 h2 hno
      refine ⟨x0.toNat, y0.toNat, (x1 - x0).toNat, (y1 - y0).toNat, ?_, by omega, by omega⟩
      rw [show ((x0.toNat : Nat) : Int) = x0 by omega, show ((y0.toNat : Nat) : Int) = y0 by omega, show (((x1 - x0).toNat : Nat) : Int) = x1 - x0 by omega, show (((y1 - y0).toNat : Nat) : Int) = y1 - y0 by omega]
  · exact hno

set_option maxRecDepth 100000 in
set_option maxHeartbeats 8000000 in
theorem part_any (b g W H : Nat) (L : List CV) (X0 Y0 RW RH : Nat) (w : World) (h : Buf w b g W H L) (hG : Good W H L) (hx : X0 + RW ≤ W) (hy : Y0 + RH ≤ H) :
    Calls Try.prog 65 #[.pointer (some ⟨b, 0, none⟩), .agg #[.int .i64 (X0 : Nat), .int .i64 (Y0 : Nat), .int .i64 (RW : Nat), .int .i64 (RH : Nat)]] w fun e w' => e = .returned (.tuple #[]) ∧ Buf w' b g W H (partT W X0 Y0 RW RH L) ∧ w.grownBy w' (some g) := by
  obtain ⟨it, hinf, -, hsz, -⟩ := info_parts info_cell
  obtain ⟨hblt, hglt⟩ := h.lt
  have hWb := h.wide
  have hHb := h.high
  have HB0 : Hid (Bx w b g W H w.heap.size #[.int .i64 (X0 : Nat), .int .i64 (Y0 : Nat), .int .i64 (RW : Nat), .int .i64 (RH : Nat)] L (w.alloc (.cells #[.int .i64 (X0 : Nat), .int .i64 (Y0 : Nat), .int .i64 (RW : Nat), .int .i64 (RH : Nat)] 58))) := ⟨h.alloc _, heap_alloc_new w _, World.grownBy_alloc w _ (some g), by omega⟩
  have HGD := run.hid (fun k hk => partT_good (X := X0) (Y := Y0) (RW := RW) hG k hk)
  have hne : w.heap.size ≠ g := by omega
  clear h hG
  obtain ⟨⟨q0, q1, q2, q3⟩, -⟩ := blk4 HB0.out.kr
  go_enter Try.func65, Try.ntmps65
  go_wp2
  go_loopw [4] (fun vy wr => ∃ k, k ≤ RH ∧ vy = .int .i64 ((Y0 + k : Nat) : Int) ∧ Hid (Bx w b g W H w.heap.size #[.int .i64 (X0 : Nat), .int .i64 (Y0 : Nat), .int .i64 (RW : Nat), .int .i64 (RH : Nat)] (partT W X0 Y0 RW k L) wr)) (fun vy _ => ((Y0 : Int) + RH - intOf vy).toNat)
  case atStart => exact ⟨0, Nat.zero_le _, rfl, HB0⟩
  case round =>
    obtain ⟨k, hk, rfl, HB⟩ := hrel
    clear q0 q1 q2 q3 HB0
    obtain ⟨⟨q0, q1, q2, q3⟩, -⟩ := blk4 HB.out.kr
    by_cases hkl : k < RH
    · have HNEXT := run.hid (show partT W X0 Y0 RW (k + 1) L = sidesT W X0 RW (Y0 + k) 2 (partT W X0 Y0 RW k L) from rfl)
      have HG0 := run.hid (HGD.out k (by omega))
      have hy2 : Y0 + k < H := by omega
      obtain ⟨y, hyy⟩ : ∃ y, y = Y0 + k := ⟨_, rfl⟩
      rw [← hyy] at hy2 HNEXT ⊢
      generalize partT W X0 Y0 RW k L = M0 at *
      have HYY := run.hid hyy
      have hyl : (y : Int) < (Y0 : Int) + (RH : Int) := by omega
      clear hyy
      go_wp2
      generalize wr = wy at *
      go_loopw [26] (fun vj wr => ∃ j : Nat, j ≤ 2 ∧ vj = .int .i64 (j : Nat) ∧ Hid (Bx w b g W H w.heap.size #[.int .i64 (X0 : Nat), .int .i64 (Y0 : Nat), .int .i64 (RW : Nat), .int .i64 (RH : Nat)] (sidesT W X0 RW y j M0) wr)) (fun vj _ => (2 - intOf vj).toNat)
      case atStart => exact ⟨0, by omega, rfl, HB⟩
      case round =>
        obtain ⟨j, hj, rfl, HB2⟩ := hrel
        clear HB
        have HB := HB2
        clear HB2
        clear q0 q1 q2 q3
        obtain ⟨⟨q0, q1, q2, q3⟩, -⟩ := blk4 HB.out.kr
        have HG := run.hid (sidesT_good HG0.out (X := X0) (RW := RW) hy2 j)
        have hqc := Int.natCast_mul y W
        have hq0 : y * W ≤ 4096 * 4096 := Nat.mul_le_mul (by omega) hWb
        rcases (show j = 0 ∨ j = 1 ∨ j = 2 by omega) with rfl | rfl | rfl
        · skip
          obtain ⟨q, hqq⟩ : ∃ q, y * W = q := ⟨_, rfl⟩
          have HQ := run.hid (show ((y : Nat) : Int) * ((W : Nat) : Int) = ((q : Nat) : Int) from by rw [← hqq]; exact hqc.symm)
          rw [hqq] at hq0
          obtain ⟨x, hxx⟩ : ∃ x, x = X0 := ⟨_, rfl⟩
          obtain ⟨M, hM⟩ : ∃ M, M = sidesT W X0 RW y 0 M0 := ⟨_, rfl⟩
          have HNX := run.hid (show sidesT W X0 RW y 1 M0 = partAt W M y x from by rw [hM, hxx]; rfl)
          rw [← hM] at HB HG
          clear hM
          have hidx : (Instr.index 125 (.agg #[.int .i64 ((X0 : Nat) : Int), .int .i64 (((X0 : Nat) : Int) + ((RW : Nat) : Int))]) (.int .i64 0)).run Try.prog wr = .ok (.int .i64 ((x : Nat) : Int)) wr := by rw [index2_0, show ((X0 : Nat) : Int) = ((x : Nat) : Int) from by omega]
          have HXX := run.hid hxx
          clear hxx hqc
          rcases Nat.lt_or_ge x W with hxw | hxw
          · have hi : y * W + x < W * H := by
              have := Nat.mul_le_mul_right W (show y + 1 ≤ H from hy2)
              rw [Nat.add_mul, Nat.one_mul, Nat.mul_comm H W] at this
              omega
            by_cases hz : wd M (y * W + x) = 0
            · rw [hqq] at hz hi
              have HZ := run.hid hz
              have HI := run.hid hi
              have HS := run.hid (show partAt W M y x = setT M (q + x) (blankT (M.getD (q + x) z0).sty) from (by unfold partAt; rw [hqq]; exact if_pos ⟨hxw, hz⟩))
              clear hz hi hqq
              go_upto_region 7 with fail
              clear q0 q1 q2 q3
              refine lx.region (fun D X => Bx w b g W H w.heap.size #[.int .i64 (X0 : Nat), .int .i64 (Y0 : Nat), .int .i64 (RW : Nat), .int .i64 (RH : Nat)] M X) (by kernel_rfl) (by kernel_rfl) (by kernel_rfl) HB.out.drew ?_
              refine lx.begin 80 rfl ?_
              refine lx.o_pure (.int .i64 (x : Nat)) (fun _ _ h => by first | rfl | kernel_rfl) ?_
              refine lx.o_pure (.pointer (some ⟨b, 0, none⟩)) (fun _ _ h => by first | rfl | kernel_rfl) ?_
              refine lx.o_pure (.pointer (some ⟨b, 0, none⟩)) (fun _ _ h => by first | rfl | kernel_rfl) ?_
              refine lx.o_pure (.pointer (some ⟨b, 0, none⟩)) (fun _ _ h => by first | rfl | kernel_rfl) ?_
              refine lx.o_pure (.int .i64 (W : Nat)) (fun D X hC => lx.run_load rfl rfl Try.underlying3 rfl hC.buf.h0) ?_
              refine lx.o_pure (.bool true) (fun _ _ _ => run_lssn_yes rfl rfl rfl (by omega)) ?_
              refine lx.o_pure (.bool true) (fun _ _ h => by first | rfl | kernel_rfl) ?_
              refine lx.o_pure (.pointer (some ⟨b, 0, none⟩)) (fun _ _ h => by first | rfl | kernel_rfl) ?_
              refine lx.o_pure (.pointer (some ⟨b, 0, none⟩)) (fun _ _ h => by first | rfl | kernel_rfl) ?_
              refine lx.o_pure (.pointer (some ⟨b, 2, none⟩)) (fun _ _ h => by first | rfl | kernel_rfl) ?_
              refine lx.o_pure (.slice (some ⟨g, 0, none⟩) (W * H : Nat) (W * H : Nat)) (fun D X hC => lx.run_load rfl rfl Try.underlying35 rfl hC.buf.h2) ?_
              refine lx.o_pure (.int .i64 (y : Nat)) (fun _ _ h => by first | rfl | kernel_rfl) ?_
              refine lx.o_pure (.pointer (some ⟨b, 0, none⟩)) (fun _ _ h => by first | rfl | kernel_rfl) ?_
              refine lx.o_pure (.pointer (some ⟨b, 0, none⟩)) (fun _ _ h => by first | rfl | kernel_rfl) ?_
              refine lx.o_pure (.pointer (some ⟨b, 0, none⟩)) (fun _ _ h => by first | rfl | kernel_rfl) ?_
              refine lx.o_pure (.int .i64 (W : Nat)) (fun D X hC => lx.run_load rfl rfl Try.underlying3 rfl hC.buf.h0) ?_
              refine lx.o_pure (.int .i64 (q : Nat)) (fun _ _ _ => lx.run_mul rfl rfl rfl HQ.out (by omega)) ?_
              refine lx.o_pure (.int .i64 (x : Nat)) (fun _ _ h => by first | rfl | kernel_rfl) ?_
              refine lx.o_pure (.int .i64 ((q + x : Nat) : Int)) (fun _ _ _ => lx.run_add rfl rfl rfl (by omega) (by push_cast; rfl)) ?_
              refine lx.o_pure (.pointer (some ⟨g, (q + x) * 5, none⟩)) (fun D X hC => run_at5 rfl rfl rfl HI.out Try.underlying35 hinf hsz) ?_
              refine lx.o_pure (.pointer (some ⟨g, (q + x) * 5 + 1, none⟩)) (fun _ _ h => by first | rfl | kernel_rfl) ?_
              refine lx.o_pure (.int .i8 (wd M (q + x))) (fun D X hC => lx.run_load rfl rfl Try.underlying42 rfl (hC.wide HI.out)) ?_
              refine lx.o_pure (.bool true) (fun _ _ _ => run_eq8_t rfl rfl rfl HZ.out) ?_
              refine lx.o_pure (.bool true) (fun _ _ h => by first | rfl | kernel_rfl) ?_
              refine lx.o_end ?_
              simp only [lx.ov]
              rintro X d hd hC
              have HB7 := run.hid hC
              clear hC hd HB
              go_simp
              go_upto_region 8 with fail
              have HB := HB7
              clear HB7
              obtain ⟨sv, hsv⟩ : ∃ sv, (M.getD (q + x) z0).sty = sv := ⟨_, rfl⟩
              have HBL := run.hid (fun w => blank_any sv w)
              rw [hsv] at HS
              have HSV := run.hid hsv
              clear hsv
              obtain ⟨bx, hbx⟩ : ∃ bx, bx = blankT sv := ⟨_, rfl⟩
              rw [← hbx] at HBL HS
              clear hbx
              refine lx.region (fun D X => ∃ L2, Bx w b g W H w.heap.size #[.int .i64 (X0 : Nat), .int .i64 (Y0 : Nat), .int .i64 (RW : Nat), .int .i64 (RH : Nat)] L2 X ∧ (D 25 = false → L2 = M) ∧ (D 25 = true → L2 = setT M (q + x) bx) ∧ (D 24 = true → D 23 = true) ∧ (D 25 = true → D 24 = true)) (by kernel_rfl) (by kernel_rfl) (by kernel_rfl) ⟨M, HB.out.drew, fun _ => rfl, fun h => (by cases h), fun h => (by cases h), fun h => (by cases h)⟩ ?_
              refine lx.begin 80 rfl ?_
              refine lx.o_pure (.pointer (some ⟨b, 0, none⟩)) (fun _ _ h => by first | rfl | kernel_rfl) ?_
              refine lx.o_pure (.int .i64 (y : Nat)) (fun _ _ h => by first | rfl | kernel_rfl) ?_
              refine lx.o_pure (.pointer (some ⟨b, 0, none⟩)) (fun _ _ h => by first | rfl | kernel_rfl) ?_
              refine lx.o_pure (.pointer (some ⟨b, 0, none⟩)) (fun _ _ h => by first | rfl | kernel_rfl) ?_
              refine lx.o_pure (.pointer (some ⟨b, 0, none⟩)) (fun _ _ h => by first | rfl | kernel_rfl) ?_
              refine lx.o_pure (.int .i64 (W : Nat)) (fun D X hC => lx.run_load rfl rfl Try.underlying3 rfl hC.choose_spec.1.buf.h0) ?_
              refine lx.o_pure (.int .i64 (q : Nat)) (fun _ _ _ => lx.run_mul rfl rfl rfl HQ.out (by omega)) ?_
              refine lx.o_pure (.int .i64 (x : Nat)) (fun _ _ h => by first | rfl | kernel_rfl) ?_
              refine lx.o_pure (.int .i64 ((q + x : Nat) : Int)) (fun _ _ _ => lx.run_add rfl rfl rfl (by omega) (by push_cast; rfl)) ?_
              refine lx.o_pure (.pointer (some ⟨b, 0, none⟩)) (fun _ _ h => by first | rfl | kernel_rfl) ?_
              refine lx.o_pure (.pointer (some ⟨b, 0, none⟩)) (fun _ _ h => by first | rfl | kernel_rfl) ?_
              refine lx.o_pure (.pointer (some ⟨b, 2, none⟩)) (fun _ _ h => by first | rfl | kernel_rfl) ?_
              refine lx.o_pure (.slice (some ⟨g, 0, none⟩) (W * H : Nat) (W * H : Nat)) (fun D X hC => lx.run_load rfl rfl Try.underlying35 rfl hC.choose_spec.1.buf.h2) ?_
              refine lx.o_pure (.int .i64 (y : Nat)) (fun _ _ h => by first | rfl | kernel_rfl) ?_
              refine lx.o_pure (.pointer (some ⟨b, 0, none⟩)) (fun _ _ h => by first | rfl | kernel_rfl) ?_
              refine lx.o_pure (.pointer (some ⟨b, 0, none⟩)) (fun _ _ h => by first | rfl | kernel_rfl) ?_
              refine lx.o_pure (.pointer (some ⟨b, 0, none⟩)) (fun _ _ h => by first | rfl | kernel_rfl) ?_
              refine lx.o_pure (.int .i64 (W : Nat)) (fun D X hC => lx.run_load rfl rfl Try.underlying3 rfl hC.choose_spec.1.buf.h0) ?_
              refine lx.o_pure (.int .i64 (q : Nat)) (fun _ _ _ => lx.run_mul rfl rfl rfl HQ.out (by omega)) ?_
              refine lx.o_pure (.int .i64 (x : Nat)) (fun _ _ h => by first | rfl | kernel_rfl) ?_
              refine lx.o_pure (.int .i64 ((q + x : Nat) : Int)) (fun _ _ _ => lx.run_add rfl rfl rfl (by omega) (by push_cast; rfl)) ?_
              refine lx.o_pure (.pointer (some ⟨g, (q + x) * 5, none⟩)) (fun D X hC => run_at5 rfl rfl rfl HI.out Try.underlying35 hinf hsz) ?_
              refine lx.o_pure (.pointer (some ⟨g, (q + x) * 5 + 2, none⟩)) (fun _ _ h => by first | rfl | kernel_rfl) ?_
              refine lx.o_eff sv.val (fun D X h0 hdep hC => ?_) ?_
              · obtain ⟨L2, hS, h1, h2, h3, h4⟩ := hC
                have e24 : D 24 = false := by cases h : D 24 with
                  | false => rfl
                  | true => have := h3 h; rw [h0] at this; cases this
                have e25 : D 25 = false := by cases h : D 25 with
                  | false => rfl
                  | true => have := h4 h; rw [e24] at this; cases this
                obtain rfl := h1 e25
                exact ⟨X, by rw [← HSV.out]; exact run_sty3 rfl rfl (hS.buf.cell5 HI.out), _, hS, h1, h2, fun _ => rfl, h4⟩
              refine lx.o_callD bx.val 24 #[sv.val] (fun _ _ _ => lx.run_fn rfl rfl rfl (enters_of Try.func24 (by kernel_rfl) rfl)) (fun D X h0 hdep hC => (HBL.out X).mono fun e w2 ⟨he, hw⟩ => ⟨he, ?_⟩) ?_
              · obtain ⟨L2, h1, h2, h3, h4, h5⟩ := hC
                have hs : D 23 = true := hdep ⟨23, .data⟩ (by simp) rfl
                exact ⟨L2, h1.below hw, h2, h3, fun _ => hs, fun _ => rfl⟩
              refine lx.o_callD (.tuple #[]) 82 #[.pointer (some ⟨b, 0, none⟩), .int .i64 ((q + x : Nat) : Int), bx.val] (fun _ _ _ => lx.run_fn rfl rfl rfl (enters_of Try.func82 (by kernel_rfl) rfl)) (fun D X h0 hdep hC => ?_) ?_
              · obtain ⟨L2, hS, h1, h2, h3, h4⟩ := hC
                obtain rfl := h1 h0
                have hs : D 24 = true := hdep ⟨24, .data⟩ (by simp) rfl
                exact (hS.set HG.out HI.out bx).mono fun e w2 ⟨he, hS2⟩ => ⟨he, _, hS2, (fun h => by cases h), (fun _ => rfl), h3, fun _ => hs⟩
              refine lx.o_end ?_
              simp only [lx.ov]
              rintro X d hd ⟨L2, hS, -, h2, -⟩
              obtain rfl := h2 (hd 25 (by decide))
              have HF := run.hid hS
              clear hS h2 hd HB HBL HG HSV HZ HI
              go_simp
              go_wp2
              go_roundw
              case rel => exact ⟨1, by omega, by go_num, by show Bx _ _ _ _ _ _ _ _ _; rw [HNX.out, HS.out]; exact HF.out⟩
              case measure => simp [intOf]
            · rw [hqq] at hz hi
              have HZ := run.hid hz
              have HI := run.hid hi
              have HS := run.hid (show partAt W M y x = M from if_neg (fun h => hz (by have := h.2; rwa [hqq] at this)))
              clear hz hi hqq
              go_upto_region 7 with fail
              clear q0 q1 q2 q3
              refine lx.region (fun D X => Bx w b g W H w.heap.size #[.int .i64 (X0 : Nat), .int .i64 (Y0 : Nat), .int .i64 (RW : Nat), .int .i64 (RH : Nat)] M X) (by kernel_rfl) (by kernel_rfl) (by kernel_rfl) HB.out.drew ?_
              refine lx.begin 80 rfl ?_
              refine lx.o_pure (.int .i64 (x : Nat)) (fun _ _ h => by first | rfl | kernel_rfl) ?_
              refine lx.o_pure (.pointer (some ⟨b, 0, none⟩)) (fun _ _ h => by first | rfl | kernel_rfl) ?_
              refine lx.o_pure (.pointer (some ⟨b, 0, none⟩)) (fun _ _ h => by first | rfl | kernel_rfl) ?_
              refine lx.o_pure (.pointer (some ⟨b, 0, none⟩)) (fun _ _ h => by first | rfl | kernel_rfl) ?_
              refine lx.o_pure (.int .i64 (W : Nat)) (fun D X hC => lx.run_load rfl rfl Try.underlying3 rfl hC.buf.h0) ?_
              refine lx.o_pure (.bool true) (fun _ _ _ => run_lssn_yes rfl rfl rfl (by omega)) ?_
              refine lx.o_pure (.bool true) (fun _ _ h => by first | rfl | kernel_rfl) ?_
              refine lx.o_pure (.pointer (some ⟨b, 0, none⟩)) (fun _ _ h => by first | rfl | kernel_rfl) ?_
              refine lx.o_pure (.pointer (some ⟨b, 0, none⟩)) (fun _ _ h => by first | rfl | kernel_rfl) ?_
              refine lx.o_pure (.pointer (some ⟨b, 2, none⟩)) (fun _ _ h => by first | rfl | kernel_rfl) ?_
              refine lx.o_pure (.slice (some ⟨g, 0, none⟩) (W * H : Nat) (W * H : Nat)) (fun D X hC => lx.run_load rfl rfl Try.underlying35 rfl hC.buf.h2) ?_
              refine lx.o_pure (.int .i64 (y : Nat)) (fun _ _ h => by first | rfl | kernel_rfl) ?_
              refine lx.o_pure (.pointer (some ⟨b, 0, none⟩)) (fun _ _ h => by first | rfl | kernel_rfl) ?_
              refine lx.o_pure (.pointer (some ⟨b, 0, none⟩)) (fun _ _ h => by first | rfl | kernel_rfl) ?_
              refine lx.o_pure (.pointer (some ⟨b, 0, none⟩)) (fun _ _ h => by first | rfl | kernel_rfl) ?_
              refine lx.o_pure (.int .i64 (W : Nat)) (fun D X hC => lx.run_load rfl rfl Try.underlying3 rfl hC.buf.h0) ?_
              refine lx.o_pure (.int .i64 (q : Nat)) (fun _ _ _ => lx.run_mul rfl rfl rfl HQ.out (by omega)) ?_
              refine lx.o_pure (.int .i64 (x : Nat)) (fun _ _ h => by first | rfl | kernel_rfl) ?_
              refine lx.o_pure (.int .i64 ((q + x : Nat) : Int)) (fun _ _ _ => lx.run_add rfl rfl rfl (by omega) (by push_cast; rfl)) ?_
              refine lx.o_pure (.pointer (some ⟨g, (q + x) * 5, none⟩)) (fun D X hC => run_at5 rfl rfl rfl HI.out Try.underlying35 hinf hsz) ?_
              refine lx.o_pure (.pointer (some ⟨g, (q + x) * 5 + 1, none⟩)) (fun _ _ h => by first | rfl | kernel_rfl) ?_
              refine lx.o_pure (.int .i8 (wd M (q + x))) (fun D X hC => lx.run_load rfl rfl Try.underlying42 rfl (hC.wide HI.out)) ?_
              refine lx.o_pure (.bool false) (fun _ _ _ => run_eq8_f rfl rfl rfl HZ.out) ?_
              refine lx.o_pure (.bool false) (fun _ _ h => by first | rfl | kernel_rfl) ?_
              refine lx.o_end ?_
              simp only [lx.ov]
              rintro X d hd hC
              have HB7 := run.hid hC
              clear hC hd HB
              go_simp
              have HF := HB7
              clear HB7 HG
              go_wp2
              go_roundw
              case rel => exact ⟨1, by omega, by go_num, by show Bx _ _ _ _ _ _ _ _ _; rw [HNX.out, HS.out]; exact HF.out⟩
              case measure => simp [intOf]
          · replace hxw : ¬ x < W := by omega
            have HS := run.hid (show partAt W M y x = M from if_neg (fun h => hxw h.1))
            clear hqq
            go_upto_region 7 with fail
            clear q0 q1 q2 q3
            refine lx.region (fun D X => Bx w b g W H w.heap.size #[.int .i64 (X0 : Nat), .int .i64 (Y0 : Nat), .int .i64 (RW : Nat), .int .i64 (RH : Nat)] M X) (by kernel_rfl) (by kernel_rfl) (by kernel_rfl) HB.out.drew ?_
            refine lx.begin 80 rfl ?_
            refine lx.o_pure (.int .i64 (x : Nat)) (fun _ _ h => by first | rfl | kernel_rfl) ?_
            refine lx.o_pure (.pointer (some ⟨b, 0, none⟩)) (fun _ _ h => by first | rfl | kernel_rfl) ?_
            refine lx.o_pure (.pointer (some ⟨b, 0, none⟩)) (fun _ _ h => by first | rfl | kernel_rfl) ?_
            refine lx.o_pure (.pointer (some ⟨b, 0, none⟩)) (fun _ _ h => by first | rfl | kernel_rfl) ?_
            refine lx.o_pure (.int .i64 (W : Nat)) (fun D X hC => lx.run_load rfl rfl Try.underlying3 rfl hC.buf.h0) ?_
            refine lx.o_pure (.bool false) (fun _ _ _ => run_lssn_no rfl rfl rfl (by omega)) ?_
            refine lx.o_pure (.bool false) (fun _ _ h => by first | rfl | kernel_rfl) ?_
            refine lx.o_skip ?_
            refine lx.o_skip ?_
            refine lx.o_skip ?_
            refine lx.o_skip ?_
            refine lx.o_skip ?_
            refine lx.o_skip ?_
            refine lx.o_skip ?_
            refine lx.o_skip ?_
            refine lx.o_skip ?_
            refine lx.o_skip ?_
            refine lx.o_skip ?_
            refine lx.o_skip ?_
            refine lx.o_skip ?_
            refine lx.o_skip ?_
            refine lx.o_skip ?_
            refine lx.o_skip ?_
            refine lx.o_pure (.bool false) (fun _ _ h => by first | rfl | kernel_rfl) ?_
            refine lx.o_end ?_
            simp only [lx.ov]
            rintro X d hd hC
            have HB7 := run.hid hC
            clear hC hd HB
            go_simp
            have HF := HB7
            clear HB7 HG
            go_wp2
            go_roundw
            case rel => exact ⟨1, by omega, by go_num, by show Bx _ _ _ _ _ _ _ _ _; rw [HNX.out, HS.out]; exact HF.out⟩
            case measure => simp [intOf]
        · skip
          obtain ⟨q, hqq⟩ : ∃ q, y * W = q := ⟨_, rfl⟩
          have HQ := run.hid (show ((y : Nat) : Int) * ((W : Nat) : Int) = ((q : Nat) : Int) from by rw [← hqq]; exact hqc.symm)
          rw [hqq] at hq0
          obtain ⟨x, hxx⟩ : ∃ x, x = X0 + RW := ⟨_, rfl⟩
          obtain ⟨M, hM⟩ : ∃ M, M = sidesT W X0 RW y 1 M0 := ⟨_, rfl⟩
          have HNX := run.hid (show sidesT W X0 RW y 2 M0 = partAt W M y x from by rw [hM, hxx]; rfl)
          rw [← hM] at HB HG
          clear hM
          have hidx : (Instr.index 125 (.agg #[.int .i64 ((X0 : Nat) : Int), .int .i64 (((X0 : Nat) : Int) + ((RW : Nat) : Int))]) (.int .i64 1)).run Try.prog wr = .ok (.int .i64 ((x : Nat) : Int)) wr := by rw [index2_1, show (((X0 : Nat) : Int) + ((RW : Nat) : Int)) = ((x : Nat) : Int) from by omega]
          have HXX := run.hid hxx
          clear hxx hqc
          rcases Nat.lt_or_ge x W with hxw | hxw
          · have hi : y * W + x < W * H := by
              have := Nat.mul_le_mul_right W (show y + 1 ≤ H from hy2)
              rw [Nat.add_mul, Nat.one_mul, Nat.mul_comm H W] at this
              omega
            by_cases hz : wd M (y * W + x) = 0
            · rw [hqq] at hz hi
              have HZ := run.hid hz
              have HI := run.hid hi
              have HS := run.hid (show partAt W M y x = setT M (q + x) (blankT (M.getD (q + x) z0).sty) from (by unfold partAt; rw [hqq]; exact if_pos ⟨hxw, hz⟩))
              clear hz hi hqq
              go_upto_region 7 with fail
              clear q0 q1 q2 q3
              refine lx.region (fun D X => Bx w b g W H w.heap.size #[.int .i64 (X0 : Nat), .int .i64 (Y0 : Nat), .int .i64 (RW : Nat), .int .i64 (RH : Nat)] M X) (by kernel_rfl) (by kernel_rfl) (by kernel_rfl) HB.out.drew ?_
              refine lx.begin 80 rfl ?_
              refine lx.o_pure (.int .i64 (x : Nat)) (fun _ _ h => by first | rfl | kernel_rfl) ?_
              refine lx.o_pure (.pointer (some ⟨b, 0, none⟩)) (fun _ _ h => by first | rfl | kernel_rfl) ?_
              refine lx.o_pure (.pointer (some ⟨b, 0, none⟩)) (fun _ _ h => by first | rfl | kernel_rfl) ?_
              refine lx.o_pure (.pointer (some ⟨b, 0, none⟩)) (fun _ _ h => by first | rfl | kernel_rfl) ?_
              refine lx.o_pure (.int .i64 (W : Nat)) (fun D X hC => lx.run_load rfl rfl Try.underlying3 rfl hC.buf.h0) ?_
              refine lx.o_pure (.bool true) (fun _ _ _ => run_lssn_yes rfl rfl rfl (by omega)) ?_
              refine lx.o_pure (.bool true) (fun _ _ h => by first | rfl | kernel_rfl) ?_
              refine lx.o_pure (.pointer (some ⟨b, 0, none⟩)) (fun _ _ h => by first | rfl | kernel_rfl) ?_
              refine lx.o_pure (.pointer (some ⟨b, 0, none⟩)) (fun _ _ h => by first | rfl | kernel_rfl) ?_
              refine lx.o_pure (.pointer (some ⟨b, 2, none⟩)) (fun _ _ h => by first | rfl | kernel_rfl) ?_
              refine lx.o_pure (.slice (some ⟨g, 0, none⟩) (W * H : Nat) (W * H : Nat)) (fun D X hC => lx.run_load rfl rfl Try.underlying35 rfl hC.buf.h2) ?_
              refine lx.o_pure (.int .i64 (y : Nat)) (fun _ _ h => by first | rfl | kernel_rfl) ?_
              refine lx.o_pure (.pointer (some ⟨b, 0, none⟩)) (fun _ _ h => by first | rfl | kernel_rfl) ?_
              refine lx.o_pure (.pointer (some ⟨b, 0, none⟩)) (fun _ _ h => by first | rfl | kernel_rfl) ?_
              refine lx.o_pure (.pointer (some ⟨b, 0, none⟩)) (fun _ _ h => by first | rfl | kernel_rfl) ?_
              refine lx.o_pure (.int .i64 (W : Nat)) (fun D X hC => lx.run_load rfl rfl Try.underlying3 rfl hC.buf.h0) ?_
              refine lx.o_pure (.int .i64 (q : Nat)) (fun _ _ _ => lx.run_mul rfl rfl rfl HQ.out (by omega)) ?_
              refine lx.o_pure (.int .i64 (x : Nat)) (fun _ _ h => by first | rfl | kernel_rfl) ?_
              refine lx.o_pure (.int .i64 ((q + x : Nat) : Int)) (fun _ _ _ => lx.run_add rfl rfl rfl (by omega) (by push_cast; rfl)) ?_
              refine lx.o_pure (.pointer (some ⟨g, (q + x) * 5, none⟩)) (fun D X hC => run_at5 rfl rfl rfl HI.out Try.underlying35 hinf hsz) ?_
              refine lx.o_pure (.pointer (some ⟨g, (q + x) * 5 + 1, none⟩)) (fun _ _ h => by first | rfl | kernel_rfl) ?_
              refine lx.o_pure (.int .i8 (wd M (q + x))) (fun D X hC => lx.run_load rfl rfl Try.underlying42 rfl (hC.wide HI.out)) ?_
              refine lx.o_pure (.bool true) (fun _ _ _ => run_eq8_t rfl rfl rfl HZ.out) ?_
              refine lx.o_pure (.bool true) (fun _ _ h => by first | rfl | kernel_rfl) ?_
              refine lx.o_end ?_
              simp only [lx.ov]
              rintro X d hd hC
              have HB7 := run.hid hC
              clear hC hd HB
              go_simp
              go_upto_region 8 with fail
              have HB := HB7
              clear HB7
              obtain ⟨sv, hsv⟩ : ∃ sv, (M.getD (q + x) z0).sty = sv := ⟨_, rfl⟩
              have HBL := run.hid (fun w => blank_any sv w)
              rw [hsv] at HS
              have HSV := run.hid hsv
              clear hsv
              obtain ⟨bx, hbx⟩ : ∃ bx, bx = blankT sv := ⟨_, rfl⟩
              rw [← hbx] at HBL HS
              clear hbx
              refine lx.region (fun D X => ∃ L2, Bx w b g W H w.heap.size #[.int .i64 (X0 : Nat), .int .i64 (Y0 : Nat), .int .i64 (RW : Nat), .int .i64 (RH : Nat)] L2 X ∧ (D 25 = false → L2 = M) ∧ (D 25 = true → L2 = setT M (q + x) bx) ∧ (D 24 = true → D 23 = true) ∧ (D 25 = true → D 24 = true)) (by kernel_rfl) (by kernel_rfl) (by kernel_rfl) ⟨M, HB.out.drew, fun _ => rfl, fun h => (by cases h), fun h => (by cases h), fun h => (by cases h)⟩ ?_
              refine lx.begin 80 rfl ?_
              refine lx.o_pure (.pointer (some ⟨b, 0, none⟩)) (fun _ _ h => by first | rfl | kernel_rfl) ?_
              refine lx.o_pure (.int .i64 (y : Nat)) (fun _ _ h => by first | rfl | kernel_rfl) ?_
              refine lx.o_pure (.pointer (some ⟨b, 0, none⟩)) (fun _ _ h => by first | rfl | kernel_rfl) ?_
              refine lx.o_pure (.pointer (some ⟨b, 0, none⟩)) (fun _ _ h => by first | rfl | kernel_rfl) ?_
              refine lx.o_pure (.pointer (some ⟨b, 0, none⟩)) (fun _ _ h => by first | rfl | kernel_rfl) ?_
              refine lx.o_pure (.int .i64 (W : Nat)) (fun D X hC => lx.run_load rfl rfl Try.underlying3 rfl hC.choose_spec.1.buf.h0) ?_
              refine lx.o_pure (.int .i64 (q : Nat)) (fun _ _ _ => lx.run_mul rfl rfl rfl HQ.out (by omega)) ?_
              refine lx.o_pure (.int .i64 (x : Nat)) (fun _ _ h => by first | rfl | kernel_rfl) ?_
              refine lx.o_pure (.int .i64 ((q + x : Nat) : Int)) (fun _ _ _ => lx.run_add rfl rfl rfl (by omega) (by push_cast; rfl)) ?_
              refine lx.o_pure (.pointer (some ⟨b, 0, none⟩)) (fun _ _ h => by first | rfl | kernel_rfl) ?_
              refine lx.o_pure (.pointer (some ⟨b, 0, none⟩)) (fun _ _ h => by first | rfl | kernel_rfl) ?_
              refine lx.o_pure (.pointer (some ⟨b, 2, none⟩)) (fun _ _ h => by first | rfl | kernel_rfl) ?_
              refine lx.o_pure (.slice (some ⟨g, 0, none⟩) (W * H : Nat) (W * H : Nat)) (fun D X hC => lx.run_load rfl rfl Try.underlying35 rfl hC.choose_spec.1.buf.h2) ?_
              refine lx.o_pure (.int .i64 (y : Nat)) (fun _ _ h => by first | rfl | kernel_rfl) ?_
              refine lx.o_pure (.pointer (some ⟨b, 0, none⟩)) (fun _ _ h => by first | rfl | kernel_rfl) ?_
              refine lx.o_pure (.pointer (some ⟨b, 0, none⟩)) (fun _ _ h => by first | rfl | kernel_rfl) ?_
              refine lx.o_pure (.pointer (some ⟨b, 0, none⟩)) (fun _ _ h => by first | rfl | kernel_rfl) ?_
              refine lx.o_pure (.int .i64 (W : Nat)) (fun D X hC => lx.run_load rfl rfl Try.underlying3 rfl hC.choose_spec.1.buf.h0) ?_
              refine lx.o_pure (.int .i64 (q : Nat)) (fun _ _ _ => lx.run_mul rfl rfl rfl HQ.out (by omega)) ?_
              refine lx.o_pure (.int .i64 (x : Nat)) (fun _ _ h => by first | rfl | kernel_rfl) ?_
              refine lx.o_pure (.int .i64 ((q + x : Nat) : Int)) (fun _ _ _ => lx.run_add rfl rfl rfl (by omega) (by push_cast; rfl)) ?_
              refine lx.o_pure (.pointer (some ⟨g, (q + x) * 5, none⟩)) (fun D X hC => run_at5 rfl rfl rfl HI.out Try.underlying35 hinf hsz) ?_
              refine lx.o_pure (.pointer (some ⟨g, (q + x) * 5 + 2, none⟩)) (fun _ _ h => by first | rfl | kernel_rfl) ?_
              refine lx.o_eff sv.val (fun D X h0 hdep hC => ?_) ?_
              · obtain ⟨L2, hS, h1, h2, h3, h4⟩ := hC
                have e24 : D 24 = false := by cases h : D 24 with
                  | false => rfl
                  | true => have := h3 h; rw [h0] at this; cases this
                have e25 : D 25 = false := by cases h : D 25 with
                  | false => rfl
                  | true => have := h4 h; rw [e24] at this; cases this
                obtain rfl := h1 e25
                exact ⟨X, by rw [← HSV.out]; exact run_sty3 rfl rfl (hS.buf.cell5 HI.out), _, hS, h1, h2, fun _ => rfl, h4⟩
              refine lx.o_callD bx.val 24 #[sv.val] (fun _ _ _ => lx.run_fn rfl rfl rfl (enters_of Try.func24 (by kernel_rfl) rfl)) (fun D X h0 hdep hC => (HBL.out X).mono fun e w2 ⟨he, hw⟩ => ⟨he, ?_⟩) ?_
              · obtain ⟨L2, h1, h2, h3, h4, h5⟩ := hC
                have hs : D 23 = true := hdep ⟨23, .data⟩ (by simp) rfl
                exact ⟨L2, h1.below hw, h2, h3, fun _ => hs, fun _ => rfl⟩
              refine lx.o_callD (.tuple #[]) 82 #[.pointer (some ⟨b, 0, none⟩), .int .i64 ((q + x : Nat) : Int), bx.val] (fun _ _ _ => lx.run_fn rfl rfl rfl (enters_of Try.func82 (by kernel_rfl) rfl)) (fun D X h0 hdep hC => ?_) ?_
              · obtain ⟨L2, hS, h1, h2, h3, h4⟩ := hC
                obtain rfl := h1 h0
                have hs : D 24 = true := hdep ⟨24, .data⟩ (by simp) rfl
                exact (hS.set HG.out HI.out bx).mono fun e w2 ⟨he, hS2⟩ => ⟨he, _, hS2, (fun h => by cases h), (fun _ => rfl), h3, fun _ => hs⟩
              refine lx.o_end ?_
              simp only [lx.ov]
              rintro X d hd ⟨L2, hS, -, h2, -⟩
              obtain rfl := h2 (hd 25 (by decide))
              have HF := run.hid hS
              clear hS h2 hd HB HBL HG HSV HZ HI
              go_simp
              go_wp2
              go_roundw
              case rel => exact ⟨2, by omega, by go_num, by show Bx _ _ _ _ _ _ _ _ _; rw [HNX.out, HS.out]; exact HF.out⟩
              case measure => simp [intOf]
            · rw [hqq] at hz hi
              have HZ := run.hid hz
              have HI := run.hid hi
              have HS := run.hid (show partAt W M y x = M from if_neg (fun h => hz (by have := h.2; rwa [hqq] at this)))
              clear hz hi hqq
              go_upto_region 7 with fail
              clear q0 q1 q2 q3
              refine lx.region (fun D X => Bx w b g W H w.heap.size #[.int .i64 (X0 : Nat), .int .i64 (Y0 : Nat), .int .i64 (RW : Nat), .int .i64 (RH : Nat)] M X) (by kernel_rfl) (by kernel_rfl) (by kernel_rfl) HB.out.drew ?_
              refine lx.begin 80 rfl ?_
              refine lx.o_pure (.int .i64 (x : Nat)) (fun _ _ h => by first | rfl | kernel_rfl) ?_
              refine lx.o_pure (.pointer (some ⟨b, 0, none⟩)) (fun _ _ h => by first | rfl | kernel_rfl) ?_
              refine lx.o_pure (.pointer (some ⟨b, 0, none⟩)) (fun _ _ h => by first | rfl | kernel_rfl) ?_
              refine lx.o_pure (.pointer (some ⟨b, 0, none⟩)) (fun _ _ h => by first | rfl | kernel_rfl) ?_
              refine lx.o_pure (.int .i64 (W : Nat)) (fun D X hC => lx.run_load rfl rfl Try.underlying3 rfl hC.buf.h0) ?_
              refine lx.o_pure (.bool true) (fun _ _ _ => run_lssn_yes rfl rfl rfl (by omega)) ?_
              refine lx.o_pure (.bool true) (fun _ _ h => by first | rfl | kernel_rfl) ?_
              refine lx.o_pure (.pointer (some ⟨b, 0, none⟩)) (fun _ _ h => by first | rfl | kernel_rfl) ?_
              refine lx.o_pure (.pointer (some ⟨b, 0, none⟩)) (fun _ _ h => by first | rfl | kernel_rfl) ?_
              refine lx.o_pure (.pointer (some ⟨b, 2, none⟩)) (fun _ _ h => by first | rfl | kernel_rfl) ?_
              refine lx.o_pure (.slice (some ⟨g, 0, none⟩) (W * H : Nat) (W * H : Nat)) (fun D X hC => lx.run_load rfl rfl Try.underlying35 rfl hC.buf.h2) ?_
              refine lx.o_pure (.int .i64 (y : Nat)) (fun _ _ h => by first | rfl | kernel_rfl) ?_
              refine lx.o_pure (.pointer (some ⟨b, 0, none⟩)) (fun _ _ h => by first | rfl | kernel_rfl) ?_
              refine lx.o_pure (.pointer (some ⟨b, 0, none⟩)) (fun _ _ h => by first | rfl | kernel_rfl) ?_
              refine lx.o_pure (.pointer (some ⟨b, 0, none⟩)) (fun _ _ h => by first | rfl | kernel_rfl) ?_
              refine lx.o_pure (.int .i64 (W : Nat)) (fun D X hC => lx.run_load rfl rfl Try.underlying3 rfl hC.buf.h0) ?_
              refine lx.o_pure (.int .i64 (q : Nat)) (fun _ _ _ => lx.run_mul rfl rfl rfl HQ.out (by omega)) ?_
              refine lx.o_pure (.int .i64 (x : Nat)) (fun _ _ h => by first | rfl | kernel_rfl) ?_
              refine lx.o_pure (.int .i64 ((q + x : Nat) : Int)) (fun _ _ _ => lx.run_add rfl rfl rfl (by omega) (by push_cast; rfl)) ?_
              refine lx.o_pure (.pointer (some ⟨g, (q + x) * 5, none⟩)) (fun D X hC => run_at5 rfl rfl rfl HI.out Try.underlying35 hinf hsz) ?_
              refine lx.o_pure (.pointer (some ⟨g, (q + x) * 5 + 1, none⟩)) (fun _ _ h => by first | rfl | kernel_rfl) ?_
              refine lx.o_pure (.int .i8 (wd M (q + x))) (fun D X hC => lx.run_load rfl rfl Try.underlying42 rfl (hC.wide HI.out)) ?_
              refine lx.o_pure (.bool false) (fun _ _ _ => run_eq8_f rfl rfl rfl HZ.out) ?_
              refine lx.o_pure (.bool false) (fun _ _ h => by first | rfl | kernel_rfl) ?_
              refine lx.o_end ?_
              simp only [lx.ov]
              rintro X d hd hC
              have HB7 := run.hid hC
              clear hC hd HB
              go_simp
              have HF := HB7
              clear HB7 HG
              go_wp2
              go_roundw
              case rel => exact ⟨2, by omega, by go_num, by show Bx _ _ _ _ _ _ _ _ _; rw [HNX.out, HS.out]; exact HF.out⟩
              case measure => simp [intOf]
          · replace hxw : ¬ x < W := by omega
            have HS := run.hid (show partAt W M y x = M from if_neg (fun h => hxw h.1))
            clear hqq
            go_upto_region 7 with fail
            clear q0 q1 q2 q3
            refine lx.region (fun D X => Bx w b g W H w.heap.size #[.int .i64 (X0 : Nat), .int .i64 (Y0 : Nat), .int .i64 (RW : Nat), .int .i64 (RH : Nat)] M X) (by kernel_rfl) (by kernel_rfl) (by kernel_rfl) HB.out.drew ?_
            refine lx.begin 80 rfl ?_
            refine lx.o_pure (.int .i64 (x : Nat)) (fun _ _ h => by first | rfl | kernel_rfl) ?_
            refine lx.o_pure (.pointer (some ⟨b, 0, none⟩)) (fun _ _ h => by first | rfl | kernel_rfl) ?_
            refine lx.o_pure (.pointer (some ⟨b, 0, none⟩)) (fun _ _ h => by first | rfl | kernel_rfl) ?_
            refine lx.o_pure (.pointer (some ⟨b, 0, none⟩)) (fun _ _ h => by first | rfl | kernel_rfl) ?_
            refine lx.o_pure (.int .i64 (W : Nat)) (fun D X hC => lx.run_load rfl rfl Try.underlying3 rfl hC.buf.h0) ?_
            refine lx.o_pure (.bool false) (fun _ _ _ => run_lssn_no rfl rfl rfl (by omega)) ?_
            refine lx.o_pure (.bool false) (fun _ _ h => by first | rfl | kernel_rfl) ?_
            refine lx.o_skip ?_
            refine lx.o_skip ?_
            refine lx.o_skip ?_
            refine lx.o_skip ?_
            refine lx.o_skip ?_
            refine lx.o_skip ?_
            refine lx.o_skip ?_
            refine lx.o_skip ?_
            refine lx.o_skip ?_
            refine lx.o_skip ?_
            refine lx.o_skip ?_
            refine lx.o_skip ?_
            refine lx.o_skip ?_
            refine lx.o_skip ?_
            refine lx.o_skip ?_
            refine lx.o_skip ?_
            refine lx.o_pure (.bool false) (fun _ _ h => by first | rfl | kernel_rfl) ?_
            refine lx.o_end ?_
            simp only [lx.ov]
            rintro X d hd hC
            have HB7 := run.hid hC
            clear hC hd HB
            go_simp
            have HF := HB7
            clear HB7 HG
            go_wp2
            go_roundw
            case rel => exact ⟨2, by omega, by go_num, by show Bx _ _ _ _ _ _ _ _ _; rw [HNX.out, HS.out]; exact HF.out⟩
            case measure => simp [intOf]
        · clear hqc hq0 HG
          go_wp2
          go_roundw
          case rel => exact ⟨k + 1, by omega, by have := HYY.out; simp only [Value.int.injEq, true_and]; push_cast; omega, by show Bx _ _ _ _ _ _ _ _ _; rw [HNEXT.out]; exact HB.out⟩
          case measure => have := HYY.out; simp [intOf]; omega
    · obtain rfl : k = RH := by omega
      have HF := HB
      clear HB
      go_wp2
      first | go_end0 | (refine bodyPost_ret (results_none rfl _ _ _) rfl ?_)
      exact ⟨rfl, HF.out.buf, HF.out.grown⟩
end Go.Proofs.Ytinnggiohalifaa.cel
