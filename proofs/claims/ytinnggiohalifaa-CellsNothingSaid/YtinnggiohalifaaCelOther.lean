/-
  The other half of a pair (other), and comparisons, for the law CellsNothing.
-/
import Derived.Test.YtinnggiohalifaaCelS
import Derived.Test.YtinnggiohalifaaLxS
namespace Go.Proofs.Ytinnggiohalifaa.cel
open Go Go.RowKit Go.Proofs
set_option linter.unusedVariables false
section
variable {o : Oper} {ρ : Operand → Value} {w : World} {p q : Operand} {t t' : TypeId}
theorem run_rem2 {x y : Int} (ho : o.op = .binOp .rem t p q t') (hx : ρ p = .int .i64 x) (hy : ρ q = .int .i64 y) (h0 : y ≠ 0) (hb : -9223372036854775808 ≤ Int.tmod x y ∧ Int.tmod x y ≤ 9223372036854775807) : (execOp ρ o).run Try.prog w = .ok (.value (.int .i64 (Int.tmod x y))) w := by
  have h1 := IntWalk.i64_in _ hb
  unfold execOp
  simp only [ho, hx, hy]
  simp [go_sem, h0]
theorem run_quo2 {x y : Int} (ho : o.op = .binOp .quo t p q t') (hx : ρ p = .int .i64 x) (hy : ρ q = .int .i64 y) (h0 : y ≠ 0) (hb : -9223372036854775808 ≤ Int.tdiv x y ∧ Int.tdiv x y ≤ 9223372036854775807) : (execOp ρ o).run Try.prog w = .ok (.value (.int .i64 (Int.tdiv x y))) w := by
  have h1 := IntWalk.i64_in _ hb
  unfold execOp
  simp only [ho, hx, hy]
  simp [go_sem, h0, h1]
theorem run_remn {k W : Nat} (ho : o.op = .binOp .rem t p q t') (hx : ρ p = .int .i64 (k : Nat)) (hy : ρ q = .int .i64 (W : Nat)) (hW : 0 < W) (hk : k ≤ 1048576) : (execOp ρ o).run Try.prog w = .ok (.value (.int .i64 ((k % W : Nat) : Int))) w := by
  have h1 : Int.tmod (k : Int) (W : Int) = ((k % W : Nat) : Int) := rfl
  have h2 := Nat.mod_le k W
  rw [← h1]
  refine run_rem2 ho hx hy (by omega) ?_
  rw [h1]
  generalize k % W = m at *
  omega
theorem run_quon {k W : Nat} (ho : o.op = .binOp .quo t p q t') (hx : ρ p = .int .i64 (k : Nat)) (hy : ρ q = .int .i64 (W : Nat)) (hW : 0 < W) (hk : k ≤ 1048576) : (execOp ρ o).run Try.prog w = .ok (.value (.int .i64 ((k / W : Nat) : Int))) w := by
  have h1 : Int.tdiv (k : Int) (W : Int) = ((k / W : Nat) : Int) := rfl
  have h2 := Nat.div_le_self k W
  rw [← h1]
  refine run_quo2 ho hx hy (by omega) ?_
  rw [h1]
  generalize k / W = m at *
  omega
theorem run_geqn {x y : Int} (ho : o.op = .binOp .geq t p q t') (hx : ρ p = .int .i64 x) (hy : ρ q = .int .i64 y) : (execOp ρ o).run Try.prog w = .ok (.value (.bool (decide (y ≤ x)))) w := by
  unfold execOp
  simp only [ho, hx, hy]
  simp [go_sem]
theorem run_leqn {x y : Int} (ho : o.op = .binOp .leq t p q t') (hx : ρ p = .int .i64 x) (hy : ρ q = .int .i64 y) : (execOp ρ o).run Try.prog w = .ok (.value (.bool (decide (x ≤ y)))) w := by
  unfold execOp
  simp only [ho, hx, hy]
  simp [go_sem]
theorem run_geqn_t {x y : Int} (ho : o.op = .binOp .geq t p q t') (hx : ρ p = .int .i64 x) (hy : ρ q = .int .i64 y) (h : y ≤ x) : (execOp ρ o).run Try.prog w = .ok (.value (.bool true)) w := by rw [run_geqn ho hx hy, decide_eq_true h]
theorem run_geqn_f {x y : Int} (ho : o.op = .binOp .geq t p q t') (hx : ρ p = .int .i64 x) (hy : ρ q = .int .i64 y) (h : ¬ y ≤ x) : (execOp ρ o).run Try.prog w = .ok (.value (.bool false)) w := by rw [run_geqn ho hx hy, decide_eq_false h]
theorem run_leqn_t {x y : Int} (ho : o.op = .binOp .leq t p q t') (hx : ρ p = .int .i64 x) (hy : ρ q = .int .i64 y) (h : x ≤ y) : (execOp ρ o).run Try.prog w = .ok (.value (.bool true)) w := by rw [run_leqn ho hx hy, decide_eq_true h]
theorem run_leqn_f {x y : Int} (ho : o.op = .binOp .leq t p q t') (hx : ρ p = .int .i64 x) (hy : ρ q = .int .i64 y) (h : ¬ x ≤ y) : (execOp ρ o).run Try.prog w = .ok (.value (.bool false)) w := by rw [run_leqn ho hx hy, decide_eq_false h]
theorem run_eqcell_t {s s' : CV} (ho : o.op = .binOp .eql 44 p q 44) (hx : ρ p = s.val) (hy : ρ q = s'.val) (h : s = s') : (execOp ρ o).run Try.prog w = .ok (.value (.bool true)) w := by rw [run_eqcell ho hx hy, decide_eq_true h]
theorem run_eqcell_f {s s' : CV} (ho : o.op = .binOp .eql 44 p q 44) (hx : ρ p = s.val) (hy : ρ q = s'.val) (h : s ≠ s') : (execOp ρ o).run Try.prog w = .ok (.value (.bool false)) w := by rw [run_eqcell ho hx hy, decide_eq_false h]
end

set_option maxRecDepth 100000 in
set_option maxHeartbeats 1000000 in
theorem other_any (a : Option Addr) (cap : Nat) (L : List CV) (k : Nat) (w : World) (hR : Reads5 w (.slice a L.length cap) L) (hk : k < L.length) (hk2 : k ≤ 1048576) :
    Calls Try.prog 41 #[.slice a L.length cap, .int .i64 (k : Nat)] w fun e w' => e = .returned (.int .i64 (if (gf L k).wide = 0 then (k : Int) - 1 else if (gf L k).wide = 2 then (k : Int) + 1 else k)) ∧ Below w.heap.size w w' := by
  obtain ⟨it, hinf, -, hsz, -⟩ := info_parts info_cell
  obtain ⟨b, off, rfl, hb, -, h1, -⟩ := reads_cell hR hk
  change w.cell? _ = some (.int .i8 (gf L k).wide) at h1
  have hk3 : (k : Int) ≤ 1048576 := by omega
  generalize (gf L k).wide = wd at *
  generalize L.length = N at *
  clear hR
  have hBR := run.hid (Below.refl w.heap.size w)
  by_cases e0 : wd = 0
  · subst e0
    go_enter Try.func41, Try.ntmps41
    go_wp2
    go_ret
    exact ⟨by simp, hBR.out⟩
  · by_cases e2 : wd = 2
    · subst e2
      go_enter Try.func41, Try.ntmps41
      go_wp2
      go_ret
      exact ⟨by simp, hBR.out⟩
    · go_enter Try.func41, Try.ntmps41
      go_wp2
      go_ret
      exact ⟨by first | rfl | simp, hBR.out⟩
end Go.Proofs.Ytinnggiohalifaa.cel
