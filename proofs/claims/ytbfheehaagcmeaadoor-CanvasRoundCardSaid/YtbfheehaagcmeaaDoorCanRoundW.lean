/-
  The operations of CanvasRound's drawn region (XLexV), and what a number less itself is.
-/
import Derived.Test.YtbfheehaagcmeaaDoorCanRoundP
import Derived.Test.YtbfheehaagcmeaaDoorLexV
namespace Go.Proofs.YtbfheehaagcmeaaDoor.can
open Go.RowKit Go.Proofs Go.Proofs.YtbfheehaagcmeaaDoor.flo
set_option linter.unusedVariables false

section
variable {o : Oper} {ρ : Operand → Value} {w : World}
theorem c_move {p : Operand} {v : Value} (ho : o.op = .move p) (hx : ρ p = v) : (execOp ρ o).run Tryd.prog w = .ok (.value v) w := by
  unfold execOp
  simp only [ho, hx]
  rfl
theorem c_real {x : Operand} {p q : Nat} (ho : o.op = .call { callee := .builtin .real, args := #[x], argTypes := #[44] }) (hx : ρ x = .complex .f64 p q) : (execOp ρ o).run Tryd.prog w = .ok (.value (.float .f64 p)) w := by
  unfold execOp
  simp [ho, resolve, hx, invoke, go_sem]
theorem c_imag {x : Operand} {p q : Nat} (ho : o.op = .call { callee := .builtin .imag, args := #[x], argTypes := #[44] }) (hx : ρ x = .complex .f64 p q) : (execOp ρ o).run Tryd.prog w = .ok (.value (.float .f64 q)) w := by
  unfold execOp
  simp [ho, resolve, hx, invoke, go_sem]
theorem c_pick {c t e : Operand} {b : Bool} {v : Value} (ho : o.op = .pick c t e) (hc : ρ c = .bool b) (hv : (if b then ρ t else ρ e) = v) : (execOp ρ o).run Tryd.prog w = .ok (.value v) w := by
  unfold execOp
  simp only [ho, hc]
  cases b <;> simp at hv <;> simp [go_sem, hv]
theorem c_sub {t t' : TypeId} {p q : Operand} {x y : Nat} (ho : o.op = .binOp .sub t p q t') (hx : ρ p = .float .f64 x) (hy : ρ q = .float .f64 y) : ∃ r n, (execOp ρ o).run Tryd.prog w = .ok (.value (.float .f64 r)) (w.drewN n) ∧ num r = oop .sub (num x) (num y) := by
  obtain ⟨r, n, h1, h2, -⟩ := bin_fop (P := Tryd.prog) o3s t x y w
  refine ⟨r, n, ?_, h2⟩
  unfold execOp
  simp only [ho, hx, hy]
  simp only [eqGuard, go_sem, Bool.not_false, if_true]
  simp [h1, go_sem]
theorem c_subC {t t' : TypeId} {p q : Operand} {x y : Nat} {wr : World} (ho : o.op = .binOp .sub t p q t') (hx : ρ p = .float .f64 x) (hy : ρ q = .float .f64 y) (hc : ∃ k, w = wr.drewN k) :
    ∃ v w', (execOp ρ o).run Tryd.prog w = .ok (.value v) w' ∧ (∃ r, v = .float .f64 r ∧ num r = oop .sub (num x) (num y)) ∧ ∃ k, w' = wr.drewN k := by
  obtain ⟨k, rfl⟩ := hc
  obtain ⟨r, n, h1, h2⟩ := c_sub (w := wr.drewN k) ho hx hy
  exact ⟨_, _, h1, ⟨r, rfl, h2⟩, ⟨k + n, by rw [World.drewN_drewN]⟩⟩
theorem c_eql {t t' : TypeId} {p q : Operand} {x y : Nat} {b : Bool} (ho : o.op = .binOp .eql t p q t') (hx : ρ p = .float .f64 x) (hy : ρ q = .float .f64 y) (hb : (D.order x y == some .eq) = b) : (execOp ρ o).run Tryd.prog w = .ok (.value (.bool b)) w := by
  unfold execOp
  simp only [ho, hx, hy, bin_eql, hb]
  simp [eqGuard, go_sem]
theorem c_neq {t t' : TypeId} {p q : Operand} {x y x' y' : Nat} (ho : o.op = .binOp .neq t p q t') (hx : ρ p = .complex .f64 x y) (hy : ρ q = .complex .f64 x' y') (h1 : D.order x x' = some .eq) (h2 : D.order y y' = some .eq) : (execOp ρ o).run Tryd.prog w = .ok (.value (.bool false)) w := by
  unfold execOp
  simp only [ho, hx, hy, show binOp .neq t (.complex .f64 x y) (.complex .f64 x' y') = pure (.bool (!(D.order x x' == some .eq && D.order y y' == some .eq))) from rfl, h1, h2]
  simp [eqGuard, go_sem]
end
theorem less_fin {x r : Nat} (h : finW D x = true) (hr : num r = oop .sub (num x) (num x)) : (D.order r 0 == some .eq) = true := by
  have f := finO_sub (finO_num h) (finO_num h) (by rw [Int.sub_self]; exact ⟨0, infPos, by rw [V_zero]; rfl⟩)
  rw [Int.sub_self, ← hr] at f
  obtain ⟨y, hy, hyf, hyv⟩ := f
  have hn : numW D r = true ∧ y = r := by
    unfold num at hy
    split at hy
    · rename_i hn; simp at hy; exact ⟨hn, hy.symm⟩
    · cases hy
  obtain ⟨n1, rfl⟩ := hn
  rw [order_key D hfD n1 (fin_num fin_zero.1), key_val (hyv.trans fin_zero.2.symm), cmp_def, if_neg (by omega), if_pos rfl]
  rfl
theorem less_not {x r : Nat} (h : finW D x = false) (hr : num r = oop .sub (num x) (num x)) : (D.order r 0 == some .eq) = false := by
  have e : oop .sub (num x) (num x) = none := by
    rw [oop_num o3s]
    cases hn : numW D x with
    | false => exact fop_nan o3s (.inl hn)
    | true =>
      have hi : rungW D x = D.infRung := by
        unfold finW at h
        unfold numW at hn
        simp only [decide_eq_false_iff_not, decide_eq_true_eq] at h hn
        omega
      show ((D.read x).sum (D.read x).opposite).map D.write = none
      rw [read_inf D hfD hi]
      cases negW D x <;> rfl
  rw [e] at hr
  have hn : numW D r = false := by
    unfold num at hr
    split at hr
    · cases hr
    · rename_i hn; simpa using hn
  rw [order_nan D hfD (.inl hn)]
  rfl
end Go.Proofs.YtbfheehaagcmeaaDoor.can
