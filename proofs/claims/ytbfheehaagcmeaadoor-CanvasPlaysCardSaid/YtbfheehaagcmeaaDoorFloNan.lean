/-
  Floats up to which no-number it is: what the operations give whatever the operands are.
-/
import Derived.Test.YtbfheehaagcmeaaDoorFloB
namespace Go.Proofs.YtbfheehaagcmeaaDoor.can
open Go.RowKit Go.Proofs Go.Proofs.YtbfheehaagcmeaaDoor.flo
set_option linter.unusedVariables false

/-- a word's number; none: it is none -/
def num (x : Nat) : Option Nat := if numW D x then some x else none
def oop (op : BinOp) : Option Nat → Option Nat → Option Nat
  | some x, some y => floatBits op .f64 x y
  | _, _ => none
def arith3 (op : BinOp) : Prop := op = .add ∨ op = .sub ∨ op = .mul

theorem write_num {d : Ieee.Datum} (h : d.isNaN = false) : numW D (D.write d) = true := by
  have hs := inf_lt D
  have k : ∀ s r, r ≤ D.infRung → numW D (D.word s r) = true := fun s r hr => by
    unfold numW
    rw [(word_read D s (r := r) (by omega)).2]
    simpa using hr
  cases d with
  | number s m p => rw [show D.write (.number s m p) = D.nearest s m p from rfl, nearest_eq]; exact k _ _ (nr_inf D _ _)
  | infinity s => exact k _ _ (Nat.le_refl _)
  | nan s t => cases h
theorem sum_num {a b d : Ieee.Datum} (h : a.sum b = some d) : d.isNaN = false := by
  unfold Ieee.Datum.sum at h
  split at h
  · cases h
  · cases h
  · split at h
    · cases h; rfl
    · cases h
  · cases h; rfl
  · cases h; rfl
  · cases h; rfl
theorem product_num {a b d : Ieee.Datum} (h : a.product b = some d) : d.isNaN = false := by
  unfold Ieee.Datum.product at h
  split at h
  · cases h
  · cases h
  · cases h; rfl
  · split at h
    · cases h
    · cases h; rfl
  · split at h
    · cases h
    · cases h; rfl
  · cases h; rfl
theorem fop_num {op : BinOp} (ho : arith3 op) {x y r : Nat} (h : floatBits op .f64 x y = some r) : numW D r = true := by
  rcases ho with rfl | rfl | rfl
  · obtain ⟨d, hd, rfl⟩ := Option.map_eq_some_iff.1 (show ((D.read x).sum (D.read y)).map D.write = some r from h)
    exact write_num (sum_num hd)
  · obtain ⟨d, hd, rfl⟩ := Option.map_eq_some_iff.1 (show ((D.read x).sum (D.read y).opposite).map D.write = some r from h)
    exact write_num (sum_num hd)
  · obtain ⟨d, hd, rfl⟩ := Option.map_eq_some_iff.1 (show ((D.read x).product (D.read y)).map D.write = some r from h)
    exact write_num (product_num hd)
theorem nan_read {x : Nat} (h : numW D x = false) : ∃ s t, D.read x = .nan s t := by
  unfold numW at h
  obtain ⟨t, ht⟩ := read_nan D hfD (x := x) (by simpa using h)
  exact ⟨_, t, ht⟩
theorem sum_nan (a : Ieee.Datum) (s : Bool) (t : Nat) : a.sum (.nan s t) = none := by cases a <;> rfl
theorem product_nan (a : Ieee.Datum) (s : Bool) (t : Nat) : a.product (.nan s t) = none := by cases a <;> rfl
theorem fop_nan {op : BinOp} (ho : arith3 op) {x y : Nat} (h : numW D x = false ∨ numW D y = false) : floatBits op .f64 x y = none := by
  rcases h with h | h
  · obtain ⟨s, t, hr⟩ := nan_read h
    rcases ho with rfl | rfl | rfl
    · show ((D.read x).sum (D.read y)).map D.write = none
      rw [hr]; rfl
    · show ((D.read x).sum (D.read y).opposite).map D.write = none
      rw [hr]; rfl
    · show ((D.read x).product (D.read y)).map D.write = none
      rw [hr]; rfl
  · obtain ⟨s, t, hr⟩ := nan_read h
    rcases ho with rfl | rfl | rfl
    · show ((D.read x).sum (D.read y)).map D.write = none
      rw [hr, sum_nan]; rfl
    · show ((D.read x).sum (D.read y).opposite).map D.write = none
      rw [hr, show (Ieee.Datum.nan s t).opposite = .nan (!s) t from rfl, sum_nan]; rfl
    · show ((D.read x).product (D.read y)).map D.write = none
      rw [hr, product_nan]; rfl
theorem nan_cut (x y t : Nat) : numW D (Question.cut (.nanBits .f64 x y) t) = false ∧ Question.cut (.nanBits .f64 x y) t < 18446744073709551616 := by
  show numW D ((t % 2) * 2 ^ 63 + 0x7ff0000000000000 + 1 + (t / 2) % (2 ^ 52 - 1)) = false ∧ (t % 2) * 2 ^ 63 + 0x7ff0000000000000 + 1 + (t / 2) % (2 ^ 52 - 1) < _
  have e1 : D.signWeight = 9223372036854775808 := by decide
  have e2 : D.infRung = 9218868437227405312 := by decide
  have e3 : (2 : Nat) ^ 63 = 9223372036854775808 := by decide
  have e4 : (2 : Nat) ^ 52 - 1 = 4503599627370495 := by decide
  unfold numW rungW
  rw [e1, e2, e3, e4]
  have h2 : t % 2 < 2 := Nat.mod_lt _ (by omega)
  have h3 : t / 2 % 4503599627370495 < 4503599627370495 := Nat.mod_lt _ (by omega)
  generalize t % 2 = a at *
  generalize t / 2 % 4503599627370495 = b at *
  constructor
  · simp only [decide_eq_false_iff_not]
    omega
  · omega
theorem num_some {x : Nat} (h : numW D x = true) : num x = some x := by unfold num; rw [if_pos h]
theorem num_none {x : Nat} (h : numW D x = false) : num x = none := by unfold num; rw [h]; rfl
theorem oop_num {op : BinOp} (ho : arith3 op) (x y : Nat) : oop op (num x) (num y) = floatBits op .f64 x y := by
  cases hx : numW D x with
  | false => rw [num_none hx, fop_nan ho (.inl hx)]; rfl
  | true =>
    cases hy : numW D y with
    | false => rw [num_none hy, fop_nan ho (.inr hy), num_some hx]; rfl
    | true => rw [num_some hx, num_some hy]; rfl

/-- WHAT AN OPERATION GIVES: the number, or any no-number; the bits fit. -/
theorem run_fop {P : Program} {op : BinOp} (ho : arith3 op) (x y : Nat) (w : World) : ∃ r n, (Op.floatArith op .f64 x y).run P w = .ok (.float .f64 r) (w.drewN n) ∧ num r = oop op (num x) (num y) ∧ r < 18446744073709551616 := by
  rw [oop_num ho]
  cases h : floatBits op .f64 x y with
  | some r =>
    refine ⟨r, 0, ?_, num_some (fop_num ho h), ?_⟩
    · have := run_float_arith (P := P) w op 0 .f64 x y r h
      rcases ho with rfl | rfl | rfl <;> exact this
    · have := floatBits_wf h
      simpa [Lit.wf] using this
  | none =>
    refine ⟨Question.cut (.nanBits .f64 x y) (w.tape w.drawn (.nanBits .f64 x y)), 1, ?_, num_none (nan_cut x y _).1, (nan_cut x y _).2⟩
    unfold floatBits at h
    rcases ho with rfl | rfl | rfl <;> simp only at h <;> simp only [Op.floatArith, h, Sem.run_bind, Sem.run_pure, Result.andThen_ok, run_choose_drew] <;> rfl
theorem run_carithA {P : Program} {op : BinOp} (ho : arith3 op) (x y : Nat) (w : World) : ∃ r n, (Op.Complex.arith op .f64 x y).run P w = .ok r (w.drewN n) ∧ num r = oop op (num x) (num y) ∧ r < 18446744073709551616 := by
  obtain ⟨r, n, h1, h2, h3⟩ := run_fop (P := P) ho x y w
  refine ⟨r, n, ?_, h2, h3⟩
  unfold Op.Complex.arith
  rw [Sem.run_bind, h1]
  rfl
theorem bin_fop {P : Program} {op : BinOp} (ho : arith3 op) (t : TypeId) (x y : Nat) (w : World) : ∃ r n, (binOp op t (F x) (F y)).run P w = .ok (F r) (w.drewN n) ∧ num r = oop op (num x) (num y) ∧ r < 18446744073709551616 := by
  have h := run_fop (P := P) ho x y w
  rcases ho with rfl | rfl | rfl <;> exact h
theorem bin_csum {P : Program} {op : BinOp} (ho : op = .add ∨ op = .sub) (t : TypeId) (a b c d : Nat) (w : World) : ∃ r i n, (binOp op t (.complex .f64 a b) (.complex .f64 c d)).run P w = .ok (.complex .f64 r i) (w.drewN n) ∧ num r = oop op (num a) (num c) ∧ num i = oop op (num b) (num d) ∧ r < 18446744073709551616 ∧ i < 18446744073709551616 := by
  have ho3 : arith3 op := ho.elim .inl (fun h => .inr (.inl h))
  obtain ⟨r, n, h1, h2, h3⟩ := run_carithA (P := P) ho3 a c w
  obtain ⟨i, m, g1, g2, g3⟩ := run_carithA (P := P) ho3 b d (w.drewN n)
  refine ⟨r, i, n + m, ?_, h2, g2, h3, g3⟩
  rcases ho with rfl | rfl
  all_goals
    simp only [binOp, Op.complexOp, ne_eq, not_true_eq_false, if_false, Sem.run_bind, h1, Result.andThen_ok, g1, Sem.run_pure, World.drewN_drewN]
end Go.Proofs.YtbfheehaagcmeaaDoor.can
