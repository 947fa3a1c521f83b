/-
  The walks of helpers of the laws of layer canvas: alike.
-/
import Derived.Test.YtbfheehaagcmeaaDoorCanPts
import Derived.Deep.DeepCutAuto
namespace Go.Proofs.YtbfheehaagcmeaaDoor.can
open Go.RowKit Go.Proofs Go.Proofs.YtbfheehaagcmeaaDoor.flo
set_option linter.unusedVariables false

def alikeN (x y : Nat) : Bool := (D.order x y == some .eq) || (!numW D x && !numW D y)
def alikeC (p q : Nat × Nat) : Bool := alikeN p.1 q.1 && alikeN p.2 q.2
theorem alikeN_of {x y : Nat} (h : num x = num y) : alikeN x y = true := by
  unfold alikeN
  cases hx : numW D x with
  | false =>
    cases hy : numW D y with
    | false => simp
    | true => rw [num_none hx, num_some hy] at h; cases h
  | true =>
    cases hy : numW D y with
    | false => rw [num_none hy, num_some hx] at h; cases h
    | true =>
      rw [num_some hx, num_some hy] at h
      obtain rfl := Option.some.inj h
      have := order_self x
      rw [hx] at this
      simp only [Bool.not_true, bne_eq_false_iff_eq] at this
      rw [this]
      rfl
theorem alikeC_of {p q : Nat × Nat} (h : num2 p = num2 q) : alikeC p q = true := by
  unfold alikeC
  rw [alikeN_of (congrArg Prod.fst h), alikeN_of (congrArg Prod.snd h)]
  rfl

set_option maxHeartbeats 1000000 in
theorem alikeN_any (x y : Nat) (w : World) : Calls Tryd.prog 54 #[F x, F y] w fun e w' => e = .returned (.bool (alikeN x y)) ∧ w = w' := by
  have H1 := run.hid (order_self x)
  have H2 := run.hid (order_self y)
  unfold alikeN
  have e1 := bin_eql 45 x y
  have e2 := bin_neq 45 x x
  have e3 := bin_neq 45 y y
  rw [H1.out] at e2
  rw [H2.out] at e3
  generalize (D.order x y == some .eq) = b1 at *
  generalize (!numW D x) = b2 at *
  generalize (!numW D y) = b3 at *
  clear H1 H2
  go_enter Tryd.func54, Tryd.ntmps54
  cases b1 <;> cases b2 <;> cases b3
  all_goals
    go_wp2
    go_ret
    exact ⟨rfl, rfl⟩
set_option maxHeartbeats 1000000 in
theorem alike_any (p q : Nat × Nat) (w : World) : Calls Tryd.prog 35 #[C p, C q] w fun e w' => e = .returned (.bool (alikeC p q)) ∧ w = w' := by
  obtain ⟨p1, p2⟩ := p
  obtain ⟨q1, q2⟩ := q
  have H1 := run.hid (fun w => alikeN_any p1 q1 w)
  have H2 := run.hid (fun w => alikeN_any p2 q2 w)
  unfold alikeC
  simp only
  generalize alikeN p1 q1 = b1 at *
  generalize alikeN p2 q2 = b2 at *
  go_enter Tryd.func35, Tryd.ntmps35
  go_wp2_with fail
  refine (H1.out _).mono ?_
  rintro e w1 ⟨rfl, rfl⟩
  cases b1
  · go_wp2
    go_ret
    exact ⟨rfl, rfl⟩
  · go_wp2_with fail
    refine (H2.out _).mono ?_
    rintro e w1 ⟨rfl, rfl⟩
    go_wp2
    go_ret
    exact ⟨rfl, rfl⟩

def seven : Nat × Nat := (4619567317775286272, 0)
def nine : Nat × Nat := (4621256167635550208, 0)
theorem neq_seven (t : TypeId) : binOp .neq t (.complex .f64 4619567317775286272 0) (.complex .f64 4619567317775286272 0) = pure (.bool false) := by rfl
theorem neq_nine (t : TypeId) : binOp .neq t (.complex .f64 4621256167635550208 0) (.complex .f64 4621256167635550208 0) = pure (.bool false) := by rfl
end Go.Proofs.YtbfheehaagcmeaaDoor.can
