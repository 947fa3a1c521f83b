/-
  The walks of the functions of package math that the layer canvas calls; floating-point operations as equations.
-/
import Derived.Test.YtbfheehaagcmeaaDoorFloSpark
import Derived.Test.YtbfheehaagcmeaaDoorCanRows
import Derived.Laws.FloatArith
namespace Go.Proofs.YtbfheehaagcmeaaDoor.can
open Go.RowKit Go.Proofs Go.Proofs.YtbfheehaagcmeaaDoor.flo
set_option linter.unusedVariables false

abbrev F (x : Nat) : Value := .float .f64 x
theorem bin_neq (t : TypeId) (x y : Nat) : binOp .neq t (F x) (F y) = pure (.bool (D.order x y != some .eq)) := rfl
theorem bin_eql (t : TypeId) (x y : Nat) : binOp .eql t (F x) (F y) = pure (.bool (D.order x y == some .eq)) := rfl
theorem bin_gtr (t : TypeId) (x y : Nat) : binOp .gtr t (F x) (F y) = pure (.bool (D.order x y == some .gt)) := rfl
theorem bin_lss (t : TypeId) (x y : Nat) : binOp .lss t (F x) (F y) = pure (.bool (D.order x y == some .lt)) := rfl
theorem bin_geq (t : TypeId) (x y : Nat) : binOp .geq t (F x) (F y) = pure (.bool (D.order x y == some .gt || D.order x y == some .eq)) := rfl
theorem bin_quo (t : TypeId) {x y r : Nat} (h : D.div x y = some r) : binOp .quo t (F x) (F y) = pure (F r) := by
  have h' : FloatKind.f64.format.div x y = some r := h
  show Op.floatArith .quo .f64 x y = _
  unfold Op.floatArith
  simp only [h']
  rfl
theorem bin_sub (t : TypeId) {x y r : Nat} (h : D.sub x y = some r) : binOp .sub t (F x) (F y) = pure (F r) := by
  have h' : FloatKind.f64.format.sub x y = some r := h
  show Op.floatArith .sub .f64 x y = _
  unfold Op.floatArith
  simp only [h']
  rfl
theorem bin_mul (t : TypeId) {x y r : Nat} (h : D.mul x y = some r) : binOp .mul t (F x) (F y) = pure (F r) := by
  have h' : FloatKind.f64.format.mul x y = some r := h
  show Op.floatArith .mul .f64 x y = _
  unfold Op.floatArith
  simp only [h']
  rfl
theorem bin_add (t : TypeId) {x y r : Nat} (h : D.add x y = some r) : binOp .add t (F x) (F y) = pure (F r) := by
  have h' : FloatKind.f64.format.add x y = some r := h
  show Op.floatArith .add .f64 x y = _
  unfold Op.floatArith
  simp only [h']
  rfl

def MAXF : Nat := 9218868437227405311
def PINF : Nat := 9218868437227405312
def NINF : Nat := 18442240474082181120

theorem order_self (x : Nat) : (D.order x x != some .eq) = !numW D x := by
  cases h : numW D x with
  | false => rw [order_nan D hfD (.inl h)]; rfl
  | true =>
    rw [order_key D hfD h h, cmp_def, if_neg (by omega), if_pos rfl]; rfl
theorem num_max : numW D MAXF = true := by decide +kernel
theorem key_max : key D MAXF = (D.infRung : Int) - 1 := by decide +kernel
/-- no infinity above -/
def pinfW (x : Nat) : Bool := rungW D x == D.infRung && !negW D x
def ninfW (x : Nat) : Bool := rungW D x == D.infRung && negW D x
theorem order_max (x : Nat) : (D.order x MAXF == some .gt) = pinfW x := by
  cases h : numW D x with
  | false =>
    rw [order_nan D hfD (.inl h)]
    unfold numW at h
    have h1 : rungW D x ≠ D.infRung := by simp at h; omega
    have h2 : (rungW D x == D.infRung) = false := by simpa using h1
    unfold pinfW; rw [h2]; rfl
  | true =>
    rw [order_key D hfD h num_max, key_max, cmp_def]
    have h0 : rungW D x ≤ D.infRung := by simpa [numW] using h
    unfold pinfW key sg
    have h3 : 0 < D.infRung := by decide +kernel
    cases negW D x
    · simp only [Bool.false_eq_true, if_false, Bool.not_false, Bool.and_true]
      by_cases e : rungW D x = D.infRung
      · rw [if_neg (by omega), if_neg (by omega)]; simp [e]
      · have e2 : (rungW D x == D.infRung) = false := by simpa using e
        rw [e2]
        by_cases e3 : (rungW D x : Int) < (D.infRung : Int) - 1
        · rw [if_pos e3]; rfl
        · rw [if_neg e3, if_pos (by omega)]; rfl
    · simp only [if_true, Bool.not_true, Bool.and_false]
      by_cases e3 : -(rungW D x : Int) < (D.infRung : Int) - 1
      · rw [if_pos e3]; rfl
      · have h4 : 1 < D.infRung := by decide +kernel
        omega

theorem neg_word {x : Nat} (hx : x < 18446744073709551616) : negW D (x ^^^ 2 ^ 63) = !negW D x ∧ rungW D (x ^^^ 2 ^ 63) = rungW D x := by
  have e : D.signWeight = 2 ^ 63 := by decide +kernel
  unfold negW rungW
  rw [e]
  have h1 : (x ^^^ 2 ^ 63) % 2 ^ 63 = x % 2 ^ 63 := by
    rw [Nat.xor_mod_two_pow, Nat.mod_self, Nat.xor_zero]
  have h2 : (x ^^^ 2 ^ 63) / 2 ^ 63 = (x / 2 ^ 63) ^^^ 1 := by
    rw [Nat.xor_div_two_pow, Nat.div_self (Nat.two_pow_pos 63)]
  refine ⟨?_, h1⟩
  rw [h2]
  have h3 : x / 2 ^ 63 = 0 ∨ x / 2 ^ 63 = 1 := by omega
  rcases h3 with h3 | h3 <;> rw [h3] <;> rfl
theorem abs_word {x : Nat} (hx : x < 18446744073709551616) : bits .andNot .u64 (x : Int) 9223372036854775808 = ((x % 2 ^ 63 : Nat) : Int) := by
  have h := u64_andNot_nat x 9223372036854775808 hx (by decide)
  have e : x &&& (18446744073709551615 - 9223372036854775808) = x % 2 ^ 63 := Nat.and_two_pow_sub_one_eq_mod x 63
  rw [e] at h
  exact h
theorem abs_pinf (x : Nat) : pinfW (x % 2 ^ 63) = (rungW D x == D.infRung) := by
  have e : D.signWeight = 2 ^ 63 := by decide +kernel
  unfold pinfW negW rungW
  rw [e, Nat.mod_mod, Nat.div_eq_of_lt (Nat.mod_lt _ (Nat.two_pow_pos 63))]
  simp

theorem call_bits (x : Nat) (w : World) : (callFunc 70 #[F x]).run Tryd.prog w = .ok (.value (.int .u64 x)) w := by
  rw [run_callFunc_extern Tryd.func70 (by kernel_rfl) (by kernel_rfl) (by kernel_rfl) (e := Extern.MathFloatBits.float64bits) (by kernel_rfl)]; rfl
theorem call_frombits (n : Int) (w : World) : (callFunc 61 #[.int .u64 n]).run Tryd.prog w = .ok (.value (F n.toNat)) w := by
  rw [run_callFunc_extern Tryd.func61 (by kernel_rfl) (by kernel_rfl) (by kernel_rfl) (e := Extern.MathFloatBits.float64frombits) (by kernel_rfl)]; rfl

set_option maxRecDepth 100000 in
set_option maxHeartbeats 400000 in
theorem isnan_any (x : Nat) (w : World) : Calls Tryd.prog 47 #[F x] w fun e w' => e = .returned (.bool (!numW D x)) ∧ w = w' := by
  have E := bin_neq 45 x x
  rw [order_self] at E
  go_enter Tryd.func47, Tryd.ntmps47
  go_wp2
  go_ret
  exact ⟨rfl, rfl⟩

set_option maxRecDepth 100000 in
set_option maxHeartbeats 400000 in
theorem abs_any (x : Nat) (w : World) (hx : x < 18446744073709551616) : Calls Tryd.prog 62 #[F x] w fun e w' => e = .returned (F (x % 2 ^ 63)) ∧ w = w' := by
  have E := abs_word hx
  obtain ⟨y, hy⟩ : ∃ y, y = x % 2 ^ 63 := ⟨_, rfl⟩
  rw [← hy] at E ⊢
  clear hy
  have K1 := call_bits x
  have K2 := call_frombits (y : Int)
  rw [Int.toNat_natCast] at K2
  go_enter Tryd.func62, Tryd.ntmps62
  go_wp2
  go_ret
  exact ⟨rfl, rfl⟩

set_option maxRecDepth 100000 in
set_option maxHeartbeats 400000 in
theorem isinf_any (x : Nat) (w : World) (hx : x < 18446744073709551616) : Calls Tryd.prog 48 #[F x, .int .i64 0] w fun e w' => e = .returned (.bool (rungW D x == D.infRung)) ∧ w = w' := by
  have E := bin_gtr 45 (x % 2 ^ 63) MAXF
  rw [order_max, abs_pinf] at E
  have HA := run.hid (abs_any x w hx)
  obtain ⟨y, hy⟩ : ∃ y, y = x % 2 ^ 63 := ⟨_, rfl⟩
  rw [← hy] at E HA
  clear hy
  unfold MAXF at E
  generalize (rungW D x == D.infRung) = b at *
  go_enter Tryd.func48, Tryd.ntmps48
  go_wp2_with fail
  refine HA.out.mono ?_
  rintro e w' ⟨rfl, rfl⟩
  go_wp2
  go_ret
  exact ⟨rfl, rfl⟩
set_option maxRecDepth 100000 in
set_option maxHeartbeats 400000 in
theorem isinf_up (x : Nat) (w : World) : Calls Tryd.prog 48 #[F x, .int .i64 1] w fun e w' => e = .returned (.bool (pinfW x)) ∧ w = w' := by
  have E := bin_gtr 45 x MAXF
  rw [order_max] at E
  unfold MAXF at E
  generalize pinfW x = b at *
  go_enter Tryd.func48, Tryd.ntmps48
  go_wp2
  go_ret
  exact ⟨rfl, rfl⟩
set_option maxRecDepth 100000 in
set_option maxHeartbeats 400000 in
theorem isinf_down (x : Nat) (w : World) (hx : x < 18446744073709551616) : Calls Tryd.prog 48 #[F x, .int .i64 (-1)] w fun e w' => e = .returned (.bool (ninfW x)) ∧ w = w' := by
  have E := bin_gtr 45 (x ^^^ 2 ^ 63) MAXF
  have e1 : pinfW (x ^^^ 2 ^ 63) = ninfW x := by
    unfold pinfW ninfW
    rw [(neg_word hx).1, (neg_word hx).2, Bool.not_not]
  rw [order_max, e1] at E
  have E2 : Op.unary .neg (F x) = pure (F (x ^^^ 2 ^ 63)) := rfl
  unfold MAXF at E
  obtain ⟨y, hy⟩ : ∃ y, y = x ^^^ 2 ^ 63 := ⟨_, rfl⟩
  rw [← hy] at E E2
  clear hy e1
  generalize ninfW x = b at *
  go_enter Tryd.func48, Tryd.ntmps48
  go_wp2
  go_ret
  exact ⟨rfl, rfl⟩
set_option maxRecDepth 100000 in
set_option maxHeartbeats 400000 in
theorem inf_up (w : World) : Calls Tryd.prog 46 #[.int .i64 1] w fun e w' => e = .returned (F PINF) ∧ w = w' := by
  have K := call_frombits 9218868437227405312
  go_enter Tryd.func46, Tryd.ntmps46
  go_wp2
  go_ret
  exact ⟨rfl, rfl⟩
set_option maxRecDepth 100000 in
set_option maxHeartbeats 400000 in
theorem inf_down (w : World) : Calls Tryd.prog 46 #[.int .i64 (-1)] w fun e w' => e = .returned (F NINF) ∧ w = w' := by
  have K := call_frombits 18442240474082181120
  go_enter Tryd.func46, Tryd.ntmps46
  go_wp2
  go_ret
  exact ⟨rfl, rfl⟩

end Go.Proofs.YtbfheehaagcmeaaDoor.can
