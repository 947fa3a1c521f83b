/-
  Division of numbers of two words.
-/
import Derived.Test.YtbfheehaagcmeaaDoorCanDotA
import Derived.Test.YtbfheehaagcmeaaDoorShelf
import Derived.Laws.ShiftsVar
import Derived.Deep.DeepCutAuto
import Derived.Deep.CutBlock
import Derived.Lib.ItoaNum
namespace Go.Proofs.YtbfheehaagcmeaaDoor.can

/-- one digit to the base B, guessed: its guess still q, what is left r -/
def Guess (B u v y1 y0 q r : Nat) : Prop := q * y1 + r = u ∧ (u * B + v) / (y1 * B + y0) ≤ q ∧ q ≤ B + 1

theorem digit_lt {B u v y1 y0 : Nat} (hu : u < y1 * B + y0) (hv : v < B) : (u * B + v) / (y1 * B + y0) < B := by
  rw [Nat.div_lt_iff_lt_mul (by omega), Nat.mul_comm B]
  have := Nat.mul_le_mul_right B (show u + 1 ≤ y1 * B + y0 by omega)
  rw [Nat.add_mul, Nat.one_mul] at this
  omega

theorem guess_start {B u v y1 y0 : Nat} (hu : u < y1 * B + y0) (hv : v < B) (h1 : B ≤ 2 * y1) (h0 : y0 < B) : Guess B u v y1 y0 (u / y1) (u % y1) := by
  refine ⟨?_, ?_, ?_⟩
  · rw [Nat.mul_comm]; exact Nat.div_add_mod u y1
  · rw [Nat.div_le_iff_le_mul_add_pred (by omega)]
    have hd := Nat.div_add_mod u y1
    have hm := Nat.mod_lt u (show 0 < y1 by omega)
    generalize u / y1 = q at *
    generalize u % y1 = r at *
    have e : (y1 * B + y0) * q = y1 * q * B + y0 * q := by rw [Nat.add_mul]; congr 1; rw [Nat.mul_right_comm]
    have e2 : u * B = y1 * q * B + r * B := by rw [← hd, Nat.add_mul]
    have e3 : r * B + B ≤ y1 * B := by have := Nat.mul_le_mul_right B (show r + 1 ≤ y1 by omega); rwa [Nat.add_mul, Nat.one_mul] at this
    rw [e, e2]
    have h2 : 0 ≤ y0 * q := Nat.zero_le _
    omega
  · have h2 : u / y1 < B + 2 := by
      rw [Nat.div_lt_iff_lt_mul (by omega), Nat.add_mul, Nat.mul_comm B]
      omega
    omega

theorem mul_split (B q y1 y0 : Nat) : q * (y1 * B + y0) = q * y1 * B + q * y0 := by rw [Nat.mul_add, Nat.mul_assoc]

/-- the guess is too high -/
theorem guess_high {B u v y1 y0 q r : Nat} (h : Guess B u v y1 y0 q r) (hu : u < y1 * B + y0) (hv : v < B) (hc : B ≤ q ∨ r * B + v < q * y0) : 1 ≤ q ∧ Guess B u v y1 y0 (q - 1) (r + y1) ∧ q - 1 ≤ B := by
  obtain ⟨h1, h2, h3⟩ := h
  have hq : (u * B + v) / (y1 * B + y0) < q := by
    rcases hc with hc | hc
    · have := digit_lt hu hv; omega
    · rw [Nat.div_lt_iff_lt_mul (by omega), mul_split]
      have : u * B = q * y1 * B + r * B := by rw [← h1, Nat.add_mul]
      omega
  have hq1 : 1 ≤ q := Nat.lt_of_le_of_lt (Nat.zero_le _) hq
  refine ⟨hq1, ⟨?_, by omega, by omega⟩, by omega⟩
  have : (q - 1) * y1 + y1 = q * y1 := by
    conv => rhs; rw [show q = (q - 1) + 1 by omega]
    rw [Nat.add_mul, Nat.one_mul]
  omega

/-- the guess is right -/
theorem guess_right {B u v y1 y0 q r : Nat} (h : Guess B u v y1 y0 q r) (hy : 0 < y1 * B) (hc : q * y0 ≤ r * B + v) : q = (u * B + v) / (y1 * B + y0) := by
  obtain ⟨h1, h2, h3⟩ := h
  refine Nat.le_antisymm ?_ h2
  rw [Nat.le_div_iff_mul_le (by omega), mul_split]
  have : u * B = q * y1 * B + r * B := by rw [← h1, Nat.add_mul]
  omega
theorem guess_broken {B u v y1 y0 q r : Nat} (h : Guess B u v y1 y0 q r) (hy : 0 < y1 * B) (h0 : y0 < B) (hq : q ≤ B) (hr : B ≤ r) : q = (u * B + v) / (y1 * B + y0) := by
  refine guess_right h hy ?_
  have h1 : q * y0 ≤ B * y0 := Nat.mul_le_mul_right _ hq
  have h2 : B * B ≤ r * B := Nat.mul_le_mul_right _ hr
  have h3 : B * y0 ≤ B * B := Nat.mul_le_mul_left _ (by omega)
  omega

/-- two digits -/
theorem two_digits {B u v0 v1 y : Nat} (hy : 0 < y) : (u * B + v1) / y * B + ((u * B + v1) % y * B + v0) / y = ((u * B + v1) * B + v0) / y := by
  have h1 := Nat.div_add_mod (u * B + v1) y
  generalize u * B + v1 = m at *
  have e : m * B + v0 = (m % y * B + v0) + y * (m / y * B) := by
    conv => lhs; rw [← h1]
    rw [Nat.add_mul, ← Nat.mul_assoc]
    omega
  rw [e, Nat.add_mul_div_left _ _ hy]
  omega

/-- what is left behind a digit, reckoned in words modulo M -/
theorem left_word {M : Nat} {a v qy t : Nat} (ht : t < M) (h : qy + t = a + v) :
    ((((a : Nat) : Int) % (M : Int) + v) % (M : Int) - ((qy : Nat) : Int) % (M : Int)) % (M : Int) = ((t : Nat) : Int) := by
  rw [← Int.emod_add_emod, Int.emod_emod_of_dvd _ (Int.dvd_refl _), Int.emod_add_emod, Int.emod_sub_emod, Int.sub_emod_emod] <;> skip
  have : ((a : Nat) : Int) + v - qy = t := by omega
  rw [this]
  exact Int.emod_eq_of_lt (by omega) (by omega)

theorem shifted {M hi lo y s : Nat} : (hi * M + lo) * 2 ^ s / (y * 2 ^ s) = (hi * M + lo) / y := Nat.mul_div_mul_right _ _ (Nat.two_pow_pos s)
theorem pow_split {s : Nat} (hs : s ≤ 64) : 2 ^ s * 2 ^ (64 - s) = 2 ^ 64 := by
  rw [← Nat.pow_add, show s + (64 - s) = 64 by omega]
theorem shift_sum (M hi lo s : Nat) : (hi * M + lo) * 2 ^ s = lo * 2 ^ s + M * (hi * 2 ^ s) := by
  rw [Nat.add_mul, Nat.mul_right_comm, Nat.mul_comm (hi * 2 ^ s)]; omega
/-- the upper word of what is shifted -/
theorem shift_high {hi lo s : Nat} (hs : s ≤ 64) : (hi * 2 ^ 64 + lo) * 2 ^ s / 2 ^ 64 = hi * 2 ^ s + lo / 2 ^ (64 - s) := by
  rw [shift_sum, Nat.add_mul_div_left _ _ (Nat.two_pow_pos 64)]
  have h2 : lo * 2 ^ s / 2 ^ 64 = lo / 2 ^ (64 - s) := by
    rw [← pow_split hs, Nat.mul_comm (2 ^ s), Nat.mul_div_mul_right _ _ (Nat.two_pow_pos s)]
  omega
theorem shift_low {hi lo s : Nat} : (hi * 2 ^ 64 + lo) * 2 ^ s % 2 ^ 64 = lo * 2 ^ s % 2 ^ 64 := by
  rw [shift_sum, Nat.add_mul_mod_self_left]

end Go.Proofs.YtbfheehaagcmeaaDoor.can
namespace Go.Proofs.YtbfheehaagcmeaaDoor.can
open Go.RowKit Go.Proofs
set_option linter.unusedVariables false

theorem u64_eq {a b : Nat} (h : a = b) : Value.int .u64 (a : Nat) = Value.int .u64 (b : Nat) := by rw [h]

set_option maxHeartbeats 1000000 in
theorem div_small (lo y : Nat) (w : World) (h0 : lo < 18446744073709551616) (hy : 0 < y) (hy2 : y < 18446744073709551616) :
    Calls Tryd.prog 40 #[.int .u64 0, .int .u64 lo, .int .u64 y] w fun e w' => (∃ r : Value, e = .returned (.tuple #[.int .u64 ((lo / y : Nat) : Int), r])) ∧ Below w.heap.size w w' := by
  have e1 : ((y : Int) == 0) = false := by simp; omega
  have e2 : decide ((y : Int) ≤ 0) = false := by simp; omega
  have hq : IntKind.u64.wrap ((lo : Int) / (y : Int)) = ((lo / y : Nat) : Int) := by
    have : lo / y ≤ lo := Nat.div_le_self _ _
    have e : (lo : Int) / (y : Int) = ((lo / y : Nat) : Int) := by push_cast; rfl
    rw [e]
    generalize lo / y = k at *
    exact IntWalk.u64_in _ (by omega)
  go_enter Tryd.func40, Tryd.ntmps40
  go_wp2
  go_quiet (fail)
  go_wp2
  go_ret2
  exact ⟨⟨_, rfl⟩, drewN_below _ _ _⟩

theorem bitLen_two {y : Nat} (h0 : 0 < y) (h1 : y < 18446744073709551616) : ∃ s : Nat, s ≤ 63 ∧ (64 - (Lib.bitLen y : Int)) = s ∧ 9223372036854775808 ≤ y * 2 ^ s ∧ y * 2 ^ s < 18446744073709551616 := by
  obtain ⟨a, b, c⟩ := Lib.bitLenAux_bounds 64 y h1 (by omega)
  change 1 ≤ Lib.bitLen y at a
  change 2 ^ (Lib.bitLen y - 1) ≤ y at b
  change y < 2 ^ Lib.bitLen y at c
  have h2 : Lib.bitLen y ≤ 64 := by
    rcases Nat.lt_or_ge 64 (Lib.bitLen y) with h | h
    · have : 2 ^ 64 ≤ 2 ^ (Lib.bitLen y - 1) := Nat.pow_le_pow_right (by decide) (by omega)
      omega
    · exact h
  refine ⟨64 - Lib.bitLen y, by omega, by omega, ?_, ?_⟩
  · have := Nat.mul_le_mul_right (2 ^ (64 - Lib.bitLen y)) b
    rw [← Nat.pow_add, show Lib.bitLen y - 1 + (64 - Lib.bitLen y) = 63 by omega] at this
    omega
  · have := Nat.mul_lt_mul_of_pos_right c (Nat.two_pow_pos (64 - Lib.bitLen y))
    rw [← Nat.pow_add, show Lib.bitLen y + (64 - Lib.bitLen y) = 64 by omega] at this
    omega

theorem u64_mul_pow {a s : Nat} : IntKind.u64.wrap ((a : Int) * 2 ^ s) = ((a * 2 ^ s % 18446744073709551616 : Nat) : Int) := by
  have e : (a : Int) * 2 ^ s = ((a * 2 ^ s : Nat) : Int) := by rw [Int.natCast_mul, Int.natCast_pow]; rfl
  rw [e, IntKind.wrap_u64]; omega
theorem u64_mul {a b : Nat} : IntKind.u64.wrap ((a : Int) * (b : Int)) = ((a * b % 18446744073709551616 : Nat) : Int) := by
  have e : (a : Int) * (b : Int) = ((a * b : Nat) : Int) := by rw [Int.natCast_mul]
  rw [e, IntKind.wrap_u64]; omega
theorem u64_low (x : Nat) (h : x < 18446744073709551616) : bits .and .u64 (x : Int) 4294967295 = ((x % 4294967296 : Nat) : Int) := by
  have := u64_and_nat x 4294967295 h (by decide)
  have e : x &&& 4294967295 = x % 4294967296 := Nat.and_two_pow_sub_one_eq_mod x 32
  rw [e] at this
  exact this
theorem u64_join {hi lo s : Nat} (hs : s ≤ 63) (h1 : hi * 2 ^ s < 18446744073709551616) (h2 : lo < 18446744073709551616) : bits .or .u64 ((hi * 2 ^ s : Nat) : Int) ((lo / 2 ^ (64 - s) : Nat) : Int) = ((hi * 2 ^ s + lo / 2 ^ (64 - s) : Nat) : Int) := by
  have h3 : lo / 2 ^ (64 - s) < 2 ^ s := by
    rw [Nat.div_lt_iff_lt_mul (Nat.two_pow_pos _), pow_split (by omega)]; exact h2
  have h4 : lo / 2 ^ (64 - s) ≤ lo := Nat.div_le_self _ _
  rw [u64_or_nat _ _ h1 (by omega), Nat.mul_comm hi, ← Nat.two_pow_add_eq_or_of_lt h3]

theorem u64_two (a b : Nat) : ((a * 4294967296 + b : Nat) : Int) = (a : Int) * 4294967296 + (b : Int) := by omega
theorem geq_yes (t : TypeId) {a b : Int} (h : b ≤ a) : binOp .geq t (.int .u64 a) (.int .u64 b) = pure (.bool true) := by simp [binOp, Op.intCmp, h]
theorem geq_no (t : TypeId) {a b : Int} (h : a < b) : binOp .geq t (.int .u64 a) (.int .u64 b) = pure (.bool false) := by show pure (Value.bool (decide (a ≥ b))) = _; rw [decide_eq_false (Int.not_le.2 h)]
theorem gtr_yes (t : TypeId) {a b : Int} (h : b < a) : binOp .gtr t (.int .u64 a) (.int .u64 b) = pure (.bool true) := by simp [binOp, Op.intCmp, h]
theorem gtr_no (t : TypeId) {a b : Int} (h : a ≤ b) : binOp .gtr t (.int .u64 a) (.int .u64 b) = pure (.bool false) := by show pure (Value.bool (decide (a > b))) = _; rw [decide_eq_false (Int.not_lt.2 h)]
theorem u64_int {a b : Int} (h : a = b) : Value.int .u64 a = Value.int .u64 b := by rw [h]
theorem u64_wrapped {a b c : Nat} (h : a + b < c + 18446744073709551616) (hc : c ≤ a + b) : IntKind.u64.wrap (((a % 18446744073709551616 + b) % 18446744073709551616 : Nat) - ((c % 18446744073709551616 : Nat) : Int)) = ((a + b - c : Nat) : Int) := by
  rw [IntKind.wrap_u64]; omega

set_option maxRecDepth 100000 in
set_option maxHeartbeats 4000000 in
theorem div_big (hi lo y : Nat) (w : World) (h0 : lo < 18446744073709551616) (hh : 0 < hi) (hy : hi < y) (hy2 : y < 18446744073709551616) :
    Calls Tryd.prog 40 #[.int .u64 hi, .int .u64 lo, .int .u64 y] w fun e w' => (∃ r : Value, e = .returned (.tuple #[.int .u64 (((hi * 2 ^ 64 + lo) / y : Nat) : Int), r])) ∧ Below w.heap.size w w' := by
  have e1 : ((y : Int) == 0) = false := by simp; omega
  have e2 : decide ((y : Int) ≤ hi) = false := by simp; omega
  have e3 : ((hi : Int) == 0) = false := by simp; omega
  have HL := run.hid (Tryd.bits_LeadingZeros64 (y : Int) w (by omega) (by omega))
  obtain ⟨s, hs, hs1, hs2, hs3⟩ := bitLen_two (show 0 < y by omega) hy2
  rw [Int.toNat_natCast, hs1] at HL
  clear hs1
  go_enter Tryd.func40, Tryd.ntmps40
  go_wp2_with fail
  refine HL.out.mono ?_
  rintro e w' ⟨rfl, rfl⟩
  clear HL e1 e2 e3
  have m1 : min s 64 = s := by omega
  have m2 : min (64 - s) 64 = 64 - s := by omega
  -- the divisor, shifted
  obtain ⟨Y, hY⟩ : ∃ Y, Y = y * 2 ^ s := ⟨_, rfl⟩
  have E1 : IntKind.u64.wrap ((y : Int) * 2 ^ s) = Y := by rw [u64_mul_pow, ← hY, Nat.mod_eq_of_lt (by omega)]
  obtain ⟨y1, hy1⟩ : ∃ y1, y1 = Y / 4294967296 := ⟨_, rfl⟩
  obtain ⟨y0, hy0⟩ : ∃ y0, y0 = Y % 4294967296 := ⟨_, rfl⟩
  have E2 : (Y : Int) / 4294967296 = y1 := by omega
  have E3 : bits .and .u64 (Y : Int) 4294967295 = y0 := by rw [u64_low Y (by omega), hy0]
  -- the two words, shifted
  have hA1 : hi * 2 ^ s + 2 ^ s ≤ Y := by
    rw [hY]; have := Nat.mul_le_mul_right (2 ^ s) (show hi + 1 ≤ y by omega); rwa [Nat.add_mul, Nat.one_mul] at this
  have hA2 : lo / 2 ^ (64 - s) < 2 ^ s := by
    rw [Nat.div_lt_iff_lt_mul (Nat.two_pow_pos _), pow_split (by omega)]; exact h0
  have hA3 : hi * 2 ^ s < 18446744073709551616 := Nat.lt_of_le_of_lt (Nat.le_trans (Nat.le_add_right _ _) hA1) (by omega)
  have E4 : IntKind.u64.wrap ((hi : Int) * 2 ^ s) = ((hi * 2 ^ s : Nat) : Int) := by rw [u64_mul_pow, Nat.mod_eq_of_lt hA3]
  have E5 : (lo : Int) / 2 ^ (64 - s) = ((lo / 2 ^ (64 - s) : Nat) : Int) := by rw [Int.natCast_ediv, Int.natCast_pow]; rfl
  have E6 := u64_join (hi := hi) (lo := lo) hs hA3 h0
  have hU := shift_high (hi := hi) (lo := lo) (s := s) (by omega)
  have hV := shift_low (hi := hi) (lo := lo) (s := s)
  have hq := shifted (M := 2 ^ 64) (hi := hi) (lo := lo) (y := y) (s := s)
  rw [← hY] at hq
  have E7 : IntKind.u64.wrap ((lo : Int) * 2 ^ s) = ((lo * 2 ^ s % 18446744073709551616 : Nat) : Int) := u64_mul_pow
  have hdm := Nat.div_add_mod ((hi * 2 ^ 64 + lo) * 2 ^ s) (2 ^ 64)
  rw [hU, hV] at hdm
  rw [← hdm] at hq
  have hVlt : lo * 2 ^ s % 18446744073709551616 < 18446744073709551616 := Nat.mod_lt _ (by decide)
  change (2 ^ 64 * (hi * 2 ^ s + lo / 2 ^ (64 - s)) + lo * 2 ^ s % 18446744073709551616) / Y = _ at hq
  obtain ⟨A, hA⟩ : ∃ A, A = hi * 2 ^ s := ⟨_, rfl⟩
  obtain ⟨L, hL⟩ : ∃ L, L = lo / 2 ^ (64 - s) := ⟨_, rfl⟩
  obtain ⟨V, hVV⟩ : ∃ V, V = lo * 2 ^ s % 18446744073709551616 := ⟨_, rfl⟩
  obtain ⟨U, hUU⟩ : ∃ U, U = A + L := ⟨_, rfl⟩
  rw [← hA] at E4 E6 hq hA1
  rw [← hL] at E5 E6 hq hA2
  rw [← hVV] at E7 hq hVlt
  rw [← hUU] at E6 hq
  obtain ⟨v1, hv1⟩ : ∃ v1, v1 = V / 4294967296 := ⟨_, rfl⟩
  obtain ⟨v0, hv0⟩ : ∃ v0, v0 = V % 4294967296 := ⟨_, rfl⟩
  have E8 : (V : Int) / 4294967296 = v1 := by omega
  have E9 : bits .and .u64 (V : Int) 4294967295 = v0 := by rw [u64_low V (by omega), hv0]
  have hUY : U < Y := by omega
  have hYs : Y = y1 * 4294967296 + y0 := by omega
  have hVs : V = v1 * 4294967296 + v0 := by omega
  have hfin : (hi * 2 ^ 64 + lo) / y = (U * 4294967296 + v1) / Y * 4294967296 + ((U * 4294967296 + v1) % Y * 4294967296 + v0) / Y := by
    rw [two_digits (by omega), ← hq]
    congr 1
    omega
  have HF := run.hid hfin
  have b1 : 2147483648 ≤ y1 := by omega
  have b2 : y1 ≤ 4294967295 := by omega
  have b3 : y0 ≤ 4294967295 := by omega
  have b4 : v1 ≤ 4294967295 := by omega
  have b5 : v0 ≤ 4294967295 := by omega
  clear hU hV hq hdm hA hL hVV hA1 hA2 hA3 hfin
  -- the first guess
  have HG := run.hid (guess_start (B := 4294967296) (u := U) (v := v1) (by rw [← hYs]; exact hUY) (by omega) (by omega) (show y0 < 4294967296 by omega))
  have hrr := Nat.mod_lt U (show 0 < y1 by omega)
  have hdv := Nat.div_add_mod U y1
  have hqb := HG.out.2.2
  have E10 : (U : Int) / (y1 : Int) = ((U / y1 : Nat) : Int) := by rw [Int.natCast_ediv]
  have E11 : IntKind.u64.wrap (((U / y1 : Nat) : Int) * (y1 : Int)) = ((U / y1 * y1 : Nat) : Int) := by
    rw [u64_mul, Nat.mod_eq_of_lt]
    rw [Nat.mul_comm] at hdv; omega
  have E12 : (U : Int) - ((U / y1 * y1 : Nat) : Int) = ((U % y1 : Nat) : Int) := by rw [Nat.mul_comm]; omega
  have hmm : U / y1 * y1 ≤ U := Nat.div_mul_le_self _ _
  clear hdv
  obtain ⟨Q, hQ⟩ : ∃ Q, Q = U / y1 := ⟨_, rfl⟩
  obtain ⟨R, hR⟩ : ∃ R, R = U % y1 := ⟨_, rfl⟩
  obtain ⟨M1, hM1⟩ : ∃ M1, M1 = U / y1 * y1 := ⟨_, rfl⟩
  rw [← hM1] at E11 E12 hmm
  rw [← hQ] at E10 E11 HG hqb
  rw [← hR] at E12 HG hrr
  have z1 : ((y1 : Int) = 0) = False := by simp; omega
  have c1 : (2147483648 : Int) ≤ (y1 : Int) := by omega
  have c2 : (9223372036854775808 : Int) ≤ (Y : Int) := by omega
  have c3 : (Y : Int) ≤ 18446744073709551615 := by omega
  clear hQ hR hM1 hY hy1 hy0 hv1 hv0 hUU hs2 hs3 b1
  have HYs := run.hid hYs
  have HVs := run.hid hVs
  clear hYs hVs
  go_upto_block 0 with fail
  clear E1 E2 E3 E4 E5 E6 E7 E8 E9 E10 E11 E12 m2 hmm
  have hqb2 : Q ≤ 4294967297 := hqb
  have hrr2 : R < 4294967296 := by omega
  clear hqb hrr
  go_cut [15] (fun q wx => q = .int .u64 (((U * 4294967296 + v1) / Y : Nat) : Int) ∧ wx = w')
  case first =>
    go_wp2_with fail
    go_loop [15, 16] (fun a b => ∃ q r : Nat, a = .int .u64 q ∧ b = .int .u64 r ∧ Hid (Guess 4294967296 U v1 y1 y0 q r) ∧ q ≤ 4294967297 ∧ r < 4294967296) (fun a _ => (intOf a).toNat)
    case atStart => exact ⟨Q, R, rfl, rfl, HG, by omega, by omega⟩
    case round =>
      obtain ⟨q, r, rfl, rfl, HGr, hq1, hr1⟩ := hrel
      by_cases hqB : 4294967296 ≤ q
      · have C1 := geq_yes 84 (show (4294967296 : Int) ≤ (q : Int) by omega)
        skip
        obtain ⟨k1, k2, k3⟩ := guess_high HGr.out (by rw [← HYs.out]; exact hUY) (by omega) (.inl hqB)
        obtain ⟨p, hp⟩ : ∃ p, p = q - 1 := ⟨_, rfl⟩
        rw [← hp] at k2 k3
        have K2 := run.hid k2
        have hp1 : (q : Int) - 1 = p := by omega
        have HP1 := run.hid hp1
        have hq0 : (1 : Int) ≤ q := by omega
        have hq2 : (q : Int) ≤ 4294967297 := by omega
        obtain ⟨r2, hr2⟩ : ∃ r2, r2 = r + y1 := ⟨_, rfl⟩
        rw [← hr2] at K2
        have ER : (r : Int) + (y1 : Int) = r2 := by omega
        have hr3 : (r2 : Int) ≤ 8589934592 := by omega
        clear k1 k2 HGr hp hp1 hr2
        by_cases hbr : 4294967296 ≤ r2
        · have C2 := geq_yes 84 (show (4294967296 : Int) ≤ (r2 : Int) by omega)
          have HE := run.hid (guess_broken K2.out (by omega) (by omega) k3 hbr)
          have N1 := run.hid hbr
          have N2 := run.hid hq1
          have N3 := run.hid hr1
          have N4 := run.hid k3
          have i2 : (r : Int) ≤ 4294967295 := by omega
          have NB := run.hid hbr
          clear hbr hq1 hr1 k3
          try have N5 := run.hid hqB
          try clear hqB
          try have N6 := run.hid hP
          try have C3 := gtr_yes 84 (show 4294967296 * (r : Int) + (v1 : Int) < (P : Int) by omega)
          try clear hP hPm
          go_wp2
          go_meet
          case rel => exact ⟨by rw [HYs.out, ← HE.out]; exact u64_int HP1.out, rfl⟩
        · have C2 := geq_no 84 (show (r2 : Int) < 4294967296 by omega)
          have N2 := run.hid hq1
          have N3 := run.hid hr1
          have N4 := run.hid k3
          have i2 : (r : Int) ≤ 4294967295 := by omega
          have NB := run.hid hbr
          clear hbr hq1 hr1 k3
          try have N5 := run.hid hqB
          try clear hqB
          try have N6 := run.hid hP
          try have C3 := gtr_yes 84 (show 4294967296 * (r : Int) + (v1 : Int) < (P : Int) by omega)
          try clear hP hPm
          go_wp2
          go_round
          case rel => exact ⟨p, r2, u64_int HP1.out, rfl, K2, by have := N4.out; omega, by have := NB.out; omega⟩
          case measure => have := HP1.out; simp [intOf]; omega
      · have C1 := geq_no 84 (show (q : Int) < 4294967296 by omega)
        have hPm : q * y0 ≤ 4294967295 * 4294967295 := Nat.mul_le_mul (by omega) b3
        have EP : IntKind.u64.wrap ((q : Int) * (y0 : Int)) = ((q * y0 : Nat) : Int) := by rw [u64_mul, Nat.mod_eq_of_lt (by omega)]
        obtain ⟨P, hPP⟩ : ∃ P, P = q * y0 := ⟨_, rfl⟩
        rw [← hPP] at EP hPm
        have HPP := run.hid hPP
        clear hPP
        by_cases hP : r * 4294967296 + v1 < P
        · skip
          obtain ⟨k1, k2, k3⟩ := guess_high HGr.out (by rw [← HYs.out]; exact hUY) (by omega) (.inr (by rw [← HPP.out]; exact hP))
          obtain ⟨p, hp⟩ : ∃ p, p = q - 1 := ⟨_, rfl⟩
          rw [← hp] at k2 k3
          have K2 := run.hid k2
          have hp1 : (q : Int) - 1 = p := by omega
          have HP1 := run.hid hp1
          have hq0 : (1 : Int) ≤ q := by omega
          have hq2 : (q : Int) ≤ 4294967297 := by omega
          obtain ⟨r2, hr2⟩ : ∃ r2, r2 = r + y1 := ⟨_, rfl⟩
          rw [← hr2] at K2
          have ER : (r : Int) + (y1 : Int) = r2 := by omega
          have hr3 : (r2 : Int) ≤ 8589934592 := by omega
          clear k1 k2 HGr hp hp1 hr2
          by_cases hbr : 4294967296 ≤ r2
          · have C2 := geq_yes 84 (show (4294967296 : Int) ≤ (r2 : Int) by omega)
            have HE := run.hid (guess_broken K2.out (by omega) (by omega) k3 hbr)
            have N1 := run.hid hbr
            have N2 := run.hid hq1
            have N3 := run.hid hr1
            have N4 := run.hid k3
            have i2 : (r : Int) ≤ 4294967295 := by omega
            have NB := run.hid hbr
            clear hbr hq1 hr1 k3
            try have N5 := run.hid hqB
            try clear hqB
            try have N6 := run.hid hP
            try have C3 := gtr_yes 84 (show 4294967296 * (r : Int) + (v1 : Int) < (P : Int) by omega)
            try clear hP hPm
            go_wp2
            go_meet
            case rel => exact ⟨by rw [HYs.out, ← HE.out]; exact u64_int HP1.out, rfl⟩
          · have C2 := geq_no 84 (show (r2 : Int) < 4294967296 by omega)
            have N2 := run.hid hq1
            have N3 := run.hid hr1
            have N4 := run.hid k3
            have i2 : (r : Int) ≤ 4294967295 := by omega
            have NB := run.hid hbr
            clear hbr hq1 hr1 k3
            try have N5 := run.hid hqB
            try clear hqB
            try have N6 := run.hid hP
            try have C3 := gtr_yes 84 (show 4294967296 * (r : Int) + (v1 : Int) < (P : Int) by omega)
            try clear hP hPm
            go_wp2
            go_round
            case rel => exact ⟨p, r2, u64_int HP1.out, rfl, K2, by have := N4.out; omega, by have := NB.out; omega⟩
            case measure => have := HP1.out; simp [intOf]; omega
        · have HE := run.hid (guess_right HGr.out (by omega) (by rw [← HPP.out]; exact Nat.le_of_not_lt hP))
          have C3 := gtr_no 84 (show (P : Int) ≤ 4294967296 * (r : Int) + (v1 : Int) by omega)
          have i2 : (r : Int) ≤ 4294967295 := by omega
          clear hP hPm hq1 hr1 hqB
          go_wp2
          go_meet
          case rel => exact ⟨by rw [HYs.out, ← HE.out], rfl⟩
  case rest =>
    obtain ⟨rfl, rfl⟩ := hcut
    have hy0 : 0 < Y := by omega
    have hdm := Nat.div_add_mod (U * 4294967296 + v1) Y
    have hml := Nat.mod_lt (U * 4294967296 + v1) hy0
    have hdl := digit_lt (B := 4294967296) (u := U) (v := v1) (y1 := y1) (y0 := y0) (by rw [← HYs.out]; exact hUY) (by omega)
    rw [← HYs.out] at hdl
    obtain ⟨q1, hq1⟩ : ∃ q1, q1 = (U * 4294967296 + v1) / Y := ⟨_, rfl⟩
    obtain ⟨t, ht⟩ : ∃ t, t = (U * 4294967296 + v1) % Y := ⟨_, rfl⟩
    rw [← hq1] at hdl hdm
    rw [← ht] at hdm hml
    rw [← hq1, ← ht] at HF
    have F1 : IntKind.u64.wrap ((U : Int) * 4294967296) = ((U * 4294967296 % 18446744073709551616 : Nat) : Int) := by rw [IntKind.wrap_u64]; omega
    obtain ⟨a1, ha1⟩ : ∃ a1, a1 = U * 4294967296 % 18446744073709551616 := ⟨_, rfl⟩
    rw [← ha1] at F1
    have F2 : IntKind.u64.wrap ((a1 : Int) + (v1 : Int)) = ((a1 + v1) % 18446744073709551616 : Nat) := by rw [IntKind.wrap_u64]; omega
    obtain ⟨a2, ha2⟩ : ∃ a2, a2 = (a1 + v1) % 18446744073709551616 := ⟨_, rfl⟩
    rw [← ha2] at F2
    have F3 : IntKind.u64.wrap ((q1 : Int) * (Y : Int)) = ((q1 * Y % 18446744073709551616 : Nat) : Int) := u64_mul
    obtain ⟨a3, ha3⟩ : ∃ a3, a3 = q1 * Y % 18446744073709551616 := ⟨_, rfl⟩
    rw [← ha3] at F3
    have F4 : IntKind.u64.wrap ((a2 : Int) - (a3 : Int)) = t := by
      rw [IntKind.wrap_u64, ha2, ha1, ha3]
      rw [Nat.mul_comm] at hdm
      generalize q1 * Y = m at *
      omega
    clear hdm ha1 ha2 ha3
    -- the second guess
    have HG2 := run.hid (guess_start (B := 4294967296) (u := t) (v := v0) (by rw [← HYs.out]; exact hml) (by omega) (by omega) (show y0 < 4294967296 by omega))
    have hrr := Nat.mod_lt t (show 0 < y1 by omega)
    have hdv := Nat.div_add_mod t y1
    have hqb := HG2.out.2.2
    have E10 : (t : Int) / (y1 : Int) = ((t / y1 : Nat) : Int) := by rw [Int.natCast_ediv]
    have E11 : IntKind.u64.wrap (((t / y1 : Nat) : Int) * (y1 : Int)) = ((t / y1 * y1 : Nat) : Int) := by
      rw [u64_mul, Nat.mod_eq_of_lt]
      rw [Nat.mul_comm] at hdv; omega
    have E12 : (t : Int) - ((t / y1 * y1 : Nat) : Int) = ((t % y1 : Nat) : Int) := by rw [Nat.mul_comm]; omega
    have hmm : t / y1 * y1 ≤ t := Nat.div_mul_le_self _ _
    clear hdv
    obtain ⟨Q, hQ⟩ : ∃ Q, Q = t / y1 := ⟨_, rfl⟩
    obtain ⟨R, hR⟩ : ∃ R, R = t % y1 := ⟨_, rfl⟩
    obtain ⟨M2, hM2⟩ : ∃ M2, M2 = t / y1 * y1 := ⟨_, rfl⟩
    rw [← hM2] at E11 E12 hmm
    rw [← hQ] at E10 E11 HG2 hqb
    rw [← hR] at E12 HG2 hrr
    have htY : t < Y := hml
    have hqb2 : Q ≤ 4294967297 := hqb
    have hrr2 : R < 4294967296 := by omega
    have hdl' : (q1 : Int) ≤ 4294967295 := by omega
    have htl : (t : Int) ≤ 18446744073709551615 := by omega
    have hml' : (M2 : Int) ≤ t := by omega
    have HQ1 := run.hid hq1
    rw [← hq1]
    clear hQ hR hM2 hq1 ht hqb hrr hml hdl hy0 hmm
    go_upto_block 2 with fail
    clear E10 E11 E12 F1 F2 F3 F4
    go_cut [18] (fun q wx => q = .int .u64 (((t * 4294967296 + v0) / Y : Nat) : Int) ∧ wx = wc)
    case first =>
      go_wp2_with fail
      go_loop [18, 16] (fun a b => ∃ q r : Nat, a = .int .u64 q ∧ b = .int .u64 r ∧ Hid (Guess 4294967296 t v0 y1 y0 q r) ∧ q ≤ 4294967297 ∧ r < 4294967296) (fun a _ => (intOf a).toNat)
      case atStart => exact ⟨Q, R, rfl, rfl, HG2, by omega, by omega⟩
      case round =>
        obtain ⟨q, r, rfl, rfl, HGr, hq1, hr1⟩ := hrel
        by_cases hqB : 4294967296 ≤ q
        · have C1 := geq_yes 84 (show (4294967296 : Int) ≤ (q : Int) by omega)
          skip
          obtain ⟨k1, k2, k3⟩ := guess_high HGr.out (by rw [← HYs.out]; exact htY) (by omega) (.inl hqB)
          obtain ⟨p, hp⟩ : ∃ p, p = q - 1 := ⟨_, rfl⟩
          rw [← hp] at k2 k3
          have K2 := run.hid k2
          have hp1 : (q : Int) - 1 = p := by omega
          have HP1 := run.hid hp1
          have hq0 : (1 : Int) ≤ q := by omega
          have hq2 : (q : Int) ≤ 4294967297 := by omega
          obtain ⟨r2, hr2⟩ : ∃ r2, r2 = r + y1 := ⟨_, rfl⟩
          rw [← hr2] at K2
          have ER : (r : Int) + (y1 : Int) = r2 := by omega
          have hr3 : (r2 : Int) ≤ 8589934592 := by omega
          clear k1 k2 HGr hp hp1 hr2
          by_cases hbr : 4294967296 ≤ r2
          · have C2 := geq_yes 84 (show (4294967296 : Int) ≤ (r2 : Int) by omega)
            have HE := run.hid (guess_broken K2.out (by omega) (by omega) k3 hbr)
            have N1 := run.hid hbr
            have N2 := run.hid hq1
            have N3 := run.hid hr1
            have N4 := run.hid k3
            have i2 : (r : Int) ≤ 4294967295 := by omega
            have NB := run.hid hbr
            clear hbr hq1 hr1 k3
            try have N5 := run.hid hqB
            try clear hqB
            try have N6 := run.hid hP
            try have C3 := gtr_yes 84 (show 4294967296 * (r : Int) + (v0 : Int) < (P : Int) by omega)
            try clear hP hPm
            go_wp2
            go_meet
            case rel => exact ⟨by rw [HYs.out, ← HE.out]; exact u64_int HP1.out, rfl⟩
          · have C2 := geq_no 84 (show (r2 : Int) < 4294967296 by omega)
            have N2 := run.hid hq1
            have N3 := run.hid hr1
            have N4 := run.hid k3
            have i2 : (r : Int) ≤ 4294967295 := by omega
            have NB := run.hid hbr
            clear hbr hq1 hr1 k3
            try have N5 := run.hid hqB
            try clear hqB
            try have N6 := run.hid hP
            try have C3 := gtr_yes 84 (show 4294967296 * (r : Int) + (v0 : Int) < (P : Int) by omega)
            try clear hP hPm
            go_wp2
            go_round
            case rel => exact ⟨p, r2, u64_int HP1.out, rfl, K2, by have := N4.out; omega, by have := NB.out; omega⟩
            case measure => have := HP1.out; simp [intOf]; omega
        · have C1 := geq_no 84 (show (q : Int) < 4294967296 by omega)
          have hPm : q * y0 ≤ 4294967295 * 4294967295 := Nat.mul_le_mul (by omega) b3
          have EP : IntKind.u64.wrap ((q : Int) * (y0 : Int)) = ((q * y0 : Nat) : Int) := by rw [u64_mul, Nat.mod_eq_of_lt (by omega)]
          obtain ⟨P, hPP⟩ : ∃ P, P = q * y0 := ⟨_, rfl⟩
          rw [← hPP] at EP hPm
          have HPP := run.hid hPP
          clear hPP
          by_cases hP : r * 4294967296 + v0 < P
          · skip
            obtain ⟨k1, k2, k3⟩ := guess_high HGr.out (by rw [← HYs.out]; exact htY) (by omega) (.inr (by rw [← HPP.out]; exact hP))
            obtain ⟨p, hp⟩ : ∃ p, p = q - 1 := ⟨_, rfl⟩
            rw [← hp] at k2 k3
            have K2 := run.hid k2
            have hp1 : (q : Int) - 1 = p := by omega
            have HP1 := run.hid hp1
            have hq0 : (1 : Int) ≤ q := by omega
            have hq2 : (q : Int) ≤ 4294967297 := by omega
            obtain ⟨r2, hr2⟩ : ∃ r2, r2 = r + y1 := ⟨_, rfl⟩
            rw [← hr2] at K2
            have ER : (r : Int) + (y1 : Int) = r2 := by omega
            have hr3 : (r2 : Int) ≤ 8589934592 := by omega
            clear k1 k2 HGr hp hp1 hr2
            by_cases hbr : 4294967296 ≤ r2
            · have C2 := geq_yes 84 (show (4294967296 : Int) ≤ (r2 : Int) by omega)
              have HE := run.hid (guess_broken K2.out (by omega) (by omega) k3 hbr)
              have N1 := run.hid hbr
              have N2 := run.hid hq1
              have N3 := run.hid hr1
              have N4 := run.hid k3
              have i2 : (r : Int) ≤ 4294967295 := by omega
              have NB := run.hid hbr
              clear hbr hq1 hr1 k3
              try have N5 := run.hid hqB
              try clear hqB
              try have N6 := run.hid hP
              try have C3 := gtr_yes 84 (show 4294967296 * (r : Int) + (v0 : Int) < (P : Int) by omega)
              try clear hP hPm
              go_wp2
              go_meet
              case rel => exact ⟨by rw [HYs.out, ← HE.out]; exact u64_int HP1.out, rfl⟩
            · have C2 := geq_no 84 (show (r2 : Int) < 4294967296 by omega)
              have N2 := run.hid hq1
              have N3 := run.hid hr1
              have N4 := run.hid k3
              have i2 : (r : Int) ≤ 4294967295 := by omega
              have NB := run.hid hbr
              clear hbr hq1 hr1 k3
              try have N5 := run.hid hqB
              try clear hqB
              try have N6 := run.hid hP
              try have C3 := gtr_yes 84 (show 4294967296 * (r : Int) + (v0 : Int) < (P : Int) by omega)
              try clear hP hPm
              go_wp2
              go_round
              case rel => exact ⟨p, r2, u64_int HP1.out, rfl, K2, by have := N4.out; omega, by have := NB.out; omega⟩
              case measure => have := HP1.out; simp [intOf]; omega
          · have HE := run.hid (guess_right HGr.out (by omega) (by rw [← HPP.out]; exact Nat.le_of_not_lt hP))
            have C3 := gtr_no 84 (show (P : Int) ≤ 4294967296 * (r : Int) + (v0 : Int) by omega)
            have i2 : (r : Int) ≤ 4294967295 := by omega
            clear hP hPm hq1 hr1 hqB
            go_wp2
            go_meet
            case rel => exact ⟨by rw [HYs.out, ← HE.out], rfl⟩
    case rest =>
      obtain ⟨rfl, rfl⟩ := hcut
      have hd2 := digit_lt (B := 4294967296) (u := t) (v := v0) (y1 := y1) (y0 := y0) (by rw [← HYs.out]; exact htY) (by omega)
      rw [← HYs.out] at hd2
      obtain ⟨q2, hq2⟩ : ∃ q2, q2 = (t * 4294967296 + v0) / Y := ⟨_, rfl⟩
      rw [← hq2] at hd2 HF ⊢
      clear hq2
      have hd3 : (q2 : Int) ≤ 4294967295 := by omega
      clear hd2
      go_wp2
      go_ret2
      rw [HF.out, u64_two]
      exact ⟨⟨_, rfl⟩, Below.refl _ _⟩

end Go.Proofs.YtbfheehaagcmeaaDoor.can
