/-
  Plain facts on a division of two words by one, a half word at a time. No program in sight.
-/
namespace Go.Proofs.YtbfheehaagcmeaaDoor.can

/-- one digit to the base B, guessed: its guess still q, what is left r -/
def Guess (B u v y1 y0 q r : Nat) : Prop := q * y1 + r = u ∧ (u * B + v) / (y1 * B + y0) ≤ q ∧ q ≤ B + 1

theorem digit_lt {B u v y1 y0 : Nat} (hu : u < y1 * B + y0) (hv : v < B) : (u * B + v) / (y1 * B + y0) < B := by
  rw [Nat.div_lt_iff_lt_mul (by omega), Nat.mul_comm B]
  have := Nat.mul_le_mul_right B (show u + 1 ≤ y1 * B + y0 by omega)
  rw [Nat.add_mul, Nat.one_mul] at this
  omega

theorem guess_start {B u v y1 y0 : Nat} (hu : u < y1 * B + y0) (hv : v < B) (h1 : B ≤ 2 * y1) (h0 : y0 < B) : Guess B u v y1 y0 (u / y1) (u % y1) := by
  refine ⟨?_, ?_, ?_⟩
  · rw [Nat.mul_comm]; exact Nat.div_add_mod u y1
  · rw [Nat.div_le_iff_le_mul_add_pred (by omega)]
    have hd := Nat.div_add_mod u y1
    have hm := Nat.mod_lt u (show 0 < y1 by omega)
    generalize u / y1 = q at *
    generalize u % y1 = r at *
    have e : (y1 * B + y0) * q = y1 * q * B + y0 * q := by rw [Nat.add_mul]; congr 1; rw [Nat.mul_right_comm]
    have e2 : u * B = y1 * q * B + r * B := by rw [← hd, Nat.add_mul]
    have e3 : r * B + B ≤ y1 * B := by have := Nat.mul_le_mul_right B (show r + 1 ≤ y1 by omega); rwa [Nat.add_mul, Nat.one_mul] at this
    rw [e, e2]
    have h2 : 0 ≤ y0 * q := Nat.zero_le _
    omega
  · have h2 : u / y1 < B + 2 := by
      rw [Nat.div_lt_iff_lt_mul (by omega), Nat.add_mul, Nat.mul_comm B]
      omega
    omega

theorem mul_split (B q y1 y0 : Nat) : q * (y1 * B + y0) = q * y1 * B + q * y0 := by rw [Nat.mul_add, Nat.mul_assoc]

/-- the guess is too high -/
theorem guess_high {B u v y1 y0 q r : Nat} (h : Guess B u v y1 y0 q r) (hu : u < y1 * B + y0) (hv : v < B) (hc : B ≤ q ∨ r * B + v < q * y0) : 1 ≤ q ∧ Guess B u v y1 y0 (q - 1) (r + y1) ∧ q - 1 ≤ B := by
  obtain ⟨h1, h2, h3⟩ := h
  have hq : (u * B + v) / (y1 * B + y0) < q := by
    rcases hc with hc | hc
    · have := digit_lt hu hv; omega
    · rw [Nat.div_lt_iff_lt_mul (by omega), mul_split]
      have : u * B = q * y1 * B + r * B := by rw [← h1, Nat.add_mul]
      omega
  have hq1 : 1 ≤ q := Nat.lt_of_le_of_lt (Nat.zero_le _) hq
  refine ⟨hq1, ⟨?_, by omega, by omega⟩, by omega⟩
  have : (q - 1) * y1 + y1 = q * y1 := by
    conv => rhs; rw [show q = (q - 1) + 1 by omega]
    rw [Nat.add_mul, Nat.one_mul]
  omega

/-- the guess is right -/
theorem guess_right {B u v y1 y0 q r : Nat} (h : Guess B u v y1 y0 q r) (hy : 0 < y1 * B) (hc : q * y0 ≤ r * B + v) : q = (u * B + v) / (y1 * B + y0) := by
  obtain ⟨h1, h2, h3⟩ := h
  refine Nat.le_antisymm ?_ h2
  rw [Nat.le_div_iff_mul_le (by omega), mul_split]
  have : u * B = q * y1 * B + r * B := by rw [← h1, Nat.add_mul]
  omega
theorem guess_broken {B u v y1 y0 q r : Nat} (h : Guess B u v y1 y0 q r) (hy : 0 < y1 * B) (h0 : y0 < B) (hq : q ≤ B) (hr : B ≤ r) : q = (u * B + v) / (y1 * B + y0) := by
  refine guess_right h hy ?_
  have h1 : q * y0 ≤ B * y0 := Nat.mul_le_mul_right _ hq
  have h2 : B * B ≤ r * B := Nat.mul_le_mul_right _ hr
  have h3 : B * y0 ≤ B * B := Nat.mul_le_mul_left _ (by omega)
  omega

/-- two digits -/
theorem two_digits {B u v0 v1 y : Nat} (hy : 0 < y) : (u * B + v1) / y * B + ((u * B + v1) % y * B + v0) / y = ((u * B + v1) * B + v0) / y := by
  have h1 := Nat.div_add_mod (u * B + v1) y
  generalize u * B + v1 = m at *
  have e : m * B + v0 = (m % y * B + v0) + y * (m / y * B) := by
    conv => lhs; rw [← h1]
    rw [Nat.add_mul, ← Nat.mul_assoc]
    omega
  rw [e, Nat.add_mul_div_left _ _ hy]
  omega

/-- what is left behind a digit, reckoned in words modulo M -/
theorem left_word {M : Nat} {a v qy t : Nat} (ht : t < M) (h : qy + t = a + v) :
    ((((a : Nat) : Int) % (M : Int) + v) % (M : Int) - ((qy : Nat) : Int) % (M : Int)) % (M : Int) = ((t : Nat) : Int) := by
  rw [← Int.emod_add_emod, Int.emod_emod_of_dvd _ (Int.dvd_refl _), Int.emod_add_emod, Int.emod_sub_emod, Int.sub_emod_emod] <;> skip
  have : ((a : Nat) : Int) + v - qy = t := by omega
  rw [this]
  exact Int.emod_eq_of_lt (by omega) (by omega)

theorem shifted {M hi lo y s : Nat} : (hi * M + lo) * 2 ^ s / (y * 2 ^ s) = (hi * M + lo) / y := Nat.mul_div_mul_right _ _ (Nat.two_pow_pos s)
theorem pow_split {s : Nat} (hs : s ≤ 64) : 2 ^ s * 2 ^ (64 - s) = 2 ^ 64 := by
  rw [← Nat.pow_add, show s + (64 - s) = 64 by omega]
theorem shift_sum (M hi lo s : Nat) : (hi * M + lo) * 2 ^ s = lo * 2 ^ s + M * (hi * 2 ^ s) := by
  rw [Nat.add_mul, Nat.mul_right_comm, Nat.mul_comm (hi * 2 ^ s)]; omega
/-- the upper word of what is shifted -/
theorem shift_high {hi lo s : Nat} (hs : s ≤ 64) : (hi * 2 ^ 64 + lo) * 2 ^ s / 2 ^ 64 = hi * 2 ^ s + lo / 2 ^ (64 - s) := by
  rw [shift_sum, Nat.add_mul_div_left _ _ (Nat.two_pow_pos 64)]
  have h2 : lo * 2 ^ s / 2 ^ 64 = lo / 2 ^ (64 - s) := by
    rw [← pow_split hs, Nat.mul_comm (2 ^ s), Nat.mul_div_mul_right _ _ (Nat.two_pow_pos s)]
  omega
theorem shift_low {hi lo s : Nat} : (hi * 2 ^ 64 + lo) * 2 ^ s % 2 ^ 64 = lo * 2 ^ s % 2 ^ 64 := by
  rw [shift_sum, Nat.add_mul_mod_self_left]

end Go.Proofs.YtbfheehaagcmeaaDoor.can
