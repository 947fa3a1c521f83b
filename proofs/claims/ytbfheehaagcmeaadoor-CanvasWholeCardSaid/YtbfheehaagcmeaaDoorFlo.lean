/-
  Plain facts on floating point: words as rungs; order; rounding rises; what a format has is not rounded. No program in sight.
-/
import Ieee.Arith
namespace Go.Proofs.YtbfheehaagcmeaaDoor.flo
open Ieee

/-! ### numbers over a common place -/
def sg (s : Bool) (n : Nat) : Int := if s then -(n : Int) else n
theorem signed_eq (s : Bool) (m k : Nat) : signed s m k = sg s (m * 2 ^ k) := by
  unfold signed sg; rw [Nat.shiftLeft_eq]
theorem sg_mul (s : Bool) (n k : Nat) : sg s (n * k) = sg s n * k := by
  unfold sg; split
  · rw [Int.natCast_mul, Int.neg_mul]
  · rw [Int.natCast_mul]
theorem cmp_def (a b : Int) : compare a b = if a < b then .lt else if a = b then .eq else .gt := by
  simp only [compare, compareOfLessAndEq]
theorem cmp_mul {a b : Int} {k : Int} (hk : 0 < k) : compare (a * k) (b * k) = compare a b := by
  rw [cmp_def, cmp_def]
  have h1 : a * k < b * k ↔ a < b := Int.mul_lt_mul_right hk
  have h2 : a * k = b * k ↔ a = b := ⟨fun h => Int.eq_of_mul_eq_mul_right (by omega) h, fun h => by rw [h]⟩
  simp only [h1, h2]

theorem order_base {s t : Bool} {m n : Nat} {i j b : Int} (hi : b ≤ i) (hj : b ≤ j) : Datum.order (.number s m i) (.number t n j) = some (compare (sg s (m * 2 ^ (i - b).toNat)) (sg t (n * 2 ^ (j - b).toNat))) := by
  show some (compare (signed s m (i - min i j).toNat) (signed t n (j - min i j).toNat)) = _
  rw [signed_eq, signed_eq]
  congr 1
  have e1 : (i - b).toNat = (i - min i j).toNat + (min i j - b).toNat := by omega
  have e2 : (j - b).toNat = (j - min i j).toNat + (min i j - b).toNat := by omega
  rw [e1, e2, Nat.pow_add, Nat.pow_add, ← Nat.mul_assoc, ← Nat.mul_assoc, sg_mul s (m * 2 ^ (i - min i j).toNat), sg_mul t (n * 2 ^ (j - min i j).toNat), cmp_mul]
  exact_mod_cast Nat.two_pow_pos _

section
variable (f : Format)

/-- what a rung stands for, over the least place -/
def V (r : Nat) : Nat := if r < f.binade then r else (f.binade + r % f.binade) * 2 ^ (r / f.binade - 1)
theorem binade_pos : 0 < f.binade := Nat.two_pow_pos _

theorem V_succ (r : Nat) : V f r < V f (r + 1) := by
  have hb := binade_pos f
  unfold V
  generalize f.binade = B at *
  by_cases h : r + 1 < B
  · rw [if_pos (by omega), if_pos h]; omega
  rw [if_neg h]
  by_cases h2 : r < B
  · have e : r + 1 = B := by omega
    rw [if_pos h2, e, Nat.mod_self, Nat.div_self hb]
    simp; omega
  rw [if_neg h2]
  have hd := Nat.div_add_mod r B
  have hm := Nat.mod_lt r hb
  have hq : 1 ≤ r / B := by rw [Nat.le_div_iff_mul_le hb]; omega
  by_cases h3 : r % B + 1 < B
  · have e0 : r + 1 = (r % B + 1) + B * (r / B) := by omega
    have e1 : (r + 1) / B = r / B := by conv => lhs; rw [e0, Nat.add_mul_div_left _ _ hb, Nat.div_eq_of_lt h3, Nat.zero_add]
    have e2 : (r + 1) % B = r % B + 1 := by conv => lhs; rw [e0, Nat.add_mul_mod_self_left, Nat.mod_eq_of_lt h3]
    rw [e1, e2]
    exact Nat.mul_lt_mul_of_pos_right (by omega) (Nat.two_pow_pos _)
  · have e0 : r + 1 = B * (r / B + 1) := by rw [Nat.mul_add]; omega
    have e1 : (r + 1) / B = r / B + 1 := by conv => lhs; rw [e0, Nat.mul_div_cancel_left _ hb]
    have e2 : (r + 1) % B = 0 := by conv => lhs; rw [e0, Nat.mul_mod_right]
    rw [e1, e2]
    obtain ⟨q, hqq⟩ : ∃ q, r / B = q + 1 := ⟨r / B - 1, by omega⟩
    rw [hqq, Nat.add_sub_cancel, Nat.add_sub_cancel, Nat.pow_succ, Nat.add_zero, ← Nat.mul_assoc, Nat.mul_right_comm]
    exact Nat.mul_lt_mul_of_pos_right (by omega) (Nat.two_pow_pos _)
theorem V_mono {r r' : Nat} (h : r < r') : V f r < V f r' := by
  induction r' with
  | zero => omega
  | succ k ih =>
    by_cases e : r = k
    · subst e; exact V_succ f r
    · exact Nat.lt_trans (ih (by omega)) (V_succ f k)
theorem V_le {r r' : Nat} (h : r ≤ r') : V f r ≤ V f r' := by
  rcases Nat.eq_or_lt_of_le h with e | h
  · rw [e]; exact Nat.le_refl _
  · exact Nat.le_of_lt (V_mono f h)
theorem V_zero : V f 0 = 0 := by unfold V; rw [if_pos (binade_pos f)]
theorem V_inj {r r' : Nat} (h : V f r = V f r') : r = r' := by
  rcases Nat.lt_trichotomy r r' with h1 | h1 | h1
  · have := V_mono f h1; omega
  · exact h1
  · have := V_mono f h1; omega
theorem V_le_iff {r r' : Nat} : V f r ≤ V f r' ↔ r ≤ r' := by
  refine ⟨fun h => ?_, V_le f⟩
  rcases Nat.lt_or_ge r' r with h1 | h1
  · have := V_mono f h1; omega
  · exact h1

def negW (x : Nat) : Bool := x / f.signWeight % 2 == 1
def rungW (x : Nat) : Nat := x % f.signWeight
/-- no NaN -/
def numW (x : Nat) : Bool := decide (rungW f x ≤ f.infRung)
def finW (x : Nat) : Bool := decide (rungW f x < f.infRung)

theorem read_fin {x : Nat} (h : rungW f x < f.infRung) : ∃ m i, f.read x = .number (negW f x) m i ∧ f.leastPlace ≤ i ∧ m * 2 ^ (i - f.leastPlace).toNat = V f (rungW f x) := by
  unfold rungW at *
  unfold Format.read negW V
  simp only
  generalize x % f.signWeight = r at *
  by_cases h1 : r < f.binade
  · rw [if_pos h1, if_pos h1]
    exact ⟨_, _, rfl, Int.le_refl _, by simp⟩
  · rw [if_neg h1, if_pos h, if_neg h1]
    refine ⟨_, _, rfl, by omega, ?_⟩
    have e : (f.leastPlace + ((r / f.binade - 1 : Nat) : Int) - f.leastPlace).toNat = r / f.binade - 1 := by omega
    rw [e]
theorem read_inf (hf : f.binade ≤ f.infRung) {x : Nat} (h : rungW f x = f.infRung) : f.read x = .infinity (negW f x) := by
  unfold rungW at *
  unfold Format.read negW
  simp only
  rw [h, if_neg (by omega), if_neg (by omega), if_pos rfl]
theorem read_nan (hf : f.binade ≤ f.infRung) {x : Nat} (h : f.infRung < rungW f x) : ∃ t, f.read x = .nan (negW f x) t := by
  unfold rungW at *
  unfold Format.read negW
  simp only
  rw [if_neg (by omega), if_neg (by omega), if_neg (by omega)]
  exact ⟨_, rfl⟩

/-- a word's place among all -/
def key (x : Nat) : Int := sg (negW f x) (rungW f x)
theorem sg_lt {s t : Bool} {a b a' b' : Nat} (h : a < b ↔ a' < b') (h2 : b < a ↔ b' < a') (h3 : a = 0 ↔ a' = 0) (h4 : b = 0 ↔ b' = 0) : compare (sg s a) (sg t b) = compare (sg s a') (sg t b') := by
  rw [cmp_def, cmp_def]
  have e1 : sg s a < sg t b ↔ sg s a' < sg t b' := by unfold sg; cases s <;> cases t <;> simp <;> omega
  have e2 : sg s a = sg t b ↔ sg s a' = sg t b' := by unfold sg; cases s <;> cases t <;> simp <;> omega
  simp only [e1, e2]

/-- THE ORDER OF TWO WORDS IS THE ORDER OF THEIR KEYS. -/
theorem order_key (hf : f.binade ≤ f.infRung) {x y : Nat} (hx : numW f x = true) (hy : numW f y = true) : f.order x y = some (compare (key f x) (key f y)) := by
  unfold numW at hx hy
  simp only [decide_eq_true_eq] at hx hy
  have hb := binade_pos f
  unfold Format.order
  rcases Nat.eq_or_lt_of_le hx with ex | hx <;> rcases Nat.eq_or_lt_of_le hy with ey | hy
  · rw [read_inf f hf ex, read_inf f hf ey]
    unfold key
    rw [ex, ey]
    have c00 : compare (Bool.toNat false) (Bool.toNat false) = .eq := by decide
    have c01 : compare (Bool.toNat true) (Bool.toNat false) = .gt := by decide
    have c10 : compare (Bool.toNat false) (Bool.toNat true) = .lt := by decide
    have c11 : compare (Bool.toNat true) (Bool.toNat true) = .eq := by decide
    cases negW f x <;> cases negW f y <;> simp only [Datum.order, sg, c00, c01, c10, c11, Bool.false_eq_true, if_false, if_true] <;> rw [cmp_def]
    · rw [if_neg (by omega), if_pos rfl]
    · rw [if_neg (by omega), if_neg (by omega)]
    · rw [if_pos (by omega)]
    · rw [if_neg (by omega), if_pos rfl]
  · rw [read_inf f hf ex]
    obtain ⟨m, i, e, -, -⟩ := read_fin f hy
    rw [e]
    unfold key
    rw [ex]
    cases negW f x <;> cases negW f y <;> simp only [Datum.order, sg, Bool.false_eq_true, if_false, if_true] <;> rw [cmp_def] <;> first | rw [if_pos (by omega)] | rw [if_neg (by omega), if_neg (by omega)]
  · rw [read_inf f hf ey]
    obtain ⟨m, i, e, -, -⟩ := read_fin f hx
    rw [e]
    unfold key
    rw [ey]
    cases negW f x <;> cases negW f y <;> simp only [Datum.order, sg, Bool.false_eq_true, if_false, if_true] <;> rw [cmp_def] <;> first | rw [if_pos (by omega)] | rw [if_neg (by omega), if_neg (by omega)]
  · obtain ⟨m, i, e, hi, hv⟩ := read_fin f hx
    obtain ⟨n, j, e', hj, hv'⟩ := read_fin f hy
    rw [e, e', order_base hi hj, hv, hv']
    unfold key
    congr 1
    refine sg_lt ?_ ?_ ?_ ?_
    · constructor
      · intro h; rcases Nat.lt_or_ge (rungW f x) (rungW f y) with h1 | h1
        · exact h1
        · have := V_le f h1; omega
      · exact V_mono f
    · constructor
      · intro h; rcases Nat.lt_or_ge (rungW f y) (rungW f x) with h1 | h1
        · exact h1
        · have := V_le f h1; omega
      · exact V_mono f
    · exact ⟨fun h => V_inj f (h.trans (V_zero f).symm), fun h => by rw [h, V_zero]⟩
    · exact ⟨fun h => V_inj f (h.trans (V_zero f).symm), fun h => by rw [h, V_zero]⟩
theorem order_nan (hf : f.binade ≤ f.infRung) {x y : Nat} (h : numW f x = false ∨ numW f y = false) : f.order x y = none := by
  unfold numW at h
  simp only [decide_eq_false_iff_not, Nat.not_le] at h
  unfold Format.order
  rcases h with h | h
  · obtain ⟨t, e⟩ := read_nan f hf h
    rw [e]; rfl
  · obtain ⟨t, e⟩ := read_nan f hf h
    rw [e]
    cases f.read x <;> rfl
end

end Go.Proofs.YtbfheehaagcmeaaDoor.flo
