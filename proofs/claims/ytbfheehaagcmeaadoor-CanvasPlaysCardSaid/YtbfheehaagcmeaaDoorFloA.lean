/-
  Floats: plain laws and operations.
-/
import Ieee.Arith
import Derived.Laws.FloatBits
namespace Go.Proofs.YtbfheehaagcmeaaDoor.flo
open Ieee

/-! ### numbers over a common place -/
def sg (s : Bool) (n : Nat) : Int := if s then -(n : Int) else n
theorem signed_eq (s : Bool) (m k : Nat) : signed s m k = sg s (m * 2 ^ k) := by
  unfold signed sg; rw [Nat.shiftLeft_eq]
theorem sg_mul (s : Bool) (n k : Nat) : sg s (n * k) = sg s n * k := by
  unfold sg; split
  · rw [Int.natCast_mul, Int.neg_mul]
  · rw [Int.natCast_mul]
theorem cmp_def (a b : Int) : compare a b = if a < b then .lt else if a = b then .eq else .gt := by
  simp only [compare, compareOfLessAndEq]
theorem cmp_mul {a b : Int} {k : Int} (hk : 0 < k) : compare (a * k) (b * k) = compare a b := by
  rw [cmp_def, cmp_def]
  have h1 : a * k < b * k ↔ a < b := Int.mul_lt_mul_right hk
  have h2 : a * k = b * k ↔ a = b := ⟨fun h => Int.eq_of_mul_eq_mul_right (by omega) h, fun h => by rw [h]⟩
  simp only [h1, h2]

theorem order_base {s t : Bool} {m n : Nat} {i j b : Int} (hi : b ≤ i) (hj : b ≤ j) : Datum.order (.number s m i) (.number t n j) = some (compare (sg s (m * 2 ^ (i - b).toNat)) (sg t (n * 2 ^ (j - b).toNat))) := by
  show some (compare (signed s m (i - min i j).toNat) (signed t n (j - min i j).toNat)) = _
  rw [signed_eq, signed_eq]
  congr 1
  have e1 : (i - b).toNat = (i - min i j).toNat + (min i j - b).toNat := by omega
  have e2 : (j - b).toNat = (j - min i j).toNat + (min i j - b).toNat := by omega
  rw [e1, e2, Nat.pow_add, Nat.pow_add, ← Nat.mul_assoc, ← Nat.mul_assoc, sg_mul s (m * 2 ^ (i - min i j).toNat), sg_mul t (n * 2 ^ (j - min i j).toNat), cmp_mul]
  exact_mod_cast Nat.two_pow_pos _

section
variable (f : Format)

/-- what a rung stands for, over the least place -/
def V (r : Nat) : Nat := if r < f.binade then r else (f.binade + r % f.binade) * 2 ^ (r / f.binade - 1)
theorem binade_pos : 0 < f.binade := Nat.two_pow_pos _

theorem V_succ (r : Nat) : V f r < V f (r + 1) := by
  have hb := binade_pos f
  unfold V
  generalize f.binade = B at *
  by_cases h : r + 1 < B
  · rw [if_pos (by omega), if_pos h]; omega
  rw [if_neg h]
  by_cases h2 : r < B
  · have e : r + 1 = B := by omega
    rw [if_pos h2, e, Nat.mod_self, Nat.div_self hb]
    simp; omega
  rw [if_neg h2]
  have hd := Nat.div_add_mod r B
  have hm := Nat.mod_lt r hb
  have hq : 1 ≤ r / B := by rw [Nat.le_div_iff_mul_le hb]; omega
  by_cases h3 : r % B + 1 < B
  · have e0 : r + 1 = (r % B + 1) + B * (r / B) := by omega
    have e1 : (r + 1) / B = r / B := by conv => lhs; rw [e0, Nat.add_mul_div_left _ _ hb, Nat.div_eq_of_lt h3, Nat.zero_add]
    have e2 : (r + 1) % B = r % B + 1 := by conv => lhs; rw [e0, Nat.add_mul_mod_self_left, Nat.mod_eq_of_lt h3]
    rw [e1, e2]
    exact Nat.mul_lt_mul_of_pos_right (by omega) (Nat.two_pow_pos _)
  · have e0 : r + 1 = B * (r / B + 1) := by rw [Nat.mul_add]; omega
    have e1 : (r + 1) / B = r / B + 1 := by conv => lhs; rw [e0, Nat.mul_div_cancel_left _ hb]
    have e2 : (r + 1) % B = 0 := by conv => lhs; rw [e0, Nat.mul_mod_right]
    rw [e1, e2]
    obtain ⟨q, hqq⟩ : ∃ q, r / B = q + 1 := ⟨r / B - 1, by omega⟩
    rw [hqq, Nat.add_sub_cancel, Nat.add_sub_cancel, Nat.pow_succ, Nat.add_zero, ← Nat.mul_assoc, Nat.mul_right_comm]
    exact Nat.mul_lt_mul_of_pos_right (by omega) (Nat.two_pow_pos _)
theorem V_mono {r r' : Nat} (h : r < r') : V f r < V f r' := by
  induction r' with
  | zero => omega
  | succ k ih =>
    by_cases e : r = k
    · subst e; exact V_succ f r
    · exact Nat.lt_trans (ih (by omega)) (V_succ f k)
theorem V_le {r r' : Nat} (h : r ≤ r') : V f r ≤ V f r' := by
  rcases Nat.eq_or_lt_of_le h with e | h
  · rw [e]; exact Nat.le_refl _
  · exact Nat.le_of_lt (V_mono f h)
theorem V_zero : V f 0 = 0 := by unfold V; rw [if_pos (binade_pos f)]
theorem V_inj {r r' : Nat} (h : V f r = V f r') : r = r' := by
  rcases Nat.lt_trichotomy r r' with h1 | h1 | h1
  · have := V_mono f h1; omega
  · exact h1
  · have := V_mono f h1; omega
theorem V_le_iff {r r' : Nat} : V f r ≤ V f r' ↔ r ≤ r' := by
  refine ⟨fun h => ?_, V_le f⟩
  rcases Nat.lt_or_ge r' r with h1 | h1
  · have := V_mono f h1; omega
  · exact h1

def negW (x : Nat) : Bool := x / f.signWeight % 2 == 1
def rungW (x : Nat) : Nat := x % f.signWeight
/-- no NaN -/
def numW (x : Nat) : Bool := decide (rungW f x ≤ f.infRung)
def finW (x : Nat) : Bool := decide (rungW f x < f.infRung)

theorem read_fin {x : Nat} (h : rungW f x < f.infRung) : ∃ m i, f.read x = .number (negW f x) m i ∧ f.leastPlace ≤ i ∧ m * 2 ^ (i - f.leastPlace).toNat = V f (rungW f x) := by
  unfold rungW at *
  unfold Format.read negW V
  simp only
  generalize x % f.signWeight = r at *
  by_cases h1 : r < f.binade
  · rw [if_pos h1, if_pos h1]
    exact ⟨_, _, rfl, Int.le_refl _, by simp⟩
  · rw [if_neg h1, if_pos h, if_neg h1]
    refine ⟨_, _, rfl, by omega, ?_⟩
    have e : (f.leastPlace + ((r / f.binade - 1 : Nat) : Int) - f.leastPlace).toNat = r / f.binade - 1 := by omega
    rw [e]
theorem read_inf (hf : f.binade ≤ f.infRung) {x : Nat} (h : rungW f x = f.infRung) : f.read x = .infinity (negW f x) := by
  unfold rungW at *
  unfold Format.read negW
  simp only
  rw [h, if_neg (by omega), if_neg (by omega), if_pos rfl]
theorem read_nan (hf : f.binade ≤ f.infRung) {x : Nat} (h : f.infRung < rungW f x) : ∃ t, f.read x = .nan (negW f x) t := by
  unfold rungW at *
  unfold Format.read negW
  simp only
  rw [if_neg (by omega), if_neg (by omega), if_neg (by omega)]
  exact ⟨_, rfl⟩

/-- a word's place among all -/
def key (x : Nat) : Int := sg (negW f x) (rungW f x)
theorem sg_lt {s t : Bool} {a b a' b' : Nat} (h : a < b ↔ a' < b') (h2 : b < a ↔ b' < a') (h3 : a = 0 ↔ a' = 0) (h4 : b = 0 ↔ b' = 0) : compare (sg s a) (sg t b) = compare (sg s a') (sg t b') := by
  rw [cmp_def, cmp_def]
  have e1 : sg s a < sg t b ↔ sg s a' < sg t b' := by unfold sg; cases s <;> cases t <;> simp <;> omega
  have e2 : sg s a = sg t b ↔ sg s a' = sg t b' := by unfold sg; cases s <;> cases t <;> simp <;> omega
  simp only [e1, e2]

/-- THE ORDER OF TWO WORDS IS THE ORDER OF THEIR KEYS. -/
theorem order_key (hf : f.binade ≤ f.infRung) {x y : Nat} (hx : numW f x = true) (hy : numW f y = true) : f.order x y = some (compare (key f x) (key f y)) := by
  unfold numW at hx hy
  simp only [decide_eq_true_eq] at hx hy
  have hb := binade_pos f
  unfold Format.order
  rcases Nat.eq_or_lt_of_le hx with ex | hx <;> rcases Nat.eq_or_lt_of_le hy with ey | hy
  · rw [read_inf f hf ex, read_inf f hf ey]
    unfold key
    rw [ex, ey]
    have c00 : compare (Bool.toNat false) (Bool.toNat false) = .eq := by decide
    have c01 : compare (Bool.toNat true) (Bool.toNat false) = .gt := by decide
    have c10 : compare (Bool.toNat false) (Bool.toNat true) = .lt := by decide
    have c11 : compare (Bool.toNat true) (Bool.toNat true) = .eq := by decide
    cases negW f x <;> cases negW f y <;> simp only [Datum.order, sg, c00, c01, c10, c11, Bool.false_eq_true, if_false, if_true] <;> rw [cmp_def]
    · rw [if_neg (by omega), if_pos rfl]
    · rw [if_neg (by omega), if_neg (by omega)]
    · rw [if_pos (by omega)]
    · rw [if_neg (by omega), if_pos rfl]
  · rw [read_inf f hf ex]
    obtain ⟨m, i, e, -, -⟩ := read_fin f hy
    rw [e]
    unfold key
    rw [ex]
    cases negW f x <;> cases negW f y <;> simp only [Datum.order, sg, Bool.false_eq_true, if_false, if_true] <;> rw [cmp_def] <;> first | rw [if_pos (by omega)] | rw [if_neg (by omega), if_neg (by omega)]
  · rw [read_inf f hf ey]
    obtain ⟨m, i, e, -, -⟩ := read_fin f hx
    rw [e]
    unfold key
    rw [ey]
    cases negW f x <;> cases negW f y <;> simp only [Datum.order, sg, Bool.false_eq_true, if_false, if_true] <;> rw [cmp_def] <;> first | rw [if_pos (by omega)] | rw [if_neg (by omega), if_neg (by omega)]
  · obtain ⟨m, i, e, hi, hv⟩ := read_fin f hx
    obtain ⟨n, j, e', hj, hv'⟩ := read_fin f hy
    rw [e, e', order_base hi hj, hv, hv']
    unfold key
    congr 1
    refine sg_lt ?_ ?_ ?_ ?_
    · constructor
      · intro h; rcases Nat.lt_or_ge (rungW f x) (rungW f y) with h1 | h1
        · exact h1
        · have := V_le f h1; omega
      · exact V_mono f
    · constructor
      · intro h; rcases Nat.lt_or_ge (rungW f y) (rungW f x) with h1 | h1
        · exact h1
        · have := V_le f h1; omega
      · exact V_mono f
    · exact ⟨fun h => V_inj f (h.trans (V_zero f).symm), fun h => by rw [h, V_zero]⟩
    · exact ⟨fun h => V_inj f (h.trans (V_zero f).symm), fun h => by rw [h, V_zero]⟩
theorem order_nan (hf : f.binade ≤ f.infRung) {x y : Nat} (h : numW f x = false ∨ numW f y = false) : f.order x y = none := by
  unfold numW at h
  simp only [decide_eq_false_iff_not, Nat.not_le] at h
  unfold Format.order
  rcases h with h | h
  · obtain ⟨t, e⟩ := read_nan f hf h
    rw [e]; rfl
  · obtain ⟨t, e⟩ := read_nan f hf h
    rw [e]
    cases f.read x <;> rfl
end

end Go.Proofs.YtbfheehaagcmeaaDoor.flo
namespace Go.Proofs.YtbfheehaagcmeaaDoor.flo
open Ieee

/-! ### to the nearest whole number, ties to even -/
def rnd (n g : Nat) : Nat := n / g + if g < 2 * (n % g) ∨ (g = 2 * (n % g) ∧ n / g % 2 = 1) then 1 else 0
theorem rnd_mul {n g c : Nat} (hc : 0 < c) : rnd (n * c) (g * c) = rnd n g := by
  unfold rnd
  rw [Nat.mul_div_mul_right _ _ hc, Nat.mul_mod_mul_right]
  have h1 : g * c < 2 * (n % g * c) ↔ g < 2 * (n % g) := by rw [← Nat.mul_assoc]; exact Nat.mul_lt_mul_right hc
  have h2 : g * c = 2 * (n % g * c) ↔ g = 2 * (n % g) := by
    rw [← Nat.mul_assoc]; exact ⟨fun h => Nat.eq_of_mul_eq_mul_right hc h, fun h => by rw [← h]⟩
  simp only [h1, h2]
theorem rnd_one (n : Nat) : rnd n 1 = n := by
  unfold rnd; rw [Nat.mod_one, if_neg (by omega), Nat.div_one, Nat.add_zero]
theorem rnd_exact {n g : Nat} (hg : 0 < g) : rnd (n * g) g = n := by
  have := rnd_mul (n := n) (g := 1) hg
  rw [Nat.one_mul] at this
  rw [this, rnd_one]
theorem rnd_mono {n n' g : Nat} (hg : 0 < g) (h : n ≤ n') : rnd n g ≤ rnd n' g := by
  unfold rnd
  have hd := Nat.div_add_mod n g
  have hd' := Nat.div_add_mod n' g
  have hm := Nat.mod_lt n hg
  have hm' := Nat.mod_lt n' hg
  have hq : n / g ≤ n' / g := Nat.div_le_div_right h
  rcases Nat.eq_or_lt_of_le hq with e | hlt
  · rw [e] at hd ⊢
    have hr : n % g ≤ n' % g := by omega
    split
    · rename_i h1
      rw [if_pos ?_]
      · exact Nat.le_refl _
      · rcases h1 with h1 | h1
        · left; omega
        · rcases Nat.eq_or_lt_of_le hr with e2 | h2
          · right; rw [← e2]; exact h1
          · left; omega
    · omega
  · have h1 : (if g < 2 * (n % g) ∨ (g = 2 * (n % g) ∧ n / g % 2 = 1) then 1 else 0) ≤ 1 := by split <;> omega
    omega
theorem rnd_le {n g K : Nat} (hg : 0 < g) (h : n ≤ K * g) : rnd n g ≤ K := by
  have := rnd_mono hg h; rwa [rnd_exact hg] at this
theorem rnd_ge {n g K : Nat} (hg : 0 < g) (h : K * g ≤ n) : K ≤ rnd n g := by
  have := rnd_mono hg h; rwa [rnd_exact hg] at this

theorem log_le (n : Nat) (h : n ≠ 0) : 2 ^ n.log2 ≤ n := Nat.log2_self_le h
theorem lt_log (n : Nat) : n < 2 ^ (n.log2 + 1) := Nat.lt_log2_self
theorem log_unique {n k : Nat} (h1 : 2 ^ k ≤ n) (h2 : n < 2 ^ (k + 1)) : n.log2 = k := by
  have hn : n ≠ 0 := by have := Nat.two_pow_pos k; omega
  exact (Nat.log2_eq_iff hn).2 ⟨h1, h2⟩
theorem log_mul {n k : Nat} (h : n ≠ 0) : (n * 2 ^ k).log2 = n.log2 + k := by
  apply log_unique
  · rw [Nat.pow_add]; exact Nat.mul_le_mul_right _ (log_le n h)
  · rw [show n.log2 + k + 1 = n.log2 + 1 + k by omega, Nat.pow_add]
    exact Nat.mul_lt_mul_of_pos_right (lt_log n) (Nat.two_pow_pos _)

theorem rnd_far {n d : Nat} (h : n.log2 + 2 ≤ d) : rnd n (2 ^ d) = 0 := by
  have h1 := lt_log n
  have h2 : 2 ^ (n.log2 + 2) ≤ 2 ^ d := Nat.pow_le_pow_right (by omega) h
  have h3 : 2 ^ (n.log2 + 2) = 2 * 2 ^ (n.log2 + 1) := by rw [Nat.pow_succ]; omega
  unfold rnd
  rw [Nat.div_eq_of_lt (by omega), Nat.mod_eq_of_lt (by omega), if_neg (by omega)]
theorem cut_even (neg : Bool) (n drop : Nat) : Toward.even.cut neg n drop = rnd n (2 ^ drop) := by
  have h0 : Toward.even.cut neg n drop = rnd n (2 ^ min drop (n.log2 + 2)) := by
    unfold Toward.cut rnd
    simp only [Nat.one_shiftLeft]
    congr 1
    generalize 2 ^ min drop (n.log2 + 2) = g
    by_cases h1 : g < 2 * (n % g)
    · rw [if_pos (.inl h1)]; simp [h1]
    · by_cases h2 : g = 2 * (n % g) ∧ n / g % 2 = 1
      · rw [if_pos (.inr h2)]
        have h3 : (g == 2 * (n % g)) = true := by simp; exact h2.1
        simp [h3, h2.2]
      · rw [if_neg (by rintro (h | h); exact h1 h; exact h2 h)]
        have h3 : (decide (g < 2 * (n % g)) || (g == 2 * (n % g) && n / g % 2 == 1)) = false := by
          rw [Bool.or_eq_false_iff]
          refine ⟨by simpa using h1, ?_⟩
          rw [Bool.eq_false_iff]; intro h; simp only [Bool.and_eq_true, beq_iff_eq] at h; exact h2 h
        rw [h3]; rfl
  rw [h0]
  by_cases h : drop ≤ n.log2 + 2
  · rw [Nat.min_eq_left h]
  · rw [Nat.min_eq_right (by omega), rnd_far (Nat.le_refl _), rnd_far (by omega)]

section
variable (f : Format)

/-- the rung nearest to m * 2 ^ p -/
def nr (m : Nat) (p : Int) : Nat :=
  if m = 0 then 0 else
  min ((max (p + m.log2 - f.fractionBits) f.leastPlace - f.leastPlace).toNat * f.binade + rnd (m * 2 ^ (p - max (p + m.log2 - f.fractionBits) f.leastPlace).toNat) (2 ^ (max (p + m.log2 - f.fractionBits) f.leastPlace - p).toNat)) f.infRung
theorem nearest_eq (neg : Bool) (m : Nat) (p : Int) : f.nearest neg m p = f.word neg (nr f m p) := by
  unfold Format.nearest nr
  split
  · rfl
  · simp only [cut_even, Nat.shiftLeft_eq]
theorem nr_zero (p : Int) : nr f 0 p = 0 := by unfold nr; rw [if_pos rfl]
theorem nr_inf (m : Nat) (p : Int) : nr f m p ≤ f.infRung := by
  unfold nr; split
  · omega
  · exact Nat.min_le_right _ _

/-- the same number written otherwise -/
theorem nr_scale (m k : Nat) (p : Int) : nr f (m * 2 ^ k) (p - k) = nr f m p := by
  unfold nr
  by_cases hm : m = 0
  · rw [if_pos hm, if_pos (by rw [hm, Nat.zero_mul])]
  have hm2 : m * 2 ^ k ≠ 0 := Nat.mul_ne_zero hm (by have := Nat.two_pow_pos k; omega)
  rw [if_neg hm, if_neg hm2, log_mul hm]
  have e1 : p - (k : Int) + ((m.log2 + k : Nat) : Int) - f.fractionBits = p + m.log2 - f.fractionBits := by omega
  rw [e1]
  generalize max (p + (m.log2 : Int) - f.fractionBits) f.leastPlace = l
  congr 2
  rcases Int.le_total l p with h | h
  · by_cases hk : (k : Int) ≤ p - l
    · rw [show (l - (p - (k : Int))).toNat = 0 by omega, show (l - p).toNat = 0 by omega, Nat.mul_assoc, ← Nat.pow_add, show k + (p - (k : Int) - l).toNat = (p - l).toNat by omega]
    · rw [show (p - (k : Int) - l).toNat = 0 by omega, show (l - p).toNat = 0 by omega, Nat.pow_zero, Nat.mul_one]
      have e2 : 2 ^ k = 2 ^ (p - l).toNat * 2 ^ (l - (p - (k : Int))).toNat := by rw [← Nat.pow_add]; congr 1; omega
      rw [e2, ← Nat.mul_assoc]
      have := rnd_mul (n := m * 2 ^ (p - l).toNat) (g := 1) (Nat.two_pow_pos (l - (p - (k : Int))).toNat)
      rw [Nat.one_mul] at this
      exact this
  · rw [show (p - (k : Int) - l).toNat = 0 by omega, show (p - l).toNat = 0 by omega, Nat.pow_zero, Nat.mul_one, Nat.mul_one]
    have e2 : 2 ^ (l - (p - (k : Int))).toNat = 2 ^ (l - p).toNat * 2 ^ k := by rw [← Nat.pow_add]; congr 1; omega
    rw [e2]
    exact rnd_mul (Nat.two_pow_pos k)

/-- ROUNDING RISES. -/
theorem nr_mono {X Y : Nat} (b : Int) (h : X ≤ Y) : nr f X b ≤ nr f Y b := by
  by_cases hX : X = 0
  · rw [hX, nr_zero]; omega
  have hY : Y ≠ 0 := by omega
  unfold nr
  rw [if_neg hX, if_neg hY]
  have hL : X.log2 ≤ Y.log2 := by
    rcases Nat.lt_or_ge Y.log2 X.log2 with h1 | h1
    · have h2 := log_le X hX
      have h3 := lt_log Y
      have h4 : 2 ^ (Y.log2 + 1) ≤ 2 ^ X.log2 := Nat.pow_le_pow_right (by omega) h1
      omega
    · exact h1
  have hmin : ∀ a c K : Nat, a ≤ c → min a K ≤ min c K := by intro a c K h; omega
  apply hmin
  obtain ⟨l, hl⟩ : ∃ l, l = max (b + (X.log2 : Int) - f.fractionBits) f.leastPlace := ⟨_, rfl⟩
  obtain ⟨l', hl'⟩ : ∃ l', l' = max (b + (Y.log2 : Int) - f.fractionBits) f.leastPlace := ⟨_, rfl⟩
  rw [← hl, ← hl']
  have hll : l ≤ l' := by omega
  rcases Int.lt_or_eq_of_le hll with hlt | e
  · -- the lower one lies below
    have hk : rnd (X * 2 ^ (b - l).toNat) (2 ^ (l - b).toNat) ≤ 2 ^ (f.fractionBits + 1) := by
      apply rnd_le (Nat.two_pow_pos _)
      have h1 := lt_log X
      rcases Int.le_total l b with h2 | h2
      · rw [show (l - b).toNat = 0 by omega, Nat.pow_zero, Nat.mul_one]
        have h3 : X * 2 ^ (b - l).toNat ≤ 2 ^ (X.log2 + 1) * 2 ^ (b - l).toNat := Nat.mul_le_mul_right _ (Nat.le_of_lt h1)
        rw [← Nat.pow_add] at h3
        exact Nat.le_trans h3 (Nat.pow_le_pow_right (by omega) (by omega))
      · rw [show (b - l).toNat = 0 by omega, Nat.pow_zero, Nat.mul_one, ← Nat.pow_add]
        exact Nat.le_trans (Nat.le_of_lt h1) (Nat.pow_le_pow_right (by omega) (by omega))
    have hk' : 2 ^ f.fractionBits ≤ rnd (Y * 2 ^ (b - l').toNat) (2 ^ (l' - b).toNat) := by
      apply rnd_ge (Nat.two_pow_pos _)
      have h1 := log_le Y hY
      have hl2 : l' = b + (Y.log2 : Int) - f.fractionBits := by omega
      rcases Int.le_total l' b with h2 | h2
      · rw [show (l' - b).toNat = 0 by omega, Nat.pow_zero, Nat.mul_one]
        have h3 : 2 ^ Y.log2 * 2 ^ (b - l').toNat ≤ Y * 2 ^ (b - l').toNat := Nat.mul_le_mul_right _ h1
        rw [← Nat.pow_add] at h3
        exact Nat.le_trans (Nat.pow_le_pow_right (by omega) (by omega)) h3
      · rw [show (b - l').toNat = 0 by omega, Nat.pow_zero, Nat.mul_one, ← Nat.pow_add]
        exact Nat.le_trans (Nat.pow_le_pow_right (by omega) (by omega)) h1
    have e1 : f.binade = 2 ^ f.fractionBits := rfl
    rw [e1]
    have h5 : ((l - f.leastPlace).toNat + 1) * 2 ^ f.fractionBits ≤ (l' - f.leastPlace).toNat * 2 ^ f.fractionBits := Nat.mul_le_mul_right _ (by omega)
    rw [Nat.add_mul, Nat.one_mul] at h5
    rw [Nat.pow_succ] at hk
    omega
  · rw [← e]
    exact Nat.add_le_add_left (rnd_mono (Nat.two_pow_pos _) (Nat.mul_le_mul_right _ h)) _

/-- WHAT THE FORMAT HAS IS NOT ROUNDED. -/
theorem nr_V {r : Nat} (h : r ≤ f.infRung) : nr f (V f r) f.leastPlace = r := by
  have hb := binade_pos f
  have e1 : f.binade = 2 ^ f.fractionBits := rfl
  by_cases h1 : r < f.binade
  · unfold V
    rw [if_pos h1]
    unfold nr
    by_cases h0 : r = 0
    · rw [if_pos h0, h0]
    rw [if_neg h0]
    have h2 : r.log2 < f.fractionBits := by
      rcases Nat.lt_or_ge r.log2 f.fractionBits with h3 | h3
      · exact h3
      · have h4 := log_le r h0
        have h5 : 2 ^ f.fractionBits ≤ 2 ^ r.log2 := Nat.pow_le_pow_right (by omega) h3
        omega
    rw [show max (f.leastPlace + (r.log2 : Int) - f.fractionBits) f.leastPlace = f.leastPlace by omega]
    simp only [Int.sub_self, Int.toNat_zero, Nat.zero_mul, Nat.pow_zero, Nat.mul_one, rnd_one, Nat.zero_add]
    omega
  · unfold V
    rw [if_neg h1]
    have hd := Nat.div_add_mod r f.binade
    have hm := Nat.mod_lt r hb
    have hq : 1 ≤ r / f.binade := by rw [Nat.le_div_iff_mul_le hb]; omega
    have e2 := nr_scale f (f.binade + r % f.binade) (r / f.binade - 1) (f.leastPlace + ((r / f.binade - 1 : Nat) : Int))
    rw [show f.leastPlace + ((r / f.binade - 1 : Nat) : Int) - ((r / f.binade - 1 : Nat) : Int) = f.leastPlace by omega] at e2
    rw [e2]
    have hlog : (f.binade + r % f.binade).log2 = f.fractionBits := log_unique (by omega) (by rw [Nat.pow_succ]; omega)
    unfold nr
    rw [if_neg (by omega), hlog]
    rw [show max (f.leastPlace + ((r / f.binade - 1 : Nat) : Int) + (f.fractionBits : Int) - f.fractionBits) f.leastPlace = f.leastPlace + ((r / f.binade - 1 : Nat) : Int) by omega]
    rw [show (f.leastPlace + ((r / f.binade - 1 : Nat) : Int) - f.leastPlace).toNat = r / f.binade - 1 by omega]
    simp only [Int.sub_self, Int.toNat_zero, Nat.pow_zero, Nat.mul_one, rnd_one]
    have e3 : (r / f.binade - 1) * f.binade + (f.binade + r % f.binade) = r := by
      have : (r / f.binade - 1) * f.binade + f.binade = r / f.binade * f.binade := by
        conv => rhs; rw [show r / f.binade = (r / f.binade - 1) + 1 by omega, Nat.add_mul, Nat.one_mul]
      rw [Nat.mul_comm] at hd
      omega
    rw [e3]
    omega
/-- .. over any place -/
theorem nr_of {m : Nat} {p b : Int} {r : Nat} (hr : r ≤ f.infRung) (hp : b ≤ p) (hb : b ≤ f.leastPlace) (h : m * 2 ^ (p - b).toNat = V f r * 2 ^ (f.leastPlace - b).toNat) : nr f m p = r := by
  have e1 := nr_scale f m (p - b).toNat p
  have e2 := nr_scale f (V f r) (f.leastPlace - b).toNat f.leastPlace
  rw [show p - ((p - b).toNat : Int) = b by omega] at e1
  rw [show f.leastPlace - ((f.leastPlace - b).toNat : Int) = b by omega] at e2
  rw [← e1, h, e2, nr_V f hr]
/-- two numbers over a common place -/
theorem nr_le {m n : Nat} {p q b : Int} (hp : b ≤ p) (hq : b ≤ q) (h : m * 2 ^ (p - b).toNat ≤ n * 2 ^ (q - b).toNat) : nr f m p ≤ nr f n q := by
  have e1 := nr_scale f m (p - b).toNat p
  have e2 := nr_scale f n (q - b).toNat q
  rw [show p - ((p - b).toNat : Int) = b by omega] at e1
  rw [show q - ((q - b).toNat : Int) = b by omega] at e2
  rw [← e1, ← e2]
  exact nr_mono f b h

theorem word_read (s : Bool) {r : Nat} (h : r < f.signWeight) : negW f (f.word s r) = s ∧ rungW f (f.word s r) = r := by
  unfold negW rungW Format.word
  cases s
  · simp only [Bool.false_eq_true, if_false]
    rw [Nat.div_eq_of_lt h, Nat.mod_eq_of_lt h]
    exact ⟨rfl, rfl⟩
  · simp only [if_true]
    have hp : 0 < f.signWeight := by omega
    rw [Nat.add_comm, Nat.add_div_right _ hp, Nat.div_eq_of_lt h, Nat.add_mod_right, Nat.mod_eq_of_lt h]
    exact ⟨rfl, rfl⟩
end

end Go.Proofs.YtbfheehaagcmeaaDoor.flo
namespace Go.Proofs.YtbfheehaagcmeaaDoor.flo
open Ieee

theorem sg_natAbs (s : Bool) (n : Nat) : (sg s n).natAbs = n := by unfold sg; split <;> omega
theorem sg_nonneg {s : Bool} {n : Nat} (h : 0 ≤ sg s n) : n = 0 ∨ s = false := by
  cases s
  · exact .inr rfl
  · unfold sg at h; simp at h; left; omega

section
variable (f : Format)

/-- what a finite word stands for, over the least place -/
def val (x : Nat) : Int := sg (negW f x) (V f (rungW f x))
/-- a word for a number over the least place -/
def toW (s : Bool) (T : Int) : Nat := f.word (if T = 0 then s else decide (T < 0)) (nr f T.natAbs f.leastPlace)

theorem inf_lt : f.infRung < f.signWeight := f.infRung_lt
theorem toW_rung (s : Bool) (T : Int) : rungW f (toW f s T) = nr f T.natAbs f.leastPlace := by
  have := nr_inf f T.natAbs f.leastPlace
  have := inf_lt f
  exact (word_read f _ (by omega)).2
theorem toW_neg (s : Bool) (T : Int) : negW f (toW f s T) = if T = 0 then s else decide (T < 0) := by
  have := nr_inf f T.natAbs f.leastPlace
  have := inf_lt f
  exact (word_read f _ (by omega)).1

theorem sum_write {s t : Bool} {m n : Nat} {i j : Int} (hi : f.leastPlace ≤ i) (hj : f.leastPlace ≤ j) :
    ((Datum.number s m i).sum (.number t n j)).map f.write = some (toW f (s && t) (sg s (m * 2 ^ (i - f.leastPlace).toNat) + sg t (n * 2 ^ (j - f.leastPlace).toNat))) := by
  show some (f.nearest _ _ _) = _
  rw [nearest_eq, signed_eq, signed_eq]
  congr 1
  have e1 : (i - f.leastPlace).toNat = (i - min i j).toNat + (min i j - f.leastPlace).toNat := by omega
  have e2 : (j - f.leastPlace).toNat = (j - min i j).toNat + (min i j - f.leastPlace).toNat := by omega
  have hT : sg s (m * 2 ^ (i - f.leastPlace).toNat) + sg t (n * 2 ^ (j - f.leastPlace).toNat) = (sg s (m * 2 ^ (i - min i j).toNat) + sg t (n * 2 ^ (j - min i j).toNat)) * ((2 ^ (min i j - f.leastPlace).toNat : Nat) : Int) := by
    rw [e1, e2, Nat.pow_add, Nat.pow_add, ← Nat.mul_assoc, ← Nat.mul_assoc, sg_mul s (m * 2 ^ (i - min i j).toNat), sg_mul t (n * 2 ^ (j - min i j).toNat), Int.add_mul]
  rw [hT]
  generalize sg s (m * 2 ^ (i - min i j).toNat) + sg t (n * 2 ^ (j - min i j).toNat) = tot
  have hp : 0 < ((2 ^ (min i j - f.leastPlace).toNat : Nat) : Int) := by exact_mod_cast Nat.two_pow_pos _
  unfold toW
  rw [Int.natAbs_mul, Int.natAbs_natCast]
  have e3 := nr_scale f tot.natAbs (min i j - f.leastPlace).toNat (min i j)
  rw [show min i j - (((min i j - f.leastPlace).toNat : Nat) : Int) = f.leastPlace by omega] at e3
  rw [e3]
  congr 1
  have h1 : tot * ((2 ^ (min i j - f.leastPlace).toNat : Nat) : Int) = 0 ↔ tot = 0 := by
    constructor
    · intro h; rcases Int.mul_eq_zero.1 h with h | h
      · exact h
      · omega
    · intro h; rw [h, Int.zero_mul]
  have h2 : tot * ((2 ^ (min i j - f.leastPlace).toNat : Nat) : Int) < 0 ↔ tot < 0 := by
    constructor
    · intro h
      by_cases h3 : tot < 0
      · exact h3
      · have := Int.mul_nonneg (Int.not_lt.1 h3) (Int.le_of_lt hp); omega
    · intro h; exact Int.mul_neg_of_neg_of_pos h hp
  simp only [h1, h2]

theorem sub_fin {x y : Nat} (hx : finW f x = true) (hy : finW f y = true) : f.sub x y = some (toW f (negW f x && !negW f y) (val f x - val f y)) := by
  unfold finW at hx hy
  simp only [decide_eq_true_eq] at hx hy
  obtain ⟨m, i, e, hi, hv⟩ := read_fin f hx
  obtain ⟨n, j, e', hj, hv'⟩ := read_fin f hy
  unfold Format.sub
  rw [e, e']
  show ((Datum.number (negW f x) m i).sum (.number (!negW f y) n j)).map f.write = _
  rw [sum_write f hi hj, hv, hv']
  congr 2
  unfold val sg
  cases negW f x <;> cases negW f y <;> simp <;> omega
theorem add_fin {x y : Nat} (hx : finW f x = true) (hy : finW f y = true) : f.add x y = some (toW f (negW f x && negW f y) (val f x + val f y)) := by
  unfold finW at hx hy
  simp only [decide_eq_true_eq] at hx hy
  obtain ⟨m, i, e, hi, hv⟩ := read_fin f hx
  obtain ⟨n, j, e', hj, hv'⟩ := read_fin f hy
  unfold Format.add
  rw [e, e', sum_write f hi hj, hv, hv']
  rfl
theorem mul_fin {x y : Nat} (hx : finW f x = true) (hy : finW f y = true) : ∃ m i n j, f.mul x y = some (f.word (negW f x ^^ negW f y) (nr f (m * n) (i + j))) ∧ f.leastPlace ≤ i ∧ m * 2 ^ (i - f.leastPlace).toNat = V f (rungW f x) ∧ f.leastPlace ≤ j ∧ n * 2 ^ (j - f.leastPlace).toNat = V f (rungW f y) := by
  unfold finW at hx hy
  simp only [decide_eq_true_eq] at hx hy
  obtain ⟨m, i, e, hi, hv⟩ := read_fin f hx
  obtain ⟨n, j, e', hj, hv'⟩ := read_fin f hy
  refine ⟨m, i, n, j, ?_, hi, hv, hj, hv'⟩
  unfold Format.mul
  rw [e, e']
  show some (f.nearest _ _ _) = _
  rw [nearest_eq]

/-- a half -/
def halfR (v : Nat) : Nat := nr f v (f.leastPlace - 1)
theorem halfR_mono {v v' : Nat} (h : v ≤ v') : halfR f v ≤ halfR f v' := nr_mono f _ h
theorem halfR_le {r : Nat} (h : r ≤ f.infRung) : halfR f (V f r) ≤ r := by
  have h1 : halfR f (V f r) ≤ nr f (V f r * 2 ^ 1) (f.leastPlace - (1 : Nat)) := nr_mono f _ (by omega)
  rwa [nr_scale f (V f r) 1 f.leastPlace, nr_V f h] at h1
theorem halfR_zero : halfR f 0 = 0 := nr_zero f _
theorem halfR_of {r r2 : Nat} (hr : r2 ≤ f.infRung) (h : V f r = V f r2 * 2) : halfR f (V f r) = r2 := by
  unfold halfR
  refine nr_of f hr (b := f.leastPlace - 1) (Int.le_refl _) (by omega) ?_
  rw [Int.sub_self, show (f.leastPlace - (f.leastPlace - 1)).toNat = 1 by omega, h]
  simp
theorem half_fin {x y : Nat} (hx : finW f x = true) {k : Nat} {j : Int} (hy : f.read y = .number false (2 ^ k) j) (hj : j + k = 1) (hm : ∀ m i, f.read x = .number (negW f x) m i → m.log2 ≤ f.fractionBits + 2) :
    f.div x y = some (f.word (negW f x) (halfR f (V f (rungW f x)))) := by
  unfold finW at hx
  simp only [decide_eq_true_eq] at hx
  obtain ⟨m, i, e, hi, hv⟩ := read_fin f hx
  have hml := hm m i e
  unfold Format.div
  rw [e, hy]
  have hk : (2 : Nat) ^ k ≠ 0 := by have := Nat.two_pow_pos k; omega
  show ((if 2 ^ k = 0 then _ else some (Datum.number (negW f x ^^ false) (2 * ((m <<< (f.fractionBits + 2 + (2 ^ k).log2 - m.log2)) / 2 ^ k) + ((m <<< (f.fractionBits + 2 + (2 ^ k).log2 - m.log2)) % 2 ^ k != 0).toNat) (i - j - ((f.fractionBits + 2 + (2 ^ k).log2 - m.log2 : Nat) : Int) - 1)) : Option Datum)).map f.write = _
  rw [if_neg hk, Nat.log2_two_pow, Nat.shiftLeft_eq]
  obtain ⟨d, hd⟩ : ∃ d, f.fractionBits + 2 + k - m.log2 = k + d := ⟨f.fractionBits + 2 - m.log2, by omega⟩
  rw [hd, Nat.pow_add, show m * (2 ^ k * 2 ^ d) = m * 2 ^ d * 2 ^ k by rw [Nat.mul_assoc, Nat.mul_comm (2 ^ d)], Nat.mul_div_cancel _ (Nat.two_pow_pos k), Nat.mul_mod_left]
  show some (f.nearest _ _ _) = _
  rw [nearest_eq]
  congr 2
  · simp
  · have e1 : 2 * (m * 2 ^ d) + ((0 : Nat) != 0).toNat = m * 2 ^ (d + 1) := by
      show 2 * (m * 2 ^ d) + 0 = _
      rw [Nat.pow_succ, ← Nat.mul_assoc m]; omega
    rw [e1]
    unfold halfR
    rw [← hv]
    have e2 := nr_scale f m (d + 1) (i - 1)
    have e3 := nr_scale f m (i - f.leastPlace).toNat (i - 1)
    rw [show i - 1 - ((d + 1 : Nat) : Int) = i - j - ((k + d : Nat) : Int) - 1 by omega] at e2
    rw [show i - 1 - (((i - f.leastPlace).toNat : Nat) : Int) = f.leastPlace - 1 by omega] at e3
    rw [e2, e3]

/-- A QUOTIENT OF TWO NUMBERS, the first no greater than the second. -/
theorem quot_le {x y : Nat} (hx : finW f x = true) (hy : finW f y = true) (hy0 : rungW f y ≠ 0) (hxy : rungW f x ≤ rungW f y) {r1 : Nat} (hr1 : r1 ≤ f.infRung) (hone : V f r1 = 2 ^ (- f.leastPlace).toNat) (hl : f.leastPlace ≤ 0)
    (hm : ∀ m i, f.read x = .number (negW f x) m i → m.log2 ≤ f.fractionBits + 2) :
    ∃ r, f.div x y = some (f.word (negW f x ^^ negW f y) r) ∧ r ≤ r1 := by
  unfold finW at hx hy
  simp only [decide_eq_true_eq] at hx hy
  obtain ⟨m, i, e, hi, hv⟩ := read_fin f hx
  obtain ⟨n, j, e', hj, hv'⟩ := read_fin f hy
  have hml := hm m i e
  have hn : n ≠ 0 := by
    intro h; rw [h, Nat.zero_mul] at hv'
    exact hy0 (V_inj f (hv'.symm.trans (V_zero f).symm))
  unfold Format.div
  rw [e, e']
  show ∃ r, ((if n = 0 then _ else some (Datum.number (negW f x ^^ negW f y) (2 * ((m <<< (f.fractionBits + 2 + n.log2 - m.log2)) / n) + ((m <<< (f.fractionBits + 2 + n.log2 - m.log2)) % n != 0).toNat) (i - j - ((f.fractionBits + 2 + n.log2 - m.log2 : Nat) : Int) - 1)) : Option Datum)).map f.write = _ ∧ _
  rw [if_neg hn, Nat.shiftLeft_eq]
  refine ⟨nr f (2 * (m * 2 ^ (f.fractionBits + 2 + n.log2 - m.log2) / n) + (m * 2 ^ (f.fractionBits + 2 + n.log2 - m.log2) % n != 0).toNat) (i - j - ((f.fractionBits + 2 + n.log2 - m.log2 : Nat) : Int) - 1), ?_, ?_⟩
  · show some (f.nearest _ _ _) = _
    rw [nearest_eq]
  by_cases hm0 : m = 0
  · rw [hm0]
    have h0 : (2 * (0 * 2 ^ (f.fractionBits + 2 + n.log2 - (0 : Nat).log2) / n) + (0 * 2 ^ (f.fractionBits + 2 + n.log2 - (0 : Nat).log2) % n != 0).toNat) = 0 := by
      rw [Nat.zero_mul, Nat.zero_div, Nat.zero_mod]; rfl
    rw [h0, nr_zero]; omega
  obtain ⟨more, hmore⟩ : ∃ more, more = f.fractionBits + 2 + n.log2 - m.log2 := ⟨_, rfl⟩
  rw [← hmore]
  have hVle : m * 2 ^ (i - f.leastPlace).toNat ≤ n * 2 ^ (j - f.leastPlace).toNat := by rw [hv, hv']; exact V_le f hxy
  -- the dividend is greater than the divisor
  have hD : n < m * 2 ^ more := by
    have h1 := log_le m hm0
    have h2 := lt_log n
    have h3 : 2 ^ m.log2 * 2 ^ more ≤ m * 2 ^ more := Nat.mul_le_mul_right _ h1
    rw [← Nat.pow_add] at h3
    have h4 : 2 ^ (n.log2 + 1) ≤ 2 ^ (m.log2 + more) := Nat.pow_le_pow_right (by omega) (by omega)
    omega
  have hE : (i - f.leastPlace).toNat ≤ (j - f.leastPlace).toNat + more := by
    rcases Nat.lt_or_ge ((j - f.leastPlace).toNat + more) (i - f.leastPlace).toNat with h | h
    · exfalso
      have h5 : m * 2 ^ more * 2 ^ (i - f.leastPlace).toNat ≤ n * 2 ^ ((j - f.leastPlace).toNat + more) := by
        rw [Nat.mul_right_comm, Nat.pow_add, ← Nat.mul_assoc]; exact Nat.mul_le_mul_right _ hVle
      have h6 : n * 2 ^ ((j - f.leastPlace).toNat + more) ≤ n * 2 ^ (i - f.leastPlace).toNat := Nat.mul_le_mul_left _ (Nat.pow_le_pow_right (by omega) (by omega))
      have h7 := Nat.le_of_mul_le_mul_right (Nat.le_trans h5 h6) (Nat.two_pow_pos _)
      omega
    · exact h
  obtain ⟨E, hEE⟩ : ∃ E, (j - f.leastPlace).toNat + more = (i - f.leastPlace).toNat + E := ⟨(j - f.leastPlace).toNat + more - (i - f.leastPlace).toNat, by omega⟩
  have hDE : m * 2 ^ more ≤ n * 2 ^ E := by
    have h5 : m * 2 ^ more * 2 ^ (i - f.leastPlace).toNat ≤ n * 2 ^ E * 2 ^ (i - f.leastPlace).toNat := by
      have h6 : m * 2 ^ more * 2 ^ (i - f.leastPlace).toNat ≤ n * 2 ^ ((j - f.leastPlace).toNat + more) := by
        rw [Nat.mul_right_comm, Nat.pow_add, ← Nat.mul_assoc]; exact Nat.mul_le_mul_right _ hVle
      rw [hEE, Nat.add_comm, Nat.pow_add, ← Nat.mul_assoc] at h6
      exact h6
    exact Nat.le_of_mul_le_mul_right h5 (Nat.two_pow_pos _)
  have hq : 2 * (m * 2 ^ more / n) + (m * 2 ^ more % n != 0).toNat ≤ 2 ^ (E + 1) := by
    generalize m * 2 ^ more = D at *
    have h1 : D / n ≤ 2 ^ E := by rw [Nat.div_le_iff_le_mul_add_pred (by omega)]; omega
    have h2 := Nat.div_add_mod D n
    rw [Nat.pow_succ]
    rcases Nat.eq_or_lt_of_le h1 with h3 | h3
    · have h4 : D % n = 0 := by rw [h3] at h2; omega
      rw [h4, h3]; simp; omega
    · have h4 : (D % n != 0).toNat ≤ 1 := by cases (D % n != 0) <;> decide
      omega
  have h8 := nr_le f (m := 2 * (m * 2 ^ more / n) + (m * 2 ^ more % n != 0).toNat) (n := 2 ^ (E + 1)) (p := i - j - (more : Int) - 1) (q := i - j - (more : Int) - 1) (b := i - j - (more : Int) - 1) (Int.le_refl _) (Int.le_refl _) (by simpa using hq)
  have h9 : nr f (2 ^ (E + 1)) (i - j - (more : Int) - 1) = r1 := by
    have := nr_scale f 1 (E + 1) 0
    rw [Nat.one_mul, show (0 : Int) - ((E + 1 : Nat) : Int) = i - j - (more : Int) - 1 by omega] at this
    rw [this]
    exact nr_of f hr1 (b := f.leastPlace) hl (Int.le_refl _) (by rw [hone]; simp)
  omega

/-- what is whole of a number, cut towards zero -/
theorem cut_zero (s : Bool) (n drop : Nat) : Toward.zero.cut s n drop = n / 2 ^ drop := by
  unfold Toward.cut
  simp only [Nat.one_shiftLeft, Bool.toNat_false, Nat.add_zero]
  by_cases h : drop ≤ n.log2 + 2
  · rw [Nat.min_eq_left h]
  · rw [Nat.min_eq_right (by omega)]
    have h1 := lt_log n
    have h2 : 2 ^ (n.log2 + 1) ≤ 2 ^ (n.log2 + 2) := Nat.pow_le_pow_right (by omega) (by omega)
    have h3 : 2 ^ (n.log2 + 2) ≤ 2 ^ drop := Nat.pow_le_pow_right (by omega) (by omega)
    rw [Nat.div_eq_of_lt (by omega), Nat.div_eq_of_lt (by omega)]
theorem cut_down (n drop : Nat) : Toward.down.cut false n drop = n / 2 ^ drop := by
  rw [← cut_zero false]; rfl
theorem cut_down0 (s : Bool) (drop : Nat) : Toward.down.cut s 0 drop = 0 := by
  unfold Toward.cut; simp
theorem whole_V {m : Nat} {i l : Int} (hi : l ≤ i) (hl : l ≤ 0) : m <<< i.toNat / 2 ^ (-i).toNat = m * 2 ^ (i - l).toNat / 2 ^ (-l).toNat := by
  rw [Nat.shiftLeft_eq]
  rcases Int.le_total 0 i with h | h
  · rw [show (-i).toNat = 0 by omega, Nat.pow_zero, Nat.div_one, show (i - l).toNat = i.toNat + (-l).toNat by omega, Nat.pow_add, ← Nat.mul_assoc, Nat.mul_div_cancel _ (Nat.two_pow_pos _)]
  · rw [show i.toNat = 0 by omega, Nat.pow_zero, Nat.mul_one, show (-l).toNat = (-i).toNat + (i - l).toNat by omega, Nat.pow_add, Nat.mul_div_mul_right _ _ (Nat.two_pow_pos _)]
theorem toInt_fin {x : Nat} (hx : finW f x = true) (hl : f.leastPlace ≤ 0) : (f.read x).toInt .zero = some (sg (negW f x) (V f (rungW f x) / 2 ^ (-f.leastPlace).toNat)) := by
  unfold finW at hx
  simp only [decide_eq_true_eq] at hx
  obtain ⟨m, i, e, hi, hv⟩ := read_fin f hx
  rw [e]
  show some (signed (negW f x) (Toward.zero.cut (negW f x) (m <<< i.toNat) (-i).toNat) 0) = _
  rw [cut_zero, signed_eq, Nat.pow_zero, Nat.mul_one, whole_V hi hl, hv]
theorem down_fin {x : Nat} (hx : finW f x = true) (hl : f.leastPlace ≤ 0) (h0 : negW f x = false ∨ rungW f x = 0) : (f.read x).integral .down = .number (negW f x) (V f (rungW f x) / 2 ^ (-f.leastPlace).toNat) 0 := by
  unfold finW at hx
  simp only [decide_eq_true_eq] at hx
  obtain ⟨m, i, e, hi, hv⟩ := read_fin f hx
  rw [e]
  show Datum.number (negW f x) (Toward.down.cut (negW f x) (m <<< i.toNat) (-i).toNat) 0 = _
  congr 1
  rcases h0 with h0 | h0
  · rw [h0, cut_down, whole_V hi hl, hv]
  · have hm : m = 0 := by
      rw [h0, V_zero] at hv
      rcases Nat.mul_eq_zero.1 hv with h | h
      · exact h
      · have := Nat.two_pow_pos (i - f.leastPlace).toNat; omega
    rw [hm, h0, V_zero, Nat.zero_shiftLeft, cut_down0, Nat.zero_div]
theorem read_mag {x : Nat} {s : Bool} {m : Nat} {i : Int} (h : f.read x = .number s m i) : m.log2 ≤ f.fractionBits + 2 := by
  have hlt : m < 2 * f.binade := by
    have hb := binade_pos f
    unfold Format.read at h
    simp only at h
    split at h
    · simp only [Datum.number.injEq] at h; omega
    · split at h
      · simp only [Datum.number.injEq] at h
        have := Nat.mod_lt (x % f.signWeight) hb
        omega
      · split at h <;> simp at h
  by_cases h0 : m = 0
  · subst h0; simp
  have h1 := log_le m h0
  have e1 : f.binade = 2 ^ f.fractionBits := rfl
  rcases Nat.lt_or_ge (f.fractionBits + 2) m.log2 with h2 | h2
  · have h3 : 2 ^ (f.fractionBits + 1) ≤ 2 ^ m.log2 := Nat.pow_le_pow_right (by omega) (by omega)
    rw [Nat.pow_succ] at h3
    omega
  · exact h2
end

end Go.Proofs.YtbfheehaagcmeaaDoor.flo
