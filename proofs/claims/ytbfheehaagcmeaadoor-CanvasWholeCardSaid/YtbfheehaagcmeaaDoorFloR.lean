/-
  Plain facts on floating point, more: rounding. No program in sight.
-/
import Derived.Test.YtbfheehaagcmeaaDoorFlo
namespace Go.Proofs.YtbfheehaagcmeaaDoor.flo
open Ieee

/-! ### to the nearest whole number, ties to even -/
def rnd (n g : Nat) : Nat := n / g + if g < 2 * (n % g) ∨ (g = 2 * (n % g) ∧ n / g % 2 = 1) then 1 else 0
theorem rnd_mul {n g c : Nat} (hc : 0 < c) : rnd (n * c) (g * c) = rnd n g := by
  unfold rnd
  rw [Nat.mul_div_mul_right _ _ hc, Nat.mul_mod_mul_right]
  have h1 : g * c < 2 * (n % g * c) ↔ g < 2 * (n % g) := by rw [← Nat.mul_assoc]; exact Nat.mul_lt_mul_right hc
  have h2 : g * c = 2 * (n % g * c) ↔ g = 2 * (n % g) := by
    rw [← Nat.mul_assoc]; exact ⟨fun h => Nat.eq_of_mul_eq_mul_right hc h, fun h => by rw [← h]⟩
  simp only [h1, h2]
theorem rnd_one (n : Nat) : rnd n 1 = n := by
  unfold rnd; rw [Nat.mod_one, if_neg (by omega), Nat.div_one, Nat.add_zero]
theorem rnd_exact {n g : Nat} (hg : 0 < g) : rnd (n * g) g = n := by
  have := rnd_mul (n := n) (g := 1) hg
  rw [Nat.one_mul] at this
  rw [this, rnd_one]
theorem rnd_mono {n n' g : Nat} (hg : 0 < g) (h : n ≤ n') : rnd n g ≤ rnd n' g := by
  unfold rnd
  have hd := Nat.div_add_mod n g
  have hd' := Nat.div_add_mod n' g
  have hm := Nat.mod_lt n hg
  have hm' := Nat.mod_lt n' hg
  have hq : n / g ≤ n' / g := Nat.div_le_div_right h
  rcases Nat.eq_or_lt_of_le hq with e | hlt
  · rw [e] at hd ⊢
    have hr : n % g ≤ n' % g := by omega
    split
    · rename_i h1
      rw [if_pos ?_]
      · exact Nat.le_refl _
      · rcases h1 with h1 | h1
        · left; omega
        · rcases Nat.eq_or_lt_of_le hr with e2 | h2
          · right; rw [← e2]; exact h1
          · left; omega
    · omega
  · have h1 : (if g < 2 * (n % g) ∨ (g = 2 * (n % g) ∧ n / g % 2 = 1) then 1 else 0) ≤ 1 := by split <;> omega
    omega
theorem rnd_le {n g K : Nat} (hg : 0 < g) (h : n ≤ K * g) : rnd n g ≤ K := by
  have := rnd_mono hg h; rwa [rnd_exact hg] at this
theorem rnd_ge {n g K : Nat} (hg : 0 < g) (h : K * g ≤ n) : K ≤ rnd n g := by
  have := rnd_mono hg h; rwa [rnd_exact hg] at this

theorem log_le (n : Nat) (h : n ≠ 0) : 2 ^ n.log2 ≤ n := Nat.log2_self_le h
theorem lt_log (n : Nat) : n < 2 ^ (n.log2 + 1) := Nat.lt_log2_self
theorem log_unique {n k : Nat} (h1 : 2 ^ k ≤ n) (h2 : n < 2 ^ (k + 1)) : n.log2 = k := by
  have hn : n ≠ 0 := by have := Nat.two_pow_pos k; omega
  exact (Nat.log2_eq_iff hn).2 ⟨h1, h2⟩
theorem log_mul {n k : Nat} (h : n ≠ 0) : (n * 2 ^ k).log2 = n.log2 + k := by
  apply log_unique
  · rw [Nat.pow_add]; exact Nat.mul_le_mul_right _ (log_le n h)
  · rw [show n.log2 + k + 1 = n.log2 + 1 + k by omega, Nat.pow_add]
    exact Nat.mul_lt_mul_of_pos_right (lt_log n) (Nat.two_pow_pos _)

theorem rnd_far {n d : Nat} (h : n.log2 + 2 ≤ d) : rnd n (2 ^ d) = 0 := by
  have h1 := lt_log n
  have h2 : 2 ^ (n.log2 + 2) ≤ 2 ^ d := Nat.pow_le_pow_right (by omega) h
  have h3 : 2 ^ (n.log2 + 2) = 2 * 2 ^ (n.log2 + 1) := by rw [Nat.pow_succ]; omega
  unfold rnd
  rw [Nat.div_eq_of_lt (by omega), Nat.mod_eq_of_lt (by omega), if_neg (by omega)]
theorem cut_even (neg : Bool) (n drop : Nat) : Toward.even.cut neg n drop = rnd n (2 ^ drop) := by
  have h0 : Toward.even.cut neg n drop = rnd n (2 ^ min drop (n.log2 + 2)) := by
    unfold Toward.cut rnd
    simp only [Nat.one_shiftLeft]
    congr 1
    generalize 2 ^ min drop (n.log2 + 2) = g
    by_cases h1 : g < 2 * (n % g)
    · rw [if_pos (.inl h1)]; simp [h1]
    · by_cases h2 : g = 2 * (n % g) ∧ n / g % 2 = 1
      · rw [if_pos (.inr h2)]
        have h3 : (g == 2 * (n % g)) = true := by simp; exact h2.1
        simp [h3, h2.2]
      · rw [if_neg (by rintro (h | h); exact h1 h; exact h2 h)]
        have h3 : (decide (g < 2 * (n % g)) || (g == 2 * (n % g) && n / g % 2 == 1)) = false := by
          rw [Bool.or_eq_false_iff]
          refine ⟨by simpa using h1, ?_⟩
          rw [Bool.eq_false_iff]; intro h; simp only [Bool.and_eq_true, beq_iff_eq] at h; exact h2 h
        rw [h3]; rfl
  rw [h0]
  by_cases h : drop ≤ n.log2 + 2
  · rw [Nat.min_eq_left h]
  · rw [Nat.min_eq_right (by omega), rnd_far (Nat.le_refl _), rnd_far (by omega)]

section
variable (f : Format)

/-- the rung nearest to m * 2 ^ p -/
def nr (m : Nat) (p : Int) : Nat :=
  if m = 0 then 0 else
  min ((max (p + m.log2 - f.fractionBits) f.leastPlace - f.leastPlace).toNat * f.binade + rnd (m * 2 ^ (p - max (p + m.log2 - f.fractionBits) f.leastPlace).toNat) (2 ^ (max (p + m.log2 - f.fractionBits) f.leastPlace - p).toNat)) f.infRung
theorem nearest_eq (neg : Bool) (m : Nat) (p : Int) : f.nearest neg m p = f.word neg (nr f m p) := by
  unfold Format.nearest nr
  split
  · rfl
  · simp only [cut_even, Nat.shiftLeft_eq]
theorem nr_zero (p : Int) : nr f 0 p = 0 := by unfold nr; rw [if_pos rfl]
theorem nr_inf (m : Nat) (p : Int) : nr f m p ≤ f.infRung := by
  unfold nr; split
  · omega
  · exact Nat.min_le_right _ _

/-- the same number written otherwise -/
theorem nr_scale (m k : Nat) (p : Int) : nr f (m * 2 ^ k) (p - k) = nr f m p := by
  unfold nr
  by_cases hm : m = 0
  · rw [if_pos hm, if_pos (by rw [hm, Nat.zero_mul])]
  have hm2 : m * 2 ^ k ≠ 0 := Nat.mul_ne_zero hm (by have := Nat.two_pow_pos k; omega)
  rw [if_neg hm, if_neg hm2, log_mul hm]
  have e1 : p - (k : Int) + ((m.log2 + k : Nat) : Int) - f.fractionBits = p + m.log2 - f.fractionBits := by omega
  rw [e1]
  generalize max (p + (m.log2 : Int) - f.fractionBits) f.leastPlace = l
  congr 2
  rcases Int.le_total l p with h | h
  · by_cases hk : (k : Int) ≤ p - l
    · rw [show (l - (p - (k : Int))).toNat = 0 by omega, show (l - p).toNat = 0 by omega, Nat.mul_assoc, ← Nat.pow_add, show k + (p - (k : Int) - l).toNat = (p - l).toNat by omega]
    · rw [show (p - (k : Int) - l).toNat = 0 by omega, show (l - p).toNat = 0 by omega, Nat.pow_zero, Nat.mul_one]
      have e2 : 2 ^ k = 2 ^ (p - l).toNat * 2 ^ (l - (p - (k : Int))).toNat := by rw [← Nat.pow_add]; congr 1; omega
      rw [e2, ← Nat.mul_assoc]
      have := rnd_mul (n := m * 2 ^ (p - l).toNat) (g := 1) (Nat.two_pow_pos (l - (p - (k : Int))).toNat)
      rw [Nat.one_mul] at this
      exact this
  · rw [show (p - (k : Int) - l).toNat = 0 by omega, show (p - l).toNat = 0 by omega, Nat.pow_zero, Nat.mul_one, Nat.mul_one]
    have e2 : 2 ^ (l - (p - (k : Int))).toNat = 2 ^ (l - p).toNat * 2 ^ k := by rw [← Nat.pow_add]; congr 1; omega
    rw [e2]
    exact rnd_mul (Nat.two_pow_pos k)

/-- ROUNDING RISES. -/
theorem nr_mono {X Y : Nat} (b : Int) (h : X ≤ Y) : nr f X b ≤ nr f Y b := by
  by_cases hX : X = 0
  · rw [hX, nr_zero]; omega
  have hY : Y ≠ 0 := by omega
  unfold nr
  rw [if_neg hX, if_neg hY]
  have hL : X.log2 ≤ Y.log2 := by
    rcases Nat.lt_or_ge Y.log2 X.log2 with h1 | h1
    · have h2 := log_le X hX
      have h3 := lt_log Y
      have h4 : 2 ^ (Y.log2 + 1) ≤ 2 ^ X.log2 := Nat.pow_le_pow_right (by omega) h1
      omega
    · exact h1
  have hmin : ∀ a c K : Nat, a ≤ c → min a K ≤ min c K := by intro a c K h; omega
  apply hmin
  obtain ⟨l, hl⟩ : ∃ l, l = max (b + (X.log2 : Int) - f.fractionBits) f.leastPlace := ⟨_, rfl⟩
  obtain ⟨l', hl'⟩ : ∃ l', l' = max (b + (Y.log2 : Int) - f.fractionBits) f.leastPlace := ⟨_, rfl⟩
  rw [← hl, ← hl']
  have hll : l ≤ l' := by omega
  rcases Int.lt_or_eq_of_le hll with hlt | e
  · -- the lower one lies below
    have hk : rnd (X * 2 ^ (b - l).toNat) (2 ^ (l - b).toNat) ≤ 2 ^ (f.fractionBits + 1) := by
      apply rnd_le (Nat.two_pow_pos _)
      have h1 := lt_log X
      rcases Int.le_total l b with h2 | h2
      · rw [show (l - b).toNat = 0 by omega, Nat.pow_zero, Nat.mul_one]
        have h3 : X * 2 ^ (b - l).toNat ≤ 2 ^ (X.log2 + 1) * 2 ^ (b - l).toNat := Nat.mul_le_mul_right _ (Nat.le_of_lt h1)
        rw [← Nat.pow_add] at h3
        exact Nat.le_trans h3 (Nat.pow_le_pow_right (by omega) (by omega))
      · rw [show (b - l).toNat = 0 by omega, Nat.pow_zero, Nat.mul_one, ← Nat.pow_add]
        exact Nat.le_trans (Nat.le_of_lt h1) (Nat.pow_le_pow_right (by omega) (by omega))
    have hk' : 2 ^ f.fractionBits ≤ rnd (Y * 2 ^ (b - l').toNat) (2 ^ (l' - b).toNat) := by
      apply rnd_ge (Nat.two_pow_pos _)
      have h1 := log_le Y hY
      have hl2 : l' = b + (Y.log2 : Int) - f.fractionBits := by omega
      rcases Int.le_total l' b with h2 | h2
      · rw [show (l' - b).toNat = 0 by omega, Nat.pow_zero, Nat.mul_one]
        have h3 : 2 ^ Y.log2 * 2 ^ (b - l').toNat ≤ Y * 2 ^ (b - l').toNat := Nat.mul_le_mul_right _ h1
        rw [← Nat.pow_add] at h3
        exact Nat.le_trans (Nat.pow_le_pow_right (by omega) (by omega)) h3
      · rw [show (b - l').toNat = 0 by omega, Nat.pow_zero, Nat.mul_one, ← Nat.pow_add]
        exact Nat.le_trans (Nat.pow_le_pow_right (by omega) (by omega)) h1
    have e1 : f.binade = 2 ^ f.fractionBits := rfl
    rw [e1]
    have h5 : ((l - f.leastPlace).toNat + 1) * 2 ^ f.fractionBits ≤ (l' - f.leastPlace).toNat * 2 ^ f.fractionBits := Nat.mul_le_mul_right _ (by omega)
    rw [Nat.add_mul, Nat.one_mul] at h5
    rw [Nat.pow_succ] at hk
    omega
  · rw [← e]
    exact Nat.add_le_add_left (rnd_mono (Nat.two_pow_pos _) (Nat.mul_le_mul_right _ h)) _

/-- WHAT THE FORMAT HAS IS NOT ROUNDED. -/
theorem nr_V {r : Nat} (h : r ≤ f.infRung) : nr f (V f r) f.leastPlace = r := by
  have hb := binade_pos f
  have e1 : f.binade = 2 ^ f.fractionBits := rfl
  by_cases h1 : r < f.binade
  · unfold V
    rw [if_pos h1]
    unfold nr
    by_cases h0 : r = 0
    · rw [if_pos h0, h0]
    rw [if_neg h0]
    have h2 : r.log2 < f.fractionBits := by
      rcases Nat.lt_or_ge r.log2 f.fractionBits with h3 | h3
      · exact h3
      · have h4 := log_le r h0
        have h5 : 2 ^ f.fractionBits ≤ 2 ^ r.log2 := Nat.pow_le_pow_right (by omega) h3
        omega
    rw [show max (f.leastPlace + (r.log2 : Int) - f.fractionBits) f.leastPlace = f.leastPlace by omega]
    simp only [Int.sub_self, Int.toNat_zero, Nat.zero_mul, Nat.pow_zero, Nat.mul_one, rnd_one, Nat.zero_add]
    omega
  · unfold V
    rw [if_neg h1]
    have hd := Nat.div_add_mod r f.binade
    have hm := Nat.mod_lt r hb
    have hq : 1 ≤ r / f.binade := by rw [Nat.le_div_iff_mul_le hb]; omega
    have e2 := nr_scale f (f.binade + r % f.binade) (r / f.binade - 1) (f.leastPlace + ((r / f.binade - 1 : Nat) : Int))
    rw [show f.leastPlace + ((r / f.binade - 1 : Nat) : Int) - ((r / f.binade - 1 : Nat) : Int) = f.leastPlace by omega] at e2
    rw [e2]
    have hlog : (f.binade + r % f.binade).log2 = f.fractionBits := log_unique (by omega) (by rw [Nat.pow_succ]; omega)
    unfold nr
    rw [if_neg (by omega), hlog]
    rw [show max (f.leastPlace + ((r / f.binade - 1 : Nat) : Int) + (f.fractionBits : Int) - f.fractionBits) f.leastPlace = f.leastPlace + ((r / f.binade - 1 : Nat) : Int) by omega]
    rw [show (f.leastPlace + ((r / f.binade - 1 : Nat) : Int) - f.leastPlace).toNat = r / f.binade - 1 by omega]
    simp only [Int.sub_self, Int.toNat_zero, Nat.pow_zero, Nat.mul_one, rnd_one]
    have e3 : (r / f.binade - 1) * f.binade + (f.binade + r % f.binade) = r := by
      have : (r / f.binade - 1) * f.binade + f.binade = r / f.binade * f.binade := by
        conv => rhs; rw [show r / f.binade = (r / f.binade - 1) + 1 by omega, Nat.add_mul, Nat.one_mul]
      rw [Nat.mul_comm] at hd
      omega
    rw [e3]
    omega
/-- .. over any place -/
theorem nr_of {m : Nat} {p b : Int} {r : Nat} (hr : r ≤ f.infRung) (hp : b ≤ p) (hb : b ≤ f.leastPlace) (h : m * 2 ^ (p - b).toNat = V f r * 2 ^ (f.leastPlace - b).toNat) : nr f m p = r := by
  have e1 := nr_scale f m (p - b).toNat p
  have e2 := nr_scale f (V f r) (f.leastPlace - b).toNat f.leastPlace
  rw [show p - ((p - b).toNat : Int) = b by omega] at e1
  rw [show f.leastPlace - ((f.leastPlace - b).toNat : Int) = b by omega] at e2
  rw [← e1, h, e2, nr_V f hr]
/-- two numbers over a common place -/
theorem nr_le {m n : Nat} {p q b : Int} (hp : b ≤ p) (hq : b ≤ q) (h : m * 2 ^ (p - b).toNat ≤ n * 2 ^ (q - b).toNat) : nr f m p ≤ nr f n q := by
  have e1 := nr_scale f m (p - b).toNat p
  have e2 := nr_scale f n (q - b).toNat q
  rw [show p - ((p - b).toNat : Int) = b by omega] at e1
  rw [show q - ((q - b).toNat : Int) = b by omega] at e2
  rw [← e1, ← e2]
  exact nr_mono f b h

theorem word_read (s : Bool) {r : Nat} (h : r < f.signWeight) : negW f (f.word s r) = s ∧ rungW f (f.word s r) = r := by
  unfold negW rungW Format.word
  cases s
  · simp only [Bool.false_eq_true, if_false]
    rw [Nat.div_eq_of_lt h, Nat.mod_eq_of_lt h]
    exact ⟨rfl, rfl⟩
  · simp only [if_true]
    have hp : 0 < f.signWeight := by omega
    rw [Nat.add_comm, Nat.add_div_right _ hp, Nat.div_eq_of_lt h, Nat.add_mod_right, Nat.mod_eq_of_lt h]
    exact ⟨rfl, rfl⟩
end

end Go.Proofs.YtbfheehaagcmeaaDoor.flo
