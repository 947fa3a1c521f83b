/-
  Plain facts on floating point: sums, halves, quotients and whole parts of words that are finite. No program in sight.
-/
import Derived.Test.YtbfheehaagcmeaaDoorFloR
import Derived.Laws.FloatBits
namespace Go.Proofs.YtbfheehaagcmeaaDoor.flo
open Ieee

theorem sg_natAbs (s : Bool) (n : Nat) : (sg s n).natAbs = n := by unfold sg; split <;> omega
theorem sg_nonneg {s : Bool} {n : Nat} (h : 0 ≤ sg s n) : n = 0 ∨ s = false := by
  cases s
  · exact .inr rfl
  · unfold sg at h; simp at h; left; omega

section
variable (f : Format)

/-- what a finite word stands for, over the least place -/
def val (x : Nat) : Int := sg (negW f x) (V f (rungW f x))
/-- a word for a number over the least place -/
def toW (s : Bool) (T : Int) : Nat := f.word (if T = 0 then s else decide (T < 0)) (nr f T.natAbs f.leastPlace)

theorem inf_lt : f.infRung < f.signWeight := f.infRung_lt
theorem toW_rung (s : Bool) (T : Int) : rungW f (toW f s T) = nr f T.natAbs f.leastPlace := by
  have := nr_inf f T.natAbs f.leastPlace
  have := inf_lt f
  exact (word_read f _ (by omega)).2
theorem toW_neg (s : Bool) (T : Int) : negW f (toW f s T) = if T = 0 then s else decide (T < 0) := by
  have := nr_inf f T.natAbs f.leastPlace
  have := inf_lt f
  exact (word_read f _ (by omega)).1

theorem sum_write {s t : Bool} {m n : Nat} {i j : Int} (hi : f.leastPlace ≤ i) (hj : f.leastPlace ≤ j) :
    ((Datum.number s m i).sum (.number t n j)).map f.write = some (toW f (s && t) (sg s (m * 2 ^ (i - f.leastPlace).toNat) + sg t (n * 2 ^ (j - f.leastPlace).toNat))) := by
  show some (f.nearest _ _ _) = _
  rw [nearest_eq, signed_eq, signed_eq]
  congr 1
  have e1 : (i - f.leastPlace).toNat = (i - min i j).toNat + (min i j - f.leastPlace).toNat := by omega
  have e2 : (j - f.leastPlace).toNat = (j - min i j).toNat + (min i j - f.leastPlace).toNat := by omega
  have hT : sg s (m * 2 ^ (i - f.leastPlace).toNat) + sg t (n * 2 ^ (j - f.leastPlace).toNat) = (sg s (m * 2 ^ (i - min i j).toNat) + sg t (n * 2 ^ (j - min i j).toNat)) * ((2 ^ (min i j - f.leastPlace).toNat : Nat) : Int) := by
    rw [e1, e2, Nat.pow_add, Nat.pow_add, ← Nat.mul_assoc, ← Nat.mul_assoc, sg_mul s (m * 2 ^ (i - min i j).toNat), sg_mul t (n * 2 ^ (j - min i j).toNat), Int.add_mul]
  rw [hT]
  generalize sg s (m * 2 ^ (i - min i j).toNat) + sg t (n * 2 ^ (j - min i j).toNat) = tot
  have hp : 0 < ((2 ^ (min i j - f.leastPlace).toNat : Nat) : Int) := by exact_mod_cast Nat.two_pow_pos _
  unfold toW
  rw [Int.natAbs_mul, Int.natAbs_natCast]
  have e3 := nr_scale f tot.natAbs (min i j - f.leastPlace).toNat (min i j)
  rw [show min i j - (((min i j - f.leastPlace).toNat : Nat) : Int) = f.leastPlace by omega] at e3
  rw [e3]
  congr 1
  have h1 : tot * ((2 ^ (min i j - f.leastPlace).toNat : Nat) : Int) = 0 ↔ tot = 0 := by
    constructor
    · intro h; rcases Int.mul_eq_zero.1 h with h | h
      · exact h
      · omega
    · intro h; rw [h, Int.zero_mul]
  have h2 : tot * ((2 ^ (min i j - f.leastPlace).toNat : Nat) : Int) < 0 ↔ tot < 0 := by
    constructor
    · intro h
      by_cases h3 : tot < 0
      · exact h3
      · have := Int.mul_nonneg (Int.not_lt.1 h3) (Int.le_of_lt hp); omega
    · intro h; exact Int.mul_neg_of_neg_of_pos h hp
  simp only [h1, h2]

theorem sub_fin {x y : Nat} (hx : finW f x = true) (hy : finW f y = true) : f.sub x y = some (toW f (negW f x && !negW f y) (val f x - val f y)) := by
  unfold finW at hx hy
  simp only [decide_eq_true_eq] at hx hy
  obtain ⟨m, i, e, hi, hv⟩ := read_fin f hx
  obtain ⟨n, j, e', hj, hv'⟩ := read_fin f hy
  unfold Format.sub
  rw [e, e']
  show ((Datum.number (negW f x) m i).sum (.number (!negW f y) n j)).map f.write = _
  rw [sum_write f hi hj, hv, hv']
  congr 2
  unfold val sg
  cases negW f x <;> cases negW f y <;> simp <;> omega
theorem add_fin {x y : Nat} (hx : finW f x = true) (hy : finW f y = true) : f.add x y = some (toW f (negW f x && negW f y) (val f x + val f y)) := by
  unfold finW at hx hy
  simp only [decide_eq_true_eq] at hx hy
  obtain ⟨m, i, e, hi, hv⟩ := read_fin f hx
  obtain ⟨n, j, e', hj, hv'⟩ := read_fin f hy
  unfold Format.add
  rw [e, e', sum_write f hi hj, hv, hv']
  rfl
theorem mul_fin {x y : Nat} (hx : finW f x = true) (hy : finW f y = true) : ∃ m i n j, f.mul x y = some (f.word (negW f x ^^ negW f y) (nr f (m * n) (i + j))) ∧ f.leastPlace ≤ i ∧ m * 2 ^ (i - f.leastPlace).toNat = V f (rungW f x) ∧ f.leastPlace ≤ j ∧ n * 2 ^ (j - f.leastPlace).toNat = V f (rungW f y) := by
  unfold finW at hx hy
  simp only [decide_eq_true_eq] at hx hy
  obtain ⟨m, i, e, hi, hv⟩ := read_fin f hx
  obtain ⟨n, j, e', hj, hv'⟩ := read_fin f hy
  refine ⟨m, i, n, j, ?_, hi, hv, hj, hv'⟩
  unfold Format.mul
  rw [e, e']
  show some (f.nearest _ _ _) = _
  rw [nearest_eq]

/-- a half -/
def halfR (v : Nat) : Nat := nr f v (f.leastPlace - 1)
theorem halfR_mono {v v' : Nat} (h : v ≤ v') : halfR f v ≤ halfR f v' := nr_mono f _ h
theorem halfR_le {r : Nat} (h : r ≤ f.infRung) : halfR f (V f r) ≤ r := by
  have h1 : halfR f (V f r) ≤ nr f (V f r * 2 ^ 1) (f.leastPlace - (1 : Nat)) := nr_mono f _ (by omega)
  rwa [nr_scale f (V f r) 1 f.leastPlace, nr_V f h] at h1
theorem halfR_zero : halfR f 0 = 0 := nr_zero f _
theorem halfR_of {r r2 : Nat} (hr : r2 ≤ f.infRung) (h : V f r = V f r2 * 2) : halfR f (V f r) = r2 := by
  unfold halfR
  refine nr_of f hr (b := f.leastPlace - 1) (Int.le_refl _) (by omega) ?_
  rw [Int.sub_self, show (f.leastPlace - (f.leastPlace - 1)).toNat = 1 by omega, h]
  simp
theorem half_fin {x y : Nat} (hx : finW f x = true) {k : Nat} {j : Int} (hy : f.read y = .number false (2 ^ k) j) (hj : j + k = 1) (hm : ∀ m i, f.read x = .number (negW f x) m i → m.log2 ≤ f.fractionBits + 2) :
    f.div x y = some (f.word (negW f x) (halfR f (V f (rungW f x)))) := by
  unfold finW at hx
  simp only [decide_eq_true_eq] at hx
  obtain ⟨m, i, e, hi, hv⟩ := read_fin f hx
  have hml := hm m i e
  unfold Format.div
  rw [e, hy]
  have hk : (2 : Nat) ^ k ≠ 0 := by have := Nat.two_pow_pos k; omega
  show ((if 2 ^ k = 0 then _ else some (Datum.number (negW f x ^^ false) (2 * ((m <<< (f.fractionBits + 2 + (2 ^ k).log2 - m.log2)) / 2 ^ k) + ((m <<< (f.fractionBits + 2 + (2 ^ k).log2 - m.log2)) % 2 ^ k != 0).toNat) (i - j - ((f.fractionBits + 2 + (2 ^ k).log2 - m.log2 : Nat) : Int) - 1)) : Option Datum)).map f.write = _
  rw [if_neg hk, Nat.log2_two_pow, Nat.shiftLeft_eq]
  obtain ⟨d, hd⟩ : ∃ d, f.fractionBits + 2 + k - m.log2 = k + d := ⟨f.fractionBits + 2 - m.log2, by omega⟩
  rw [hd, Nat.pow_add, show m * (2 ^ k * 2 ^ d) = m * 2 ^ d * 2 ^ k by rw [Nat.mul_assoc, Nat.mul_comm (2 ^ d)], Nat.mul_div_cancel _ (Nat.two_pow_pos k), Nat.mul_mod_left]
  show some (f.nearest _ _ _) = _
  rw [nearest_eq]
  congr 2
  · simp
  · have e1 : 2 * (m * 2 ^ d) + ((0 : Nat) != 0).toNat = m * 2 ^ (d + 1) := by
      show 2 * (m * 2 ^ d) + 0 = _
      rw [Nat.pow_succ, ← Nat.mul_assoc m]; omega
    rw [e1]
    unfold halfR
    rw [← hv]
    have e2 := nr_scale f m (d + 1) (i - 1)
    have e3 := nr_scale f m (i - f.leastPlace).toNat (i - 1)
    rw [show i - 1 - ((d + 1 : Nat) : Int) = i - j - ((k + d : Nat) : Int) - 1 by omega] at e2
    rw [show i - 1 - (((i - f.leastPlace).toNat : Nat) : Int) = f.leastPlace - 1 by omega] at e3
    rw [e2, e3]

/-- A QUOTIENT OF TWO NUMBERS, the first no greater than the second. -/
theorem quot_le {x y : Nat} (hx : finW f x = true) (hy : finW f y = true) (hy0 : rungW f y ≠ 0) (hxy : rungW f x ≤ rungW f y) {r1 : Nat} (hr1 : r1 ≤ f.infRung) (hone : V f r1 = 2 ^ (- f.leastPlace).toNat) (hl : f.leastPlace ≤ 0)
    (hm : ∀ m i, f.read x = .number (negW f x) m i → m.log2 ≤ f.fractionBits + 2) :
    ∃ r, f.div x y = some (f.word (negW f x ^^ negW f y) r) ∧ r ≤ r1 := by
  unfold finW at hx hy
  simp only [decide_eq_true_eq] at hx hy
  obtain ⟨m, i, e, hi, hv⟩ := read_fin f hx
  obtain ⟨n, j, e', hj, hv'⟩ := read_fin f hy
  have hml := hm m i e
  have hn : n ≠ 0 := by
    intro h; rw [h, Nat.zero_mul] at hv'
    exact hy0 (V_inj f (hv'.symm.trans (V_zero f).symm))
  unfold Format.div
  rw [e, e']
  show ∃ r, ((if n = 0 then _ else some (Datum.number (negW f x ^^ negW f y) (2 * ((m <<< (f.fractionBits + 2 + n.log2 - m.log2)) / n) + ((m <<< (f.fractionBits + 2 + n.log2 - m.log2)) % n != 0).toNat) (i - j - ((f.fractionBits + 2 + n.log2 - m.log2 : Nat) : Int) - 1)) : Option Datum)).map f.write = _ ∧ _
  rw [if_neg hn, Nat.shiftLeft_eq]
  refine ⟨nr f (2 * (m * 2 ^ (f.fractionBits + 2 + n.log2 - m.log2) / n) + (m * 2 ^ (f.fractionBits + 2 + n.log2 - m.log2) % n != 0).toNat) (i - j - ((f.fractionBits + 2 + n.log2 - m.log2 : Nat) : Int) - 1), ?_, ?_⟩
  · show some (f.nearest _ _ _) = _
    rw [nearest_eq]
  by_cases hm0 : m = 0
  · rw [hm0]
    have h0 : (2 * (0 * 2 ^ (f.fractionBits + 2 + n.log2 - (0 : Nat).log2) / n) + (0 * 2 ^ (f.fractionBits + 2 + n.log2 - (0 : Nat).log2) % n != 0).toNat) = 0 := by
      rw [Nat.zero_mul, Nat.zero_div, Nat.zero_mod]; rfl
    rw [h0, nr_zero]; omega
  obtain ⟨more, hmore⟩ : ∃ more, more = f.fractionBits + 2 + n.log2 - m.log2 := ⟨_, rfl⟩
  rw [← hmore]
  have hVle : m * 2 ^ (i - f.leastPlace).toNat ≤ n * 2 ^ (j - f.leastPlace).toNat := by rw [hv, hv']; exact V_le f hxy
  -- the dividend is greater than the divisor
  have hD : n < m * 2 ^ more := by
    have h1 := log_le m hm0
    have h2 := lt_log n
    have h3 : 2 ^ m.log2 * 2 ^ more ≤ m * 2 ^ more := Nat.mul_le_mul_right _ h1
    rw [← Nat.pow_add] at h3
    have h4 : 2 ^ (n.log2 + 1) ≤ 2 ^ (m.log2 + more) := Nat.pow_le_pow_right (by omega) (by omega)
    omega
  have hE : (i - f.leastPlace).toNat ≤ (j - f.leastPlace).toNat + more := by
    rcases Nat.lt_or_ge ((j - f.leastPlace).toNat + more) (i - f.leastPlace).toNat with h | h
    · exfalso
      have h5 : m * 2 ^ more * 2 ^ (i - f.leastPlace).toNat ≤ n * 2 ^ ((j - f.leastPlace).toNat + more) := by
        rw [Nat.mul_right_comm, Nat.pow_add, ← Nat.mul_assoc]; exact Nat.mul_le_mul_right _ hVle
      have h6 : n * 2 ^ ((j - f.leastPlace).toNat + more) ≤ n * 2 ^ (i - f.leastPlace).toNat := Nat.mul_le_mul_left _ (Nat.pow_le_pow_right (by omega) (by omega))
      have h7 := Nat.le_of_mul_le_mul_right (Nat.le_trans h5 h6) (Nat.two_pow_pos _)
      omega
    · exact h
  obtain ⟨E, hEE⟩ : ∃ E, (j - f.leastPlace).toNat + more = (i - f.leastPlace).toNat + E := ⟨(j - f.leastPlace).toNat + more - (i - f.leastPlace).toNat, by omega⟩
  have hDE : m * 2 ^ more ≤ n * 2 ^ E := by
    have h5 : m * 2 ^ more * 2 ^ (i - f.leastPlace).toNat ≤ n * 2 ^ E * 2 ^ (i - f.leastPlace).toNat := by
      have h6 : m * 2 ^ more * 2 ^ (i - f.leastPlace).toNat ≤ n * 2 ^ ((j - f.leastPlace).toNat + more) := by
        rw [Nat.mul_right_comm, Nat.pow_add, ← Nat.mul_assoc]; exact Nat.mul_le_mul_right _ hVle
      rw [hEE, Nat.add_comm, Nat.pow_add, ← Nat.mul_assoc] at h6
      exact h6
    exact Nat.le_of_mul_le_mul_right h5 (Nat.two_pow_pos _)
  have hq : 2 * (m * 2 ^ more / n) + (m * 2 ^ more % n != 0).toNat ≤ 2 ^ (E + 1) := by
    generalize m * 2 ^ more = D at *
    have h1 : D / n ≤ 2 ^ E := by rw [Nat.div_le_iff_le_mul_add_pred (by omega)]; omega
    have h2 := Nat.div_add_mod D n
    rw [Nat.pow_succ]
    rcases Nat.eq_or_lt_of_le h1 with h3 | h3
    · have h4 : D % n = 0 := by rw [h3] at h2; omega
      rw [h4, h3]; simp; omega
    · have h4 : (D % n != 0).toNat ≤ 1 := by cases (D % n != 0) <;> decide
      omega
  have h8 := nr_le f (m := 2 * (m * 2 ^ more / n) + (m * 2 ^ more % n != 0).toNat) (n := 2 ^ (E + 1)) (p := i - j - (more : Int) - 1) (q := i - j - (more : Int) - 1) (b := i - j - (more : Int) - 1) (Int.le_refl _) (Int.le_refl _) (by simpa using hq)
  have h9 : nr f (2 ^ (E + 1)) (i - j - (more : Int) - 1) = r1 := by
    have := nr_scale f 1 (E + 1) 0
    rw [Nat.one_mul, show (0 : Int) - ((E + 1 : Nat) : Int) = i - j - (more : Int) - 1 by omega] at this
    rw [this]
    exact nr_of f hr1 (b := f.leastPlace) hl (Int.le_refl _) (by rw [hone]; simp)
  omega

/-- what is whole of a number, cut towards zero -/
theorem cut_zero (s : Bool) (n drop : Nat) : Toward.zero.cut s n drop = n / 2 ^ drop := by
  unfold Toward.cut
  simp only [Nat.one_shiftLeft, Bool.toNat_false, Nat.add_zero]
  by_cases h : drop ≤ n.log2 + 2
  · rw [Nat.min_eq_left h]
  · rw [Nat.min_eq_right (by omega)]
    have h1 := lt_log n
    have h2 : 2 ^ (n.log2 + 1) ≤ 2 ^ (n.log2 + 2) := Nat.pow_le_pow_right (by omega) (by omega)
    have h3 : 2 ^ (n.log2 + 2) ≤ 2 ^ drop := Nat.pow_le_pow_right (by omega) (by omega)
    rw [Nat.div_eq_of_lt (by omega), Nat.div_eq_of_lt (by omega)]
theorem cut_down (n drop : Nat) : Toward.down.cut false n drop = n / 2 ^ drop := by
  rw [← cut_zero false]; rfl
theorem cut_down0 (s : Bool) (drop : Nat) : Toward.down.cut s 0 drop = 0 := by
  unfold Toward.cut; simp
theorem whole_V {m : Nat} {i l : Int} (hi : l ≤ i) (hl : l ≤ 0) : m <<< i.toNat / 2 ^ (-i).toNat = m * 2 ^ (i - l).toNat / 2 ^ (-l).toNat := by
  rw [Nat.shiftLeft_eq]
  rcases Int.le_total 0 i with h | h
  · rw [show (-i).toNat = 0 by omega, Nat.pow_zero, Nat.div_one, show (i - l).toNat = i.toNat + (-l).toNat by omega, Nat.pow_add, ← Nat.mul_assoc, Nat.mul_div_cancel _ (Nat.two_pow_pos _)]
  · rw [show i.toNat = 0 by omega, Nat.pow_zero, Nat.mul_one, show (-l).toNat = (-i).toNat + (i - l).toNat by omega, Nat.pow_add, Nat.mul_div_mul_right _ _ (Nat.two_pow_pos _)]
theorem toInt_fin {x : Nat} (hx : finW f x = true) (hl : f.leastPlace ≤ 0) : (f.read x).toInt .zero = some (sg (negW f x) (V f (rungW f x) / 2 ^ (-f.leastPlace).toNat)) := by
  unfold finW at hx
  simp only [decide_eq_true_eq] at hx
  obtain ⟨m, i, e, hi, hv⟩ := read_fin f hx
  rw [e]
  show some (signed (negW f x) (Toward.zero.cut (negW f x) (m <<< i.toNat) (-i).toNat) 0) = _
  rw [cut_zero, signed_eq, Nat.pow_zero, Nat.mul_one, whole_V hi hl, hv]
theorem down_fin {x : Nat} (hx : finW f x = true) (hl : f.leastPlace ≤ 0) (h0 : negW f x = false ∨ rungW f x = 0) : (f.read x).integral .down = .number (negW f x) (V f (rungW f x) / 2 ^ (-f.leastPlace).toNat) 0 := by
  unfold finW at hx
  simp only [decide_eq_true_eq] at hx
  obtain ⟨m, i, e, hi, hv⟩ := read_fin f hx
  rw [e]
  show Datum.number (negW f x) (Toward.down.cut (negW f x) (m <<< i.toNat) (-i).toNat) 0 = _
  congr 1
  rcases h0 with h0 | h0
  · rw [h0, cut_down, whole_V hi hl, hv]
  · have hm : m = 0 := by
      rw [h0, V_zero] at hv
      rcases Nat.mul_eq_zero.1 hv with h | h
      · exact h
      · have := Nat.two_pow_pos (i - f.leastPlace).toNat; omega
    rw [hm, h0, V_zero, Nat.zero_shiftLeft, cut_down0, Nat.zero_div]
theorem read_mag {x : Nat} {s : Bool} {m : Nat} {i : Int} (h : f.read x = .number s m i) : m.log2 ≤ f.fractionBits + 2 := by
  have hlt : m < 2 * f.binade := by
    have hb := binade_pos f
    unfold Format.read at h
    simp only at h
    split at h
    · simp only [Datum.number.injEq] at h; omega
    · split at h
      · simp only [Datum.number.injEq] at h
        have := Nat.mod_lt (x % f.signWeight) hb
        omega
      · split at h <;> simp at h
  by_cases h0 : m = 0
  · subst h0; simp
  have h1 := log_le m h0
  have e1 : f.binade = 2 ^ f.fractionBits := rfl
  rcases Nat.lt_or_ge (f.fractionBits + 2) m.log2 with h2 | h2
  · have h3 : 2 ^ (f.fractionBits + 1) ≤ 2 ^ m.log2 := Nat.pow_le_pow_right (by omega) (by omega)
    rw [Nat.pow_succ] at h3
    omega
  · exact h2
end

end Go.Proofs.YtbfheehaagcmeaaDoor.flo
