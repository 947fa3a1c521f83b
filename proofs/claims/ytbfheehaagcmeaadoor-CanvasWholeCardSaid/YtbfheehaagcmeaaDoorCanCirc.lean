/-
  Plain: a circle's dots, step by step.
-/
import Derived.Test.YtbfheehaagcmeaaDoorCanLine2
namespace Go.Proofs.YtbfheehaagcmeaaDoor.can
set_option linter.unusedVariables false

/-- the greatest number up to k that is 0 or whose odd square is no greater than m -/
def down (m : Int) : Nat → Nat
  | 0 => 0
  | j + 1 => if m < (2 * (j : Int) + 1) * (2 * (j : Int) + 1) then down m j else j + 1
theorem down_le (m : Int) : ∀ k, down m k ≤ k
  | 0 => Nat.le_refl _
  | k + 1 => by
    unfold down
    split
    · exact Nat.le_succ_of_le (down_le m k)
    · exact Nat.le_refl _
theorem down_step {m : Int} {k : Nat} (h : 0 < k) (hm : m < (2 * (k : Int) - 1) * (2 * (k : Int) - 1)) : down m k = down m (k - 1) := by
  obtain ⟨j, rfl⟩ : ∃ j, k = j + 1 := ⟨k - 1, by omega⟩
  rw [down, if_pos (by rw [show 2 * (j : Int) + 1 = 2 * ((j + 1 : Nat) : Int) - 1 by omega]; exact hm), Nat.add_sub_cancel]
theorem down_stop {m : Int} {k : Nat} (hm : 0 < k → (2 * (k : Int) - 1) * (2 * (k : Int) - 1) ≤ m) : down m k = k := by
  cases k with
  | zero => rfl
  | succ j =>
    have := hm (by omega)
    rw [show 2 * ((j + 1 : Nat) : Int) - 1 = 2 * (j : Int) + 1 by omega] at this
    rw [down, if_neg (by omega)]
theorem down_down {m m' : Int} (h : m' ≤ m) : ∀ k, down m' (down m k) = down m' k
  | 0 => rfl
  | k + 1 => by
    by_cases h1 : m < (2 * (k : Int) + 1) * (2 * (k : Int) + 1)
    · rw [down, if_pos h1, down_down h k]
      conv => rhs; rw [down, if_pos (by omega)]
    · rw [show down m (k + 1) = k + 1 by rw [down, if_neg h1]]
theorem down_holds {m : Int} : ∀ {k}, 0 < down m k → (2 * (down m k : Int) - 1) * (2 * (down m k : Int) - 1) ≤ m
  | 0, h => by simp [down] at h
  | k + 1, h => by
    by_cases h1 : m < (2 * (k : Int) + 1) * (2 * (k : Int) + 1)
    · rw [down, if_pos h1] at h ⊢; exact down_holds h
    · rw [down, if_neg h1]
      rw [show 2 * ((k + 1 : Nat) : Int) - 1 = 2 * (k : Int) + 1 by omega]; omega
theorem down_above {m : Int} : ∀ {k j : Nat}, down m k < j → j ≤ k → m < (2 * (j : Int) - 1) * (2 * (j : Int) - 1)
  | 0, j, h, h2 => by omega
  | k + 1, j, h, h2 => by
    by_cases h1 : m < (2 * (k : Int) + 1) * (2 * (k : Int) + 1)
    · rw [down, if_pos h1] at h
      rcases Nat.lt_or_ge k j with h3 | h3
      · rw [show (j : Int) = k + 1 by omega, show 2 * ((k : Int) + 1) - 1 = 2 * (k : Int) + 1 by omega]; exact h1
      · exact down_above h h3
    · rw [down, if_neg h1] at h; omega
theorem down_mono {m m' : Int} (h : m' ≤ m) (k : Nat) : down m' k ≤ down m k := by rw [← down_down h]; exact down_le _ _
/-- what is found otherwise is it -/
theorem down_is {m : Int} {k j : Nat} (hj : j ≤ k) (h1 : 0 < j → (2 * (j : Int) - 1) * (2 * (j : Int) - 1) ≤ m) (h2 : m < (2 * (j : Int) + 1) * (2 * (j : Int) + 1) ∨ j = k) : down m k = j := by
  rcases h2 with h2 | rfl
  · induction k with
    | zero => rw [show j = 0 by omega]; rfl
    | succ k ih =>
      rcases Nat.lt_or_ge k j with h3 | h3
      · obtain rfl : j = k + 1 := by omega
        exact down_stop h1
      · rw [down, if_pos, ih h3]
        have e : (2 * (j : Int) + 1) * (2 * (j : Int) + 1) ≤ (2 * (k : Int) + 1) * (2 * (k : Int) + 1) := Int.mul_le_mul (by omega) (by omega) (by omega) (by omega)
        omega
  · exact down_stop h1

def circM (r i : Nat) : Int := 4 * ((r : Int) * r - (i : Int) * i)
def circJ (r i : Nat) : Nat := down (circM r i) r
def circPts (x y : Int) (i j : Nat) : List (Int × Int) := [(x + i, y + j), (x + i, y + -(j : Int)), (x + -(i : Int), y + j), (x + -(i : Int), y + -(j : Int)), (x + j, y + i), (x + j, y + -(i : Int)), (x + -(j : Int), y + i), (x + -(j : Int), y + -(i : Int))]
def circL (x y : Int) (r n : Nat) : List (Int × Int) := (List.range n).flatMap fun i => circPts x y i (circJ r i)
theorem circL_succ (x y : Int) (r n : Nat) : circL x y r (n + 1) = circL x y r n ++ circPts x y n (circJ r n) := by
  unfold circL
  rw [List.range_succ, List.flatMap_append, List.flatMap_cons, List.flatMap_nil, List.append_nil]
/-- how many steps a circle has -/
def circN (r : Nat) : Nat := ((List.range (r + 2)).find? fun i => decide (circJ r i < i)).getD 0
theorem circM_le (r : Nat) {i i' : Nat} (h : i ≤ i') : circM r i' ≤ circM r i := by
  unfold circM
  have : (i : Int) * i ≤ (i' : Int) * i' := Int.mul_le_mul (by omega) (by omega) (by omega) (by omega)
  omega
theorem circJ_end (r : Nat) : circJ r (r + 1) < r + 1 := Nat.lt_succ_of_le (down_le _ _)
theorem find_first {p : Nat → Bool} : ∀ {n m : Nat}, n < m → p n = true → (∀ i, i < n → p i = false) → (List.range m).find? p = some n := by
  intro n m hn hp hb
  rw [List.find?_range_eq_some]
  refine ⟨by simpa using hp, by simpa using hn, fun j hj => by simp [hb j hj]⟩
theorem circN_is {r n : Nat} (hb : ∀ i, i < n → i ≤ circJ r i) (he : circJ r n < n) : circN r = n := by
  have hn : n ≤ r + 1 := by
    rcases Nat.lt_or_ge (r + 1) n with h | h
    · have := hb (r + 1) h
      have := circJ_end r
      omega
    · exact h
  unfold circN
  rw [find_first (n := n) (by omega) (by simpa using he) (fun i hi => by simpa using hb i hi)]
  rfl

theorem plots_eq (S : Int → Int → Bool) : ∀ (l : List (Int × Int)) (a b : Int), plots S l a b = (S a b || decide ((a, b) ∈ l)) := by
  intro l
  induction l generalizing S with
  | nil => intro a b; simp [plots]
  | cons p l ih =>
    intro a b
    have := ih (plot S p.1 p.2) a b
    rw [show plots S (p :: l) = plots (plot S p.1 p.2) l from rfl, this]
    unfold plot
    rw [Bool.or_assoc]
    congr 1
    obtain ⟨p1, p2⟩ := p
    rw [Bool.eq_iff_iff]
    simp [Prod.ext_iff]
theorem plots_app (S : Int → Int → Bool) (l l' : List (Int × Int)) : plots S (l ++ l') = plots (plots S l) l' := by unfold plots; rw [List.foldl_append]
end Go.Proofs.YtbfheehaagcmeaaDoor.can
