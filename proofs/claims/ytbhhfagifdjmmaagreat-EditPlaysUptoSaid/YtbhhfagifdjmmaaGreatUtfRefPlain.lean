/-
  Plain facts on the document's table of characters, row by row. No program in sight.
-/
import Derived.Test.YtbhhfagifdjmmaaGreatUtfPlain
namespace Go.Proofs.YtbhhfagifdjmmaaGreat.utf

/-- a row: lo, hi, n, lo2, hi2, off -/
abbrev Row := Nat × Nat × Nat × Nat × Nat × Nat
def rows : List Row := [(0x00, 0x7f, 1, 0, 0, 0), (0xc2, 0xdf, 2, 0x80, 0xbf, 0xc0), (0xe0, 0xe0, 3, 0xa0, 0xbf, 0xe0), (0xe1, 0xec, 3, 0x80, 0xbf, 0xe0), (0xee, 0xef, 3, 0x80, 0xbf, 0xe0),
  (0xed, 0xed, 3, 0x80, 0x9f, 0xe0), (0xf0, 0xf0, 4, 0x90, 0xbf, 0xf0), (0xf1, 0xf3, 4, 0x80, 0xbf, 0xf0), (0xf4, 0xf4, 4, 0x80, 0x8f, 0xf0)]
def row (i : Nat) : Row := rows.getD i (0, 0, 0, 0, 0, 0)

/-- how many of k further bytes fit -/
def fit : Nat → Nat → Nat → List Nat → Nat
  | 0, _, _, _ => 0
  | _ + 1, _, _, [] => 0
  | k + 1, lo, hi, c :: t => if c < lo ∨ hi < c then 0 else 1 + fit k 0x80 0xBF t
def fits (l : List Nat) (x : Row) : Nat := match l with | [] => 0 | b :: t => if b < x.1 ∨ x.2.1 < b then 0 else 1 + fit (x.2.2.1 - 1) x.2.2.2.1 x.2.2.2.2.1 t
def vals : Nat → List Nat → Nat
  | r, [] => r
  | r, c :: t => vals (r * 64 + c % 64) t

theorem fit_le : ∀ k lo hi t, fit k lo hi t ≤ k ∧ fit k lo hi t ≤ t.length
  | 0, _, _, _ => by simp [fit]
  | k + 1, _, _, [] => by simp [fit]
  | k + 1, lo, hi, c :: t => by
    have := fit_le k 0x80 0xBF t
    simp only [fit, List.length_cons]
    split <;> omega

theorem cont_fit : ∀ k r i lo hi t, (cont k r i lo hi t).2.1 = i + fit k lo hi t ∧ (fit k lo hi t < k → (cont k r i lo hi t).1 = 0xfffd) ∧ (fit k lo hi t = k → (cont k r i lo hi t).1 = vals r (t.take k))
  | 0, r, i, _, _, t => by simp [cont, fit, vals]
  | k + 1, r, i, _, _, [] => by simp [cont, fit]
  | k + 1, r, i, lo, hi, c :: t => by
    have ih := cont_fit k (r * 64 + c % 64) (i + 1) 0x80 0xBF t
    simp only [cont, fit, List.take_succ_cons, vals]
    split
    · simp
    · refine ⟨by rw [ih.1]; omega, fun h => ih.2.1 (by omega), fun h => ih.2.2 (by omega)⟩

theorem fit_range : ∀ k lo hi t, fit k lo hi t = k → 0x80 ≤ lo → hi ≤ 0xBF → ∀ j, j < k → 0x80 ≤ t.getD j 0 ∧ t.getD j 0 ≤ 0xBF
  | 0, _, _, _, _, _, _, j, hj => by omega
  | k + 1, _, _, [], h, _, _, _, _ => by simp [fit] at h
  | k + 1, lo, hi, c :: t, h, hl, hh, j, hj => by
    simp only [fit] at h
    split at h
    · omega
    · cases j with
      | zero => simp; omega
      | succ j => simpa using fit_range k 0x80 0xBF t (by omega) (by omega) (by omega) j (by omega)

theorem vals_snoc : ∀ r t c, vals r (t ++ [c]) = vals r t * 64 + c % 64
  | r, [], c => rfl
  | r, d :: t, c => by simp only [List.cons_append, vals]; exact vals_snoc _ t c
theorem vals_take (r : Nat) (t : List Nat) (j : Nat) (h : j < t.length) : vals r (t.take (j + 1)) = vals r (t.take j) * 64 + t.getD j 0 % 64 := by
  rw [List.take_succ_eq_append_getElem h, vals_snoc]; simp [List.getD_eq_getElem?_getD, h]
theorem vals_bound (r : Nat) (t : List Nat) (j : Nat) (hj : j ≤ 3) (hr : r < 256) : vals r (t.take j) < 67108864 := by
  have h1 : ∀ c : Nat, c % 64 < 64 := fun c => Nat.mod_lt _ (by omega)
  match j, t with
  | 0, _ => simp [vals]; omega
  | 1, [] | 2, [] | 3, [] => simp [vals]; omega
  | 1, a :: t => simp [vals]; have := h1 a; omega
  | 2, [a] | 3, [a] => simp [vals]; have := h1 a; omega
  | 2, a :: b :: t => simp [vals]; have := h1 a; have := h1 b; omega
  | 3, [a, b] => simp [vals]; have := h1 a; have := h1 b; omega
  | 3, a :: b :: c :: t => simp [vals]; have := h1 a; have := h1 b; have := h1 c; omega

/-- WHAT A ROW SAYS OF A FIRST BYTE -/
theorem row_lead (i b : Nat) (hi : i < 9) (h1 : (row i).1 ≤ b) (h2 : b ≤ (row i).2.1) :
    lead b = ((row i).2.2.1, (row i).2.2.2.1, (row i).2.2.2.2.1) ∧ (row i).2.2.2.2.2 ≤ b ∧ 1 ≤ (row i).2.2.1 ∧ (row i).2.2.1 ≤ 4 ∧
    ((row i).2.2.1 = 1 → b - (row i).2.2.2.2.2 = b) ∧ ((row i).2.2.1 ≠ 1 → b - (row i).2.2.2.2.2 = low (row i).2.2.1 b ∧ 0x80 ≤ (row i).2.2.2.1 ∧ (row i).2.2.2.2.1 ≤ 0xBF) := by
  match i, hi with
  | 0, _ | 1, _ | 2, _ | 3, _ | 4, _ | 5, _ | 6, _ | 7, _ | 8, _ =>
    simp only [row, rows, List.getD_cons_zero, List.getD_cons_succ] at h1 h2 ⊢
    refine ⟨?_, by omega, by omega, by omega, by omega, fun _ => ?_⟩
    · rcases lead_cases b with h | h | h | h | h | h | h | h | h
      all_goals first
        | exact h.1
        | (exfalso; have := h.2; omega)
    · simp [low]; try omega

theorem no_row (b : Nat) (h : ∀ i, i < 9 → ¬ ((row i).1 ≤ b ∧ b ≤ (row i).2.1)) : (lead b).1 = 0 := by
  have h0 := h 0 (by omega); have h1 := h 1 (by omega); have h2 := h 2 (by omega); have h3 := h 3 (by omega); have h4 := h 4 (by omega)
  have h5 := h 5 (by omega); have h6 := h 6 (by omega); have h7 := h 7 (by omega); have h8 := h 8 (by omega)
  simp only [row, rows, List.getD_cons_zero, List.getD_cons_succ] at h0 h1 h2 h3 h4 h5 h6 h7 h8
  rcases lead_cases b with h | h | h | h | h | h | h | h | h
  all_goals first
    | (exfalso; have := h.2; omega)
    | (rw [h.1])

theorem fits_zero {l : List Nat} {x : Row} (h : fits l x = 0) {b : Nat} {t : List Nat} (hl : l = b :: t) : ¬ (x.1 ≤ b ∧ b ≤ x.2.1) := by
  subst hl
  simp only [fits] at h
  split at h
  · omega
  · omega
theorem fits_pos {x : Row} {b : Nat} {t : List Nat} (h : fits (b :: t) x ≠ 0) : x.1 ≤ b ∧ b ≤ x.2.1 ∧ fits (b :: t) x = 1 + fit (x.2.2.1 - 1) x.2.2.2.1 x.2.2.2.2.1 t := by
  simp only [fits] at h ⊢
  split at h
  · omega
  · rename_i hh; rw [if_neg hh]; omega

/-- A ROW THAT FITS, but not to its end. -/
theorem first_part {i b : Nat} {t : List Nat} (hi : i < 9) (h0 : fits (b :: t) (row i) ≠ 0) (h : fits (b :: t) (row i) < (row i).2.2.1) :
    (first (b :: t)).1 = 0xfffd ∧ (first (b :: t)).2.1 = fits (b :: t) (row i) := by
  obtain ⟨h1, h2, h3⟩ := fits_pos h0
  obtain ⟨e, _, hn1, hn4, _, _⟩ := row_lead i b hi h1 h2
  rw [h3] at h ⊢
  simp only [first, e]
  rw [if_neg (by omega), if_neg (by omega)]
  have := cont_fit ((row i).2.2.1 - 1) (low (row i).2.2.1 b) 1 (row i).2.2.2.1 (row i).2.2.2.2.1 t
  exact ⟨this.2.1 (by omega), this.1⟩
/-- A ROW THAT FITS to its end. -/
theorem first_whole {i b : Nat} {t : List Nat} (hi : i < 9) (h0 : fits (b :: t) (row i) ≠ 0) (h : ¬ fits (b :: t) (row i) < (row i).2.2.1) :
    (first (b :: t)).1 = vals (b - (row i).2.2.2.2.2) (t.take (fits (b :: t) (row i) - 1)) ∧ (first (b :: t)).2.1 = fits (b :: t) (row i) ∧ (row i).2.2.2.2.2 ≤ b ∧ 1 ≤ fits (b :: t) (row i) ∧ fits (b :: t) (row i) ≤ 4 ∧
    fits (b :: t) (row i) ≤ t.length + 1 ∧ ∀ j, j < fits (b :: t) (row i) - 1 → 0x80 ≤ t.getD j 0 ∧ t.getD j 0 ≤ 0xBF := by
  obtain ⟨h1, h2, h3⟩ := fits_pos h0
  obtain ⟨e, ho, hn1, hn4, e1, e2⟩ := row_lead i b hi h1 h2
  have hle := fit_le ((row i).2.2.1 - 1) (row i).2.2.2.1 (row i).2.2.2.2.1 t
  have hfull : fit ((row i).2.2.1 - 1) (row i).2.2.2.1 (row i).2.2.2.2.1 t = (row i).2.2.1 - 1 := by omega
  rw [h3, hfull]
  have hk : 1 + ((row i).2.2.1 - 1) - 1 = (row i).2.2.1 - 1 := by omega
  rw [hk]
  have := cont_fit ((row i).2.2.1 - 1) (low (row i).2.2.1 b) 1 (row i).2.2.2.1 (row i).2.2.2.2.1 t
  by_cases hn : (row i).2.2.1 = 1
  · rw [e1 hn]
    simp only [first, e, hn]
    simp [vals]; omega
  · obtain ⟨e3, e4, e5⟩ := e2 hn
    rw [e3]
    simp only [first, e]
    rw [if_neg (by omega), if_neg (by omega)]
    refine ⟨this.2.2 hfull, by rw [this.1, hfull], ho, by omega, by omega, by omega, ?_⟩
    exact fit_range _ _ _ _ hfull e4 e5
theorem first_none {b : Nat} {t : List Nat} (h : ∀ i, i < 9 → ¬ ((row i).1 ≤ b ∧ b ≤ (row i).2.1)) : first (b :: t) = (0xfffd, 1, false) := by
  simp only [first]; rw [if_pos (no_row b h)]
theorem none_start (b : Nat) : ∀ i, i < 0 → ¬ ((row i).1 ≤ b ∧ b ≤ (row i).2.1) := by intro i hi; omega
theorem none_next {b k : Nat} (h : ∀ i, i < k → ¬ ((row i).1 ≤ b ∧ b ≤ (row i).2.1)) (hk : ¬ ((row k).1 ≤ b ∧ b ≤ (row k).2.1)) : ∀ i, i < k + 1 → ¬ ((row i).1 ≤ b ∧ b ≤ (row i).2.1) := by
  intro i hi
  by_cases e : i = k
  · subst e; exact hk
  · exact h i (by omega)

end Go.Proofs.YtbhhfagifdjmmaaGreat.utf
