/-
  Plain facts on clusters of characters. No program in sight.
-/
import Derived.Test.YtgpgbbbcodnieaaWidPlain
import Derived.Test.YtgpgbbbcodnieaaUtfPlain
namespace Go.Proofs.Ytgpgbbbcodnieaa.clu
open Go.Proofs.Ytgpgbbbcodnieaa.wid

/-- does a base of that class take tones and joined pictures -/
def picture (b : Nat) : Bool := decide (b = 7) || decide (b = 8)
/-- does a cluster with that base, whose last one is ahead, take in the next one -/
def takes (b : Nat) (ahead next : Int) : Bool :=
  if kind next = 2 ∨ kind next = 3 ∨ kind next = 4 then true
  else if kind next = 5 then picture b
  else if kind next = 7 ∨ kind next = 8 then picture b && decide (kind ahead = 3) else false

def grow (b : Nat) (l : List Int) : Nat → Nat → Nat
  | 0, n => n
  | f + 1, n => if n < l.length ∧ takes b (l.getD (n - 1) 0) (l.getD n 0) = true then grow b l f (n + 1) else n
def growFrom (b : Nat) (l : List Int) (n : Nat) : Nat := grow b l (16 - n) n
def pair (l : List Int) : Bool := decide (kind (l.getD 0 0) = 6) && (decide (1 < l.length) && decide (kind (l.getD 1 0) = 6))
def vary (l : List Int) : Bool := decide (kind (l.getD 0 0) = 8) && (decide (1 < l.length) && decide (l.getD 1 0 = 0xfe0f))
def start (l : List Int) : Nat := if pair l then 2 else 1
/-- how many are the first cluster -/
def count (l : List Int) : Nat := if kind (l.getD 0 0) = 1 then 1 else growFrom (kind (l.getD 0 0)) l (start l)
/-- how wide the first cluster is -/
def wide (l : List Int) : Nat := if kind (l.getD 0 0) = 1 then 0 else if pair l then 2 else if vary l then 2 else cellsAt (l.getD 0 0)

theorem grow_bounds (b : Nat) (l : List Int) : ∀ f n, n ≤ grow b l f n ∧ grow b l f n ≤ n + f ∧ (n ≤ l.length → grow b l f n ≤ l.length)
  | 0, n => by simp [grow]
  | f + 1, n => by
    simp only [grow]
    split
    · rename_i h
      have := grow_bounds b l f (n + 1)
      omega
    · omega

theorem start_bounds (l : List Int) (h : l ≠ []) : 1 ≤ start l ∧ start l ≤ 2 ∧ start l ≤ l.length := by
  have h1 : 1 ≤ l.length := List.length_pos_iff.2 h
  unfold start
  split
  · rename_i hp
    unfold pair at hp
    simp only [Bool.and_eq_true, decide_eq_true_eq] at hp
    omega
  · omega

theorem count_bounds (l : List Int) (h : l ≠ []) : 1 ≤ count l ∧ count l ≤ 16 ∧ count l ≤ l.length := by
  have h1 : 1 ≤ l.length := List.length_pos_iff.2 h
  have h2 := start_bounds l h
  unfold count
  split
  · omega
  · unfold growFrom
    have := grow_bounds (kind (l.getD 0 0)) l (16 - start l) (start l)
    omega

theorem getD_take (l : List Int) (k i : Nat) (h : i < k) : (l.take k).getD i 0 = l.getD i 0 := by
  simp only [List.getD_eq_getElem?_getD]
  rw [List.getElem?_take_of_lt h]

theorem grow_take (b : Nat) (l : List Int) (k : Nat) : ∀ f n, 1 ≤ n → grow b l f n ≤ k → grow b (l.take k) f n = grow b l f n
  | 0, n, _, _ => rfl
  | f + 1, n, hn, h => by
    simp only [grow] at h ⊢
    have hb := (grow_bounds b l f (n + 1)).1
    by_cases hc : n < l.length ∧ takes b (l.getD (n - 1) 0) (l.getD n 0) = true
    · rw [if_pos hc] at h ⊢
      have hk : n < k := by omega
      rw [if_pos ⟨by rw [List.length_take]; omega, by rw [getD_take l k _ (by omega), getD_take l k n hk]; exact hc.2⟩]
      exact grow_take b l k f (n + 1) (by omega) h
    · rw [if_neg hc] at h ⊢
      rw [if_neg]
      intro ⟨h1, h2⟩
      rw [List.length_take] at h1
      have hk : n < k := by omega
      rw [getD_take l k _ (by omega), getD_take l k n hk] at h2
      exact hc ⟨by omega, h2⟩

theorem pair_iff {l : List Int} : pair l = true ↔ kind (l.getD 0 0) = 6 ∧ 1 < l.length ∧ kind (l.getD 1 0) = 6 := by
  unfold pair
  simp only [Bool.and_eq_true, decide_eq_true_eq]
theorem vary_iff {l : List Int} : vary l = true ↔ kind (l.getD 0 0) = 8 ∧ 1 < l.length ∧ l.getD 1 0 = 0xfe0f := by
  unfold vary
  simp only [Bool.and_eq_true, decide_eq_true_eq]
theorem pair_take {l : List Int} {k : Nat} (hk : start l ≤ k) (h1 : 1 ≤ k) : pair (l.take k) = pair l := by
  rw [Bool.eq_iff_iff, pair_iff, pair_iff, getD_take l k 0 (by omega), List.length_take]
  constructor
  · rintro ⟨h0, h2, h3⟩
    rw [getD_take l k 1 (by omega)] at h3
    exact ⟨h0, by omega, h3⟩
  · rintro ⟨h0, h2, h3⟩
    have : start l = 2 := by unfold start; rw [if_pos (pair_iff.2 ⟨h0, h2, h3⟩)]
    rw [getD_take l k 1 (by omega)]
    exact ⟨h0, by omega, h3⟩

theorem start_count (l : List Int) (hk : kind (l.getD 0 0) ≠ 1) : start l ≤ count l := by
  unfold count; rw [if_neg hk]
  exact (grow_bounds _ _ _ _).1

theorem count_take {l : List Int} {k : Nat} (h : l ≠ []) (hk : count l ≤ k) : count (l.take k) = count l := by
  have hb := count_bounds l h
  by_cases hc : kind (l.getD 0 0) = 1
  · unfold count
    rw [getD_take l k 0 (by omega), if_pos hc, if_pos hc]
  · have hs := start_count l hc
    have hp := pair_take (l := l) (k := k) (by omega) (by omega)
    have hst : start (l.take k) = start l := by unfold start; rw [hp]
    have hs1 := (start_bounds l h).1
    have hk1 : 0 < k := by omega
    unfold count at hk ⊢
    rw [getD_take l k 0 hk1]
    rw [if_neg hc] at hk ⊢
    rw [if_neg hc, hst]
    exact grow_take _ _ _ _ _ hs1 hk

theorem kind_vary : kind 0xfe0f = 4 := by decide
theorem takes_vary (b : Nat) (a : Int) : takes b a 0xfe0f = true := by unfold takes; rw [kind_vary]; rfl
theorem vary_count {l : List Int} (h : vary l = true) : 2 ≤ count l := by
  unfold vary at h
  simp only [Bool.and_eq_true, decide_eq_true_eq] at h
  obtain ⟨h0, h1, h2⟩ := h
  have hp : pair l = false := by unfold pair; rw [h0]; rfl
  unfold count
  rw [if_neg (by omega), h0]
  unfold start
  rw [hp]
  show 2 ≤ grow 8 l (14 + 1) 1
  simp only [grow]
  rw [if_pos ⟨h1, by rw [h2]; exact takes_vary _ _⟩]
  exact (grow_bounds 8 l 14 2).1

theorem vary_take {l : List Int} {k : Nat} (h : l ≠ []) (hk : count l ≤ k) : vary (l.take k) = vary l := by
  have hb := count_bounds l h
  rw [Bool.eq_iff_iff, vary_iff, vary_iff, getD_take l k 0 (by omega), List.length_take]
  constructor
  · rintro ⟨h0, h2, h3⟩
    rw [getD_take l k 1 (by omega)] at h3
    exact ⟨h0, by omega, h3⟩
  · rintro ⟨h0, h2, h3⟩
    have := vary_count (vary_iff.2 ⟨h0, h2, h3⟩)
    rw [getD_take l k 1 (by omega)]
    exact ⟨h0, by omega, h3⟩

theorem wide_take {l : List Int} {k : Nat} (h : l ≠ []) (hk : count l ≤ k) : wide (l.take k) = wide l := by
  have hb := count_bounds l h
  unfold wide
  rw [getD_take l k 0 (by omega), vary_take h hk]
  by_cases hc : kind (l.getD 0 0) = 1
  · rw [if_pos hc, if_pos hc]
  · have := start_count l hc
    rw [pair_take (l := l) (k := k) (by omega) (by omega)]

theorem wide_le (l : List Int) : wide l ≤ 2 := by
  unfold wide cellsAt cellsOf
  (repeat' split) <;> omega

/-- the clusters -/
def pieces : Nat → List Int → List (List Int)
  | 0, _ => []
  | _ + 1, [] => []
  | f + 1, r :: t => (r :: t).take (count (r :: t)) :: pieces f ((r :: t).drop (count (r :: t)))
def cl (l : List Int) : List (List Int) := pieces l.length l
theorem pieces_any : ∀ (n m : Nat) (l : List Int), l.length ≤ n → l.length ≤ m → pieces n l = pieces m l
  | 0, 0, _, _, _ => rfl
  | 0, m + 1, l, h, _ => by
    have : l = [] := List.length_eq_zero_iff.1 (by omega)
    subst this; rfl
  | n + 1, 0, l, _, h => by
    have : l = [] := List.length_eq_zero_iff.1 (by omega)
    subst this; rfl
  | n + 1, m + 1, [], _, _ => rfl
  | n + 1, m + 1, r :: t, h1, h2 => by
    have hb := count_bounds (r :: t) (by simp)
    simp only [List.length_cons] at h1 h2 hb
    simp only [pieces]
    rw [pieces_any n m _ (by simp only [List.length_drop, List.length_cons]; omega) (by simp only [List.length_drop, List.length_cons]; omega)]
theorem cl_nil : cl [] = [] := rfl
theorem cl_step (l : List Int) (h : l ≠ []) : cl l = l.take (count l) :: cl (l.drop (count l)) := by
  match l, h with
  | r :: t, _ =>
    have hb := count_bounds (r :: t) (by simp)
    simp only [List.length_cons] at hb
    show pieces (t.length + 1) (r :: t) = _
    simp only [pieces]
    rw [cl, pieces_any t.length _ _ (by simp only [List.length_drop, List.length_cons]; omega) (Nat.le_refl _)]

theorem drop_lt {l : List Int} (h : l ≠ []) : (l.drop (count l)).length < l.length := by
  have hb := count_bounds l h
  rw [List.length_drop]; omega

theorem cl_flat : ∀ (n : Nat) (l : List Int), l.length ≤ n → (cl l).flatten = l
  | 0, l, h => by
    have : l = [] := List.length_eq_zero_iff.1 (by omega)
    subst this; rfl
  | n + 1, l, h => by
    by_cases hl : l = []
    · subst hl; rfl
    · have := drop_lt hl
      rw [cl_step l hl, List.flatten_cons, cl_flat n _ (by omega), List.take_append_drop]

theorem cl_length : ∀ (n : Nat) (l : List Int), l.length ≤ n → (cl l).length ≤ l.length
  | 0, l, h => by
    have : l = [] := List.length_eq_zero_iff.1 (by omega)
    subst this; simp [cl_nil]
  | n + 1, l, h => by
    by_cases hl : l = []
    · subst hl; simp [cl_nil]
    · have h1 := drop_lt hl
      have h2 := cl_length n (l.drop (count l)) (by omega)
      rw [cl_step l hl, List.length_cons]
      omega

theorem cl_piece : ∀ (n : Nat) (l : List Int), l.length ≤ n → ∀ p ∈ cl l, p ≠ [] ∧ p.length ≤ 16 ∧ (∀ r ∈ p, r ∈ l)
  | 0, l, h => by
    have : l = [] := List.length_eq_zero_iff.1 (by omega)
    subst this; simp [cl_nil]
  | n + 1, l, h => by
    by_cases hl : l = []
    · subst hl; simp [cl_nil]
    · have h1 := drop_lt hl
      have h2 := cl_piece n (l.drop (count l)) (by omega)
      have hb := count_bounds l hl
      rw [cl_step l hl]
      intro p hp
      rcases List.mem_cons.1 hp with rfl | hp
      · refine ⟨?_, by rw [List.length_take]; omega, fun r hr => List.mem_of_mem_take hr⟩
        intro e
        have := congrArg List.length e
        rw [List.length_take, List.length_nil] at this
        omega
      · obtain ⟨a, b, c⟩ := h2 p hp
        exact ⟨a, b, fun r hr => List.mem_of_mem_drop (c r hr)⟩

theorem flat_parts (l : List Int) (k : Nat) : ((cl l).take k).flatten ++ ((cl l).drop k).flatten = l := by
  rw [← List.flatten_append, List.take_append_drop, cl_flat _ l (Nat.le_refl _)]

/-- WHAT STANDS BEHIND A BORDER is the same clusters by itself -/
theorem cl_drop : ∀ (a : Nat) (l : List Int), cl (((cl l).drop a).flatten) = (cl l).drop a
  | 0, l => by rw [List.drop_zero, cl_flat _ l (Nat.le_refl _)]
  | a + 1, l => by
    by_cases hl : l = []
    · subst hl; simp [cl_nil]
    · rw [cl_step l hl, List.drop_succ_cons]
      exact cl_drop a _

/-- what stands ahead of one too -/
theorem cl_take : ∀ (b : Nat) (l : List Int), cl (((cl l).take b).flatten) = (cl l).take b
  | 0, l => by simp [cl_nil]
  | b + 1, l => by
    by_cases hl : l = []
    · subst hl; simp [cl_nil]
    · have hb := count_bounds l hl
      have hw := cl_take b (l.drop (count l))
      have hp := flat_parts (l.drop (count l)) b
      rw [cl_step l hl, List.take_succ_cons, List.flatten_cons]
      generalize hF : ((cl (l.drop (count l))).take b).flatten = F at *
      have hpre : l.take (count l) ++ F = l.take (count l + F.length) := by
        rw [List.take_add]
        congr 1
        rw [← hp, List.take_left]
      have hne : l.take (count l) ++ F ≠ [] := by
        intro e
        have := congrArg List.length e
        rw [List.length_append, List.length_take, List.length_nil] at this
        omega
      have hcnt : count (l.take (count l) ++ F) = count l := by
        rw [hpre]; exact count_take hl (by omega)
      have htl : (l.take (count l)).length = count l := by rw [List.length_take]; omega
      rw [cl_step _ hne, hcnt]
      have e1 : (l.take (count l) ++ F).take (count l) = l.take (count l) := by
        have := List.take_left (l₁ := l.take (count l)) (l₂ := F)
        rw [htl] at this
        exact this
      have e2 : (l.take (count l) ++ F).drop (count l) = F := by
        have := List.drop_left (l₁ := l.take (count l)) (l₂ := F)
        rw [htl] at this
        exact this
      rw [e1, e2, hw]

theorem cl_between (l : List Int) (a m : Nat) : cl ((((cl l).drop a).take m).flatten) = ((cl l).drop a).take m := by
  have h := cl_take m (((cl l).drop a).flatten)
  rw [cl_drop] at h
  exact h

theorem cl_one {l p : List Int} (h : p ∈ cl l) : cl p = [p] := by
  obtain ⟨i, hi, rfl⟩ := List.getElem_of_mem h
  have := cl_between l i 1
  have e : ((cl l).drop i).take 1 = [(cl l)[i]] := by rw [List.drop_eq_getElem_cons hi]; rfl
  rw [e, List.flatten_cons, List.flatten_nil, List.append_nil] at this
  exact this

theorem wide_of_piece {l : List Int} (h : l ≠ []) : wide (l.take (count l)) = wide l := wide_take h (Nat.le_refl _)

/-- an end of a count: the cluster is all there is, sixteen, or the next one is not taken -/
theorem grow_step {b : Nat} {l : List Int} {n : Nat} (h : n < l.length) (h16 : n < 16) (ht : takes b (l.getD (n - 1) 0) (l.getD n 0) = true) : growFrom b l n = growFrom b l (n + 1) := by
  unfold growFrom
  rw [show 16 - n = (16 - (n + 1)) + 1 by omega]
  simp only [grow]
  rw [if_pos ⟨h, ht⟩]
theorem grow_stop {b : Nat} {l : List Int} {n : Nat} (ht : takes b (l.getD (n - 1) 0) (l.getD n 0) = false) : growFrom b l n = n := by
  unfold growFrom
  cases 16 - n with
  | zero => rfl
  | succ f =>
    simp only [grow]
    rw [if_neg (by rw [ht]; simp)]
theorem grow_end {b : Nat} {l : List Int} {n : Nat} (h : ¬ (n < l.length ∧ n < 16)) : growFrom b l n = n := by
  unfold growFrom
  rcases Nat.lt_or_ge n 16 with h1 | h1
  · cases 16 - n with
    | zero => rfl
    | succ f =>
      simp only [grow]
      rw [if_neg (by intro h2; exact h ⟨h2.1, h1⟩)]
  · rw [show 16 - n = 0 by omega]; rfl

/-- a letter is taken by none -/
theorem letter_kind : kind 120 = 9 ∧ kind 97 = 9 ∧ kind 98 = 9 := by decide
theorem grow_snoc (b : Nat) (l : List Int) (x : Int) (hx : kind x = 9) : ∀ f n, 1 ≤ n → grow b (l ++ [x]) f n = if n ≤ l.length then grow b l f n else n
  | 0, n, _ => by simp [grow]
  | f + 1, n, hn => by
    have hno : ∀ a, takes b a x = false := by intro a; unfold takes; rw [hx]; rfl
    simp only [grow]
    rcases Nat.lt_trichotomy n l.length with h | h | h
    · rw [if_pos (Nat.le_of_lt h)]
      have e1 : (l ++ [x]).getD n 0 = l.getD n 0 := by simp only [List.getD_eq_getElem?_getD]; rw [List.getElem?_append_left h]
      have e2 : (l ++ [x]).getD (n - 1) 0 = l.getD (n - 1) 0 := by simp only [List.getD_eq_getElem?_getD]; rw [List.getElem?_append_left (by omega)]
      rw [e1, e2]
      by_cases ht : takes b (l.getD (n - 1) 0) (l.getD n 0) = true
      · rw [if_pos ⟨by rw [List.length_append]; omega, ht⟩, if_pos ⟨h, ht⟩, grow_snoc b l x hx f (n + 1) (by omega), if_pos (by omega)]
      · rw [if_neg (fun h => ht h.2), if_neg (fun h => ht h.2)]
    · have e1 : (l ++ [x]).getD n 0 = x := by simp [List.getD_eq_getElem?_getD, h]
      rw [if_neg (by rw [e1, hno]; simp), if_pos (show n ≤ l.length by omega), if_neg (show ¬ (n < l.length ∧ _) by omega)]
    · rw [if_neg (show ¬ (n < (l ++ [x]).length ∧ _) by rw [List.length_append, List.length_singleton]; omega), if_neg (show ¬ n ≤ l.length by omega)]

theorem count_snoc (l : List Int) (h : l ≠ []) (x : Int) (hx : kind x = 9) : count (l ++ [x]) = count l ∧ pair (l ++ [x]) = pair l := by
  have h1 : 1 ≤ l.length := List.length_pos_iff.2 h
  have e0 : (l ++ [x]).getD 0 0 = l.getD 0 0 := by simp only [List.getD_eq_getElem?_getD]; rw [List.getElem?_append_left h1]
  have hp : pair (l ++ [x]) = pair l := by
    unfold pair
    rw [e0]
    rcases Nat.lt_or_ge 1 l.length with h2 | h2
    · have e1 : (l ++ [x]).getD 1 0 = l.getD 1 0 := by simp only [List.getD_eq_getElem?_getD]; rw [List.getElem?_append_left h2]
      rw [e1, decide_eq_true h2, decide_eq_true (show 1 < (l ++ [x]).length by simp; omega)]
    · have e1 : (l ++ [x]).getD 1 0 = x := by
        have : l.length = 1 := by omega
        simp [List.getD_eq_getElem?_getD, this]
      rw [e1, hx, decide_eq_false (show ¬ 1 < l.length by omega)]
      simp
  refine ⟨?_, hp⟩
  have hst : start (l ++ [x]) = start l := by unfold start; rw [hp]
  have hsb := start_bounds l h
  unfold count
  rw [e0, hst]
  split
  · rfl
  · unfold growFrom
    rw [grow_snoc _ _ _ hx _ _ hsb.1, if_pos hsb.2.2]

theorem cl_single (x : Int) : cl [x] = [[x]] := by
  have hb := count_bounds [x] (by simp)
  simp only [List.length_cons, List.length_nil] at hb
  have : count [x] = 1 := by omega
  rw [cl_step _ (by simp), this]
  rfl

theorem cl_snoc (x : Int) (hx : kind x = 9) : ∀ (n : Nat) (l : List Int), l.length ≤ n → cl (l ++ [x]) = cl l ++ [[x]]
  | 0, l, h => by
    have : l = [] := List.length_eq_zero_iff.1 (by omega)
    subst this
    exact cl_single x
  | n + 1, l, h => by
    by_cases hl : l = []
    · subst hl; exact cl_single x
    · have hb := count_bounds l hl
      have h1 := drop_lt hl
      rw [cl_step (l ++ [x]) (by simp), (count_snoc l hl x hx).1, cl_step l hl, List.take_append_of_le_length hb.2.2, List.drop_append_of_le_length hb.2.2, cl_snoc x hx n _ (by omega)]
      rfl

end Go.Proofs.Ytgpgbbbcodnieaa.clu
