/-
  Plain facts on clusters of characters. No program in sight.
  The walks of the layer cluster: how many characters the first cluster has, and its width.
  The iterator over the clusters of a text: what All hands back, and its contract.
  The walks of the layer cluster: All; what stands of a loop over it.
  The walks of the layer cluster: Split.
  The walks of the layer cluster: One.
-/
import Derived.Test.YtdgcfmfjgidbjaaGreatWidAll
import Derived.Test.YtdgcfmfjgidbjaaGreatUtfAll
import Derived.Deep.DeepCutAuto
import Derived.WalkMore
import Derived.RangeFuncNested
import Derived.RangeFuncBound
import Derived.RangeFuncCalls
import Derived.RangeFuncLeaves
import Derived.Shelf.Abstract
import Derived.Shelf.RegionOpen
import Derived.WalkKit
import Derived.OwnWalkIn
import Derived.TacticsInMore
import Derived.LoopNIn
import Derived.LoopIn
import Derived.Maps.AppendAt
import Derived.Laws.ResultCell
section
namespace Go.Proofs.YtdgcfmfjgidbjaaGreat.clu
open Go.Proofs.YtdgcfmfjgidbjaaGreat.wid

/-- does a base of that class take tones and joined pictures -/
def picture (b : Nat) : Bool := decide (b = 7) || decide (b = 8)
/-- does a cluster with that base, whose last one is ahead, take in the next one -/
def takes (b : Nat) (ahead next : Int) : Bool :=
  if kind next = 2 ∨ kind next = 3 ∨ kind next = 4 then true
  else if kind next = 5 then picture b
  else if kind next = 7 ∨ kind next = 8 then picture b && decide (kind ahead = 3) else false

def grow (b : Nat) (l : List Int) : Nat → Nat → Nat
  | 0, n => n
  | f + 1, n => if n < l.length ∧ takes b (l.getD (n - 1) 0) (l.getD n 0) = true then grow b l f (n + 1) else n
def growFrom (b : Nat) (l : List Int) (n : Nat) : Nat := grow b l (16 - n) n
def pair (l : List Int) : Bool := decide (kind (l.getD 0 0) = 6) && (decide (1 < l.length) && decide (kind (l.getD 1 0) = 6))
def vary (l : List Int) : Bool := decide (kind (l.getD 0 0) = 8) && (decide (1 < l.length) && decide (l.getD 1 0 = 0xfe0f))
def start (l : List Int) : Nat := if pair l then 2 else 1
/-- how many are the first cluster -/
def count (l : List Int) : Nat := if kind (l.getD 0 0) = 1 then 1 else growFrom (kind (l.getD 0 0)) l (start l)
/-- how wide the first cluster is -/
def wide (l : List Int) : Nat := if kind (l.getD 0 0) = 1 then 0 else if pair l then 2 else if vary l then 2 else cellsAt (l.getD 0 0)

theorem grow_bounds (b : Nat) (l : List Int) : ∀ f n, n ≤ grow b l f n ∧ grow b l f n ≤ n + f ∧ (n ≤ l.length → grow b l f n ≤ l.length)
  | 0, n => by simp [grow]
  | f + 1, n => by
    simp only [grow]
    split
    · rename_i h
      have := grow_bounds b l f (n + 1)
      omega
    · omega

theorem start_bounds (l : List Int) (h : l ≠ []) : 1 ≤ start l ∧ start l ≤ 2 ∧ start l ≤ l.length := by
  have h1 : 1 ≤ l.length := List.length_pos_iff.2 h
  unfold start
  split
  · rename_i hp
    unfold pair at hp
    simp only [Bool.and_eq_true, decide_eq_true_eq] at hp
    omega
  · omega

theorem count_bounds (l : List Int) (h : l ≠ []) : 1 ≤ count l ∧ count l ≤ 16 ∧ count l ≤ l.length := by
  have h1 : 1 ≤ l.length := List.length_pos_iff.2 h
  have h2 := start_bounds l h
  unfold count
  split
  · omega
  · unfold growFrom
    have := grow_bounds (kind (l.getD 0 0)) l (16 - start l) (start l)
    omega

theorem getD_take (l : List Int) (k i : Nat) (h : i < k) : (l.take k).getD i 0 = l.getD i 0 := by
  simp only [List.getD_eq_getElem?_getD]
  rw [List.getElem?_take_of_lt h]

theorem grow_take (b : Nat) (l : List Int) (k : Nat) : ∀ f n, 1 ≤ n → grow b l f n ≤ k → grow b (l.take k) f n = grow b l f n
  | 0, n, _, _ => rfl
  | f + 1, n, hn, h => by
    simp only [grow] at h ⊢
    have hb := (grow_bounds b l f (n + 1)).1
    by_cases hc : n < l.length ∧ takes b (l.getD (n - 1) 0) (l.getD n 0) = true
    · rw [if_pos hc] at h ⊢
      have hk : n < k := by omega
      rw [if_pos ⟨by rw [List.length_take]; omega, by rw [getD_take l k _ (by omega), getD_take l k n hk]; exact hc.2⟩]
      exact grow_take b l k f (n + 1) (by omega) h
    · rw [if_neg hc] at h ⊢
      rw [if_neg]
      intro ⟨h1, h2⟩
      rw [List.length_take] at h1
      have hk : n < k := by omega
      rw [getD_take l k _ (by omega), getD_take l k n hk] at h2
      exact hc ⟨by omega, h2⟩

theorem pair_iff {l : List Int} : pair l = true ↔ kind (l.getD 0 0) = 6 ∧ 1 < l.length ∧ kind (l.getD 1 0) = 6 := by
  unfold pair
  simp only [Bool.and_eq_true, decide_eq_true_eq]
theorem vary_iff {l : List Int} : vary l = true ↔ kind (l.getD 0 0) = 8 ∧ 1 < l.length ∧ l.getD 1 0 = 0xfe0f := by
  unfold vary
  simp only [Bool.and_eq_true, decide_eq_true_eq]
theorem pair_take {l : List Int} {k : Nat} (hk : start l ≤ k) (h1 : 1 ≤ k) : pair (l.take k) = pair l := by
  rw [Bool.eq_iff_iff, pair_iff, pair_iff, getD_take l k 0 (by omega), List.length_take]
  constructor
  · rintro ⟨h0, h2, h3⟩
    rw [getD_take l k 1 (by omega)] at h3
    exact ⟨h0, by omega, h3⟩
  · rintro ⟨h0, h2, h3⟩
    have : start l = 2 := by unfold start; rw [if_pos (pair_iff.2 ⟨h0, h2, h3⟩)]
    rw [getD_take l k 1 (by omega)]
    exact ⟨h0, by omega, h3⟩

theorem start_count (l : List Int) (hk : kind (l.getD 0 0) ≠ 1) : start l ≤ count l := by
  unfold count; rw [if_neg hk]
  exact (grow_bounds _ _ _ _).1

theorem count_take {l : List Int} {k : Nat} (h : l ≠ []) (hk : count l ≤ k) : count (l.take k) = count l := by
  have hb := count_bounds l h
  by_cases hc : kind (l.getD 0 0) = 1
  · unfold count
    rw [getD_take l k 0 (by omega), if_pos hc, if_pos hc]
  · have hs := start_count l hc
    have hp := pair_take (l := l) (k := k) (by omega) (by omega)
    have hst : start (l.take k) = start l := by unfold start; rw [hp]
    have hs1 := (start_bounds l h).1
    have hk1 : 0 < k := by omega
    unfold count at hk ⊢
    rw [getD_take l k 0 hk1]
    rw [if_neg hc] at hk ⊢
    rw [if_neg hc, hst]
    exact grow_take _ _ _ _ _ hs1 hk

theorem kind_vary : kind 0xfe0f = 4 := by decide
theorem takes_vary (b : Nat) (a : Int) : takes b a 0xfe0f = true := by unfold takes; rw [kind_vary]; rfl
theorem vary_count {l : List Int} (h : vary l = true) : 2 ≤ count l := by
  unfold vary at h
  simp only [Bool.and_eq_true, decide_eq_true_eq] at h
  obtain ⟨h0, h1, h2⟩ := h
  have hp : pair l = false := by unfold pair; rw [h0]; rfl
  unfold count
  rw [if_neg (by omega), h0]
  unfold start
  rw [hp]
  show 2 ≤ grow 8 l (14 + 1) 1
  simp only [grow]
  rw [if_pos ⟨h1, by rw [h2]; exact takes_vary _ _⟩]
  exact (grow_bounds 8 l 14 2).1

theorem vary_take {l : List Int} {k : Nat} (h : l ≠ []) (hk : count l ≤ k) : vary (l.take k) = vary l := by
  have hb := count_bounds l h
  rw [Bool.eq_iff_iff, vary_iff, vary_iff, getD_take l k 0 (by omega), List.length_take]
  constructor
  · rintro ⟨h0, h2, h3⟩
    rw [getD_take l k 1 (by omega)] at h3
    exact ⟨h0, by omega, h3⟩
  · rintro ⟨h0, h2, h3⟩
    have := vary_count (vary_iff.2 ⟨h0, h2, h3⟩)
    rw [getD_take l k 1 (by omega)]
    exact ⟨h0, by omega, h3⟩

theorem wide_take {l : List Int} {k : Nat} (h : l ≠ []) (hk : count l ≤ k) : wide (l.take k) = wide l := by
  have hb := count_bounds l h
  unfold wide
  rw [getD_take l k 0 (by omega), vary_take h hk]
  by_cases hc : kind (l.getD 0 0) = 1
  · rw [if_pos hc, if_pos hc]
  · have := start_count l hc
    rw [pair_take (l := l) (k := k) (by omega) (by omega)]

theorem wide_le (l : List Int) : wide l ≤ 2 := by
  unfold wide cellsAt cellsOf
  (repeat' split) <;> omega

/-- the clusters -/
def pieces : Nat → List Int → List (List Int)
  | 0, _ => []
  | _ + 1, [] => []
  | f + 1, r :: t => (r :: t).take (count (r :: t)) :: pieces f ((r :: t).drop (count (r :: t)))
def cl (l : List Int) : List (List Int) := pieces l.length l
theorem pieces_any : ∀ (n m : Nat) (l : List Int), l.length ≤ n → l.length ≤ m → pieces n l = pieces m l
  | 0, 0, _, _, _ => rfl
  | 0, m + 1, l, h, _ => by
    have : l = [] := List.length_eq_zero_iff.1 (by omega)
    subst this; rfl
  | n + 1, 0, l, _, h => by
    have : l = [] := List.length_eq_zero_iff.1 (by omega)
    subst this; rfl
  | n + 1, m + 1, [], _, _ => rfl
  | n + 1, m + 1, r :: t, h1, h2 => by
    have hb := count_bounds (r :: t) (by simp)
    simp only [List.length_cons] at h1 h2 hb
    simp only [pieces]
    rw [pieces_any n m _ (by simp only [List.length_drop, List.length_cons]; omega) (by simp only [List.length_drop, List.length_cons]; omega)]
theorem cl_nil : cl [] = [] := rfl
theorem cl_step (l : List Int) (h : l ≠ []) : cl l = l.take (count l) :: cl (l.drop (count l)) := by
  match l, h with
  | r :: t, _ =>
    have hb := count_bounds (r :: t) (by simp)
    simp only [List.length_cons] at hb
    show pieces (t.length + 1) (r :: t) = _
    simp only [pieces]
    rw [cl, pieces_any t.length _ _ (by simp only [List.length_drop, List.length_cons]; omega) (Nat.le_refl _)]

theorem drop_lt {l : List Int} (h : l ≠ []) : (l.drop (count l)).length < l.length := by
  have hb := count_bounds l h
  rw [List.length_drop]; omega

theorem cl_flat : ∀ (n : Nat) (l : List Int), l.length ≤ n → (cl l).flatten = l
  | 0, l, h => by
    have : l = [] := List.length_eq_zero_iff.1 (by omega)
    subst this; rfl
  | n + 1, l, h => by
    by_cases hl : l = []
    · subst hl; rfl
    · have := drop_lt hl
      rw [cl_step l hl, List.flatten_cons, cl_flat n _ (by omega), List.take_append_drop]

theorem cl_length : ∀ (n : Nat) (l : List Int), l.length ≤ n → (cl l).length ≤ l.length
  | 0, l, h => by
    have : l = [] := List.length_eq_zero_iff.1 (by omega)
    subst this; simp [cl_nil]
  | n + 1, l, h => by
    by_cases hl : l = []
    · subst hl; simp [cl_nil]
    · have h1 := drop_lt hl
      have h2 := cl_length n (l.drop (count l)) (by omega)
      rw [cl_step l hl, List.length_cons]
      omega

theorem cl_piece : ∀ (n : Nat) (l : List Int), l.length ≤ n → ∀ p ∈ cl l, p ≠ [] ∧ p.length ≤ 16 ∧ (∀ r ∈ p, r ∈ l)
  | 0, l, h => by
    have : l = [] := List.length_eq_zero_iff.1 (by omega)
    subst this; simp [cl_nil]
  | n + 1, l, h => by
    by_cases hl : l = []
    · subst hl; simp [cl_nil]
    · have h1 := drop_lt hl
      have h2 := cl_piece n (l.drop (count l)) (by omega)
      have hb := count_bounds l hl
      rw [cl_step l hl]
      intro p hp
      rcases List.mem_cons.1 hp with rfl | hp
      · refine ⟨?_, by rw [List.length_take]; omega, fun r hr => List.mem_of_mem_take hr⟩
        intro e
        have := congrArg List.length e
        rw [List.length_take, List.length_nil] at this
        omega
      · obtain ⟨a, b, c⟩ := h2 p hp
        exact ⟨a, b, fun r hr => List.mem_of_mem_drop (c r hr)⟩

theorem flat_parts (l : List Int) (k : Nat) : ((cl l).take k).flatten ++ ((cl l).drop k).flatten = l := by
  rw [← List.flatten_append, List.take_append_drop, cl_flat _ l (Nat.le_refl _)]

/-- WHAT STANDS BEHIND A BORDER is the same clusters by itself -/
theorem cl_drop : ∀ (a : Nat) (l : List Int), cl (((cl l).drop a).flatten) = (cl l).drop a
  | 0, l => by rw [List.drop_zero, cl_flat _ l (Nat.le_refl _)]
  | a + 1, l => by
    by_cases hl : l = []
    · subst hl; simp [cl_nil]
    · rw [cl_step l hl, List.drop_succ_cons]
      exact cl_drop a _

/-- what stands ahead of one too -/
theorem cl_take : ∀ (b : Nat) (l : List Int), cl (((cl l).take b).flatten) = (cl l).take b
  | 0, l => by simp [cl_nil]
  | b + 1, l => by
    by_cases hl : l = []
    · subst hl; simp [cl_nil]
    · have hb := count_bounds l hl
      have hw := cl_take b (l.drop (count l))
      have hp := flat_parts (l.drop (count l)) b
      rw [cl_step l hl, List.take_succ_cons, List.flatten_cons]
      generalize hF : ((cl (l.drop (count l))).take b).flatten = F at *
      have hpre : l.take (count l) ++ F = l.take (count l + F.length) := by
        rw [List.take_add]
        congr 1
        rw [← hp, List.take_left]
      have hne : l.take (count l) ++ F ≠ [] := by
        intro e
        have := congrArg List.length e
        rw [List.length_append, List.length_take, List.length_nil] at this
        omega
      have hcnt : count (l.take (count l) ++ F) = count l := by
        rw [hpre]; exact count_take hl (by omega)
      have htl : (l.take (count l)).length = count l := by rw [List.length_take]; omega
      rw [cl_step _ hne, hcnt]
      have e1 : (l.take (count l) ++ F).take (count l) = l.take (count l) := by
        have := List.take_left (l₁ := l.take (count l)) (l₂ := F)
        rw [htl] at this
        exact this
      have e2 : (l.take (count l) ++ F).drop (count l) = F := by
        have := List.drop_left (l₁ := l.take (count l)) (l₂ := F)
        rw [htl] at this
        exact this
      rw [e1, e2, hw]

theorem cl_between (l : List Int) (a m : Nat) : cl ((((cl l).drop a).take m).flatten) = ((cl l).drop a).take m := by
  have h := cl_take m (((cl l).drop a).flatten)
  rw [cl_drop] at h
  exact h

theorem cl_one {l p : List Int} (h : p ∈ cl l) : cl p = [p] := by
  obtain ⟨i, hi, rfl⟩ := List.getElem_of_mem h
  have := cl_between l i 1
  have e : ((cl l).drop i).take 1 = [(cl l)[i]] := by rw [List.drop_eq_getElem_cons hi]; rfl
  rw [e, List.flatten_cons, List.flatten_nil, List.append_nil] at this
  exact this

theorem wide_of_piece {l : List Int} (h : l ≠ []) : wide (l.take (count l)) = wide l := wide_take h (Nat.le_refl _)

/-- an end of a count: the cluster is all there is, sixteen, or the next one is not taken -/
theorem grow_step {b : Nat} {l : List Int} {n : Nat} (h : n < l.length) (h16 : n < 16) (ht : takes b (l.getD (n - 1) 0) (l.getD n 0) = true) : growFrom b l n = growFrom b l (n + 1) := by
  unfold growFrom
  rw [show 16 - n = (16 - (n + 1)) + 1 by omega]
  simp only [grow]
  rw [if_pos ⟨h, ht⟩]
theorem grow_stop {b : Nat} {l : List Int} {n : Nat} (ht : takes b (l.getD (n - 1) 0) (l.getD n 0) = false) : growFrom b l n = n := by
  unfold growFrom
  cases 16 - n with
  | zero => rfl
  | succ f =>
    simp only [grow]
    rw [if_neg (by rw [ht]; simp)]
theorem grow_end {b : Nat} {l : List Int} {n : Nat} (h : ¬ (n < l.length ∧ n < 16)) : growFrom b l n = n := by
  unfold growFrom
  rcases Nat.lt_or_ge n 16 with h1 | h1
  · cases 16 - n with
    | zero => rfl
    | succ f =>
      simp only [grow]
      rw [if_neg (by intro h2; exact h ⟨h2.1, h1⟩)]
  · rw [show 16 - n = 0 by omega]; rfl

/-- a letter is taken by none -/
theorem letter_kind : kind 120 = 9 ∧ kind 97 = 9 ∧ kind 98 = 9 := by decide
theorem grow_snoc (b : Nat) (l : List Int) (x : Int) (hx : kind x = 9) : ∀ f n, 1 ≤ n → grow b (l ++ [x]) f n = if n ≤ l.length then grow b l f n else n
  | 0, n, _ => by simp [grow]
  | f + 1, n, hn => by
    have hno : ∀ a, takes b a x = false := by intro a; unfold takes; rw [hx]; rfl
    simp only [grow]
    rcases Nat.lt_trichotomy n l.length with h | h | h
    · rw [if_pos (Nat.le_of_lt h)]
      have e1 : (l ++ [x]).getD n 0 = l.getD n 0 := by simp only [List.getD_eq_getElem?_getD]; rw [List.getElem?_append_left h]
      have e2 : (l ++ [x]).getD (n - 1) 0 = l.getD (n - 1) 0 := by simp only [List.getD_eq_getElem?_getD]; rw [List.getElem?_append_left (by omega)]
      rw [e1, e2]
      by_cases ht : takes b (l.getD (n - 1) 0) (l.getD n 0) = true
      · rw [if_pos ⟨by rw [List.length_append]; omega, ht⟩, if_pos ⟨h, ht⟩, grow_snoc b l x hx f (n + 1) (by omega), if_pos (by omega)]
      · rw [if_neg (fun h => ht h.2), if_neg (fun h => ht h.2)]
    · have e1 : (l ++ [x]).getD n 0 = x := by simp [List.getD_eq_getElem?_getD, h]
      rw [if_neg (by rw [e1, hno]; simp), if_pos (show n ≤ l.length by omega), if_neg (show ¬ (n < l.length ∧ _) by omega)]
    · rw [if_neg (show ¬ (n < (l ++ [x]).length ∧ _) by rw [List.length_append, List.length_singleton]; omega), if_neg (show ¬ n ≤ l.length by omega)]

theorem count_snoc (l : List Int) (h : l ≠ []) (x : Int) (hx : kind x = 9) : count (l ++ [x]) = count l ∧ pair (l ++ [x]) = pair l := by
  have h1 : 1 ≤ l.length := List.length_pos_iff.2 h
  have e0 : (l ++ [x]).getD 0 0 = l.getD 0 0 := by simp only [List.getD_eq_getElem?_getD]; rw [List.getElem?_append_left h1]
  have hp : pair (l ++ [x]) = pair l := by
    unfold pair
    rw [e0]
    rcases Nat.lt_or_ge 1 l.length with h2 | h2
    · have e1 : (l ++ [x]).getD 1 0 = l.getD 1 0 := by simp only [List.getD_eq_getElem?_getD]; rw [List.getElem?_append_left h2]
      rw [e1, decide_eq_true h2, decide_eq_true (show 1 < (l ++ [x]).length by simp; omega)]
    · have e1 : (l ++ [x]).getD 1 0 = x := by
        have : l.length = 1 := by omega
        simp [List.getD_eq_getElem?_getD, this]
      rw [e1, hx, decide_eq_false (show ¬ 1 < l.length by omega)]
      simp
  refine ⟨?_, hp⟩
  have hst : start (l ++ [x]) = start l := by unfold start; rw [hp]
  have hsb := start_bounds l h
  unfold count
  rw [e0, hst]
  split
  · rfl
  · unfold growFrom
    rw [grow_snoc _ _ _ hx _ _ hsb.1, if_pos hsb.2.2]

theorem cl_single (x : Int) : cl [x] = [[x]] := by
  have hb := count_bounds [x] (by simp)
  simp only [List.length_cons, List.length_nil] at hb
  have : count [x] = 1 := by omega
  rw [cl_step _ (by simp), this]
  rfl

theorem cl_snoc (x : Int) (hx : kind x = 9) : ∀ (n : Nat) (l : List Int), l.length ≤ n → cl (l ++ [x]) = cl l ++ [[x]]
  | 0, l, h => by
    have : l = [] := List.length_eq_zero_iff.1 (by omega)
    subst this
    exact cl_single x
  | n + 1, l, h => by
    by_cases hl : l = []
    · subst hl; exact cl_single x
    · have hb := count_bounds l hl
      have h1 := drop_lt hl
      rw [cl_step (l ++ [x]) (by simp), (count_snoc l hl x hx).1, cl_step l hl, List.take_append_of_le_length hb.2.2, List.drop_append_of_le_length hb.2.2, cl_snoc x hx n _ (by omega)]
      rfl

end Go.Proofs.YtdgcfmfjgidbjaaGreat.clu
end
section
namespace Go.Proofs.YtdgcfmfjgidbjaaGreat.clu
open Go.RowKit Go.Proofs
open Go.Proofs.YtdgcfmfjgidbjaaGreat.wid Go.Proofs.YtdgcfmfjgidbjaaGreat.utf
set_option linter.unusedVariables false

theorem count_one {l : List Int} (h : kind (l.getD 0 0) = 1) : count l = 1 ∧ wide l = 0 := by unfold count wide; rw [if_pos h, if_pos h]; exact ⟨rfl, rfl⟩
theorem count_more {l : List Int} (h : kind (l.getD 0 0) ≠ 1) : count l = growFrom (kind (l.getD 0 0)) l (start l) := by unfold count; rw [if_neg h]
theorem wide_more {l : List Int} (h : kind (l.getD 0 0) ≠ 1) : wide l = if vary l then 2 else if pair l then 2 else cellsAt (l.getD 0 0) := by
  unfold wide
  rw [if_neg h]
  cases pair l <;> cases vary l <;> rfl
theorem start_of (l : List Int) : start l = if pair l then 2 else 1 := rfl
theorem picture_of (b : Nat) : picture b = (decide (b = 7) || decide (b = 8)) := rfl

theorem bool_of {a : Bool} {P : Prop} [Decidable P] (h : a = true ↔ P) : a = decide P := by
  rw [Bool.eq_iff_iff, h]; simp

set_option maxHeartbeats 400000 in
theorem picture_any (k : Nat) (w : World) : Calls Tryz.prog 109 #[.int .i8 k] w fun e w' => e = .returned (.bool (picture k)) ∧ w' = w := by
  go_enter Tryz.func109, Tryz.ntmps109
  go_wp2
  all_goals
    go_ret
    refine ⟨congrArg (fun b => Ending.returned (Value.bool b)) ?_, rfl⟩
    rw [picture_of, Bool.eq_iff_iff]
    simp
    omega

/-- what is told of the next one's class -/
theorem takes_1 {b : Nat} {a n : Int} (h : kind n = 2 ∨ kind n = 3 ∨ kind n = 4) : takes b a n = true := by unfold takes; rw [if_pos h]
theorem takes_2 {b : Nat} {a n : Int} (h : kind n = 5) : takes b a n = picture b := by unfold takes; rw [if_neg (by omega), if_pos h]
theorem takes_3 {b : Nat} {a n : Int} (h : kind n = 7 ∨ kind n = 8) : takes b a n = (picture b && decide (kind a = 3)) := by unfold takes; rw [if_neg (by omega), if_neg (by omega), if_pos h]
theorem takes_4 {b : Nat} {a n : Int} (h : ¬ (kind n = 2 ∨ kind n = 3 ∨ kind n = 4) ∧ kind n ≠ 5 ∧ ¬ (kind n = 7 ∨ kind n = 8)) : takes b a n = false := by unfold takes; rw [if_neg h.1, if_neg h.2.1, if_neg h.2.2]

def Len (l : List Int) (w : World) (e : Ending) (w' : World) : Prop := e = .returned (.tuple #[.int .i64 (count l), .int .i64 (wide l)]) ∧ Below w.heap.size w w'

set_option maxRecDepth 100000 in
set_option maxHeartbeats 4000000 in
theorem length_any (v : Value) (l : List Int) (w : World) (hl : l ≠ []) (hlen : l.length ≤ 35184372088832) (hv : run.Reads w v (rv l)) : Calls Tryz.prog 98 #[v] w (Len l w) := by
  obtain ⟨b, off, cap, rfl, hb, hc⟩ := reads_get hv (by intro e; exact hl (List.map_eq_nil_iff.1 e))
  rw [rv_length]
  have HC : Hid (∀ i, i < l.length → w.cell? ⟨b, off + i, none⟩ = some (.int .i32 (l.getD i 0))) := run.hid (fun i hi => hc i _ (rv_get hi))
  have h0 : 0 < l.length := List.length_pos_iff.2 hl
  have hc0 : w.cell? ⟨b, off, none⟩ = some (.int .i32 (l.getD 0 0)) := HC.out 0 h0
  clear hc hv
  have HF1 : Hid (kind (l.getD 0 0) = 1 → count l = 1 ∧ wide l = 0) := run.hid count_one
  have HF2 : Hid (kind (l.getD 0 0) ≠ 1 → count l = growFrom (kind (l.getD 0 0)) l (start l)) := run.hid count_more
  have HF3 : Hid (kind (l.getD 0 0) ≠ 1 → wide l = if vary l then 2 else if pair l then 2 else cellsAt (l.getD 0 0)) := run.hid wide_more
  have HP : Hid (pair l = true ↔ kind (l.getD 0 0) = 6 ∧ 1 < l.length ∧ kind (l.getD 1 0) = 6) := run.hid pair_iff
  have HV : Hid (vary l = true ↔ kind (l.getD 0 0) = 8 ∧ 1 < l.length ∧ l.getD 1 0 = 0xfe0f) := run.hid vary_iff
  have hkl := kind_le (l.getD 0 0)
  generalize l.getD 0 0 = r0 at *
  have HN : Hid (∀ b n, n < l.length → n < 16 → takes b (l.getD (n - 1) 0) (l.getD n 0) = true → growFrom b l n = growFrom b l (n + 1)) := run.hid (fun b n => grow_step)
  have HM : Hid (∀ b n, ¬ (n < l.length ∧ n < 16) → growFrom b l n = n) := run.hid (fun b n => grow_end)
  have HS : Hid (∀ b n, takes b (l.getD (n - 1) 0) (l.getD n 0) = false → growFrom b l n = n) := run.hid (fun b n => grow_stop)
  obtain ⟨hs1, hs2, hs3⟩ := start_bounds l hl
  clear hl
  generalize l.length = N at *
  go_enter Tryz.func98, Tryz.ntmps98
  go_wp2
  go_step3
  go_wp2_with fail
  refine (kind_any r0 w).mono ?_
  generalize kind r0 = k0 at *
  rintro e w1 ⟨rfl, hb1⟩
  by_cases h1 : k0 = 1
  · subst h1
    obtain ⟨e1, e2⟩ := HF1.out rfl
    have E := run.hid (And.intro e1 e2)
    clear e1 e2
    go_wp2
    try rw [Exit.noGoto_ret]
    go_ret2
    unfold Len
    rw [E.out.1, E.out.2]
    exact ⟨rfl, hb1⟩
  · have E2 := run.hid (HF2.out h1)
    have E3 := run.hid (HF3.out h1)
    have hc1 := (hb1.cell (p := ⟨b, off, none⟩) hb).trans hc0
    clear HF1 HF2 HF3 hc0
    go_wp2_with fail
    refine (of_any r0 w1).mono ?_
    generalize cellsAt r0 = c0 at *
    rintro e w2 ⟨rfl, hb2⟩
    have hB := hb1.trans (hb2.mono hb1.size)
    clear hb1 hb2 hc1
    go_upto_region 5 with fail
    go_cut [30] (fun c wx => c = .bool (pair l) ∧ Below w.heap.size w wx)
    case first =>
      by_cases h6 : k0 = 6
      · subst h6
        by_cases h2 : 1 < N
        · have hc1 := (hB.cell (p := ⟨b, off + 1, none⟩) hb).trans (HC.out 1 h2)
          generalize l.getD 1 0 = r1 at *
          go_wp2_with fail
          refine (kind_any r1 _).mono ?_
          generalize kind r1 = k1 at *
          rintro e w3 ⟨rfl, hb3⟩
          have hB3 := hB.trans (hb3.mono hB.size)
          have HE : Hid (pair l = decide (k1 = 6)) := run.hid (by rw [Bool.eq_iff_iff, HP.out]; simp [h2])
          by_cases h3 : k1 = 6
          · subst h3
            go_wp2
            go_meet
            exact ⟨by rw [HE.out]; rfl, hB3⟩
          · go_wp2
            go_meet
            exact ⟨by rw [HE.out, decide_eq_false h3]; exact congrArg Value.bool (by simp; omega), hB3⟩
        · have HE : Hid (pair l = false) := run.hid (by rw [← Bool.not_eq_true, HP.out]; exact fun h => h2 h.2.1)
          go_wp2
          go_meet
          exact ⟨by rw [HE.out], hB⟩
      · have HE : Hid (pair l = false) := run.hid (by rw [← Bool.not_eq_true, HP.out]; exact fun h => h6 h.1)
        go_wp2
        go_meet
        exact ⟨by rw [HE.out], hB⟩
    case rest =>
      obtain ⟨rfl, hBc⟩ := hcut
      clear hB HP
      have HST := run.hid (start_of l)
      generalize pair l = pr at *
      go_upto_if 30 with fail
      go_cut [5, 6] (fun n c wx => n = .int .i64 (start l) ∧ c = .int .i64 (if pr then 2 else c0 : Nat) ∧ Below w.heap.size w wx)
      case first =>
        cases pr with
        | true =>
          go_wp2
          go_meet
          exact ⟨by rw [HST.out]; rfl, rfl, hBc⟩
        | false =>
          go_wp2
          go_meet
          exact ⟨by rw [HST.out]; rfl, rfl, hBc⟩
      case rest =>
        obtain ⟨rfl, rfl, hBd⟩ := hcut
        clear hBc HST
        generalize start l = n0 at *
        generalize (if pr = true then 2 else c0) = c1 at *
        go_upto_region 7 with fail
        go_cut [43] (fun c wx => c = .bool (vary l) ∧ Below w.heap.size w wx)
        case first =>
          by_cases h8 : k0 = 8
          · subst h8
            by_cases h2 : 1 < N
            · have hc1 := (hBd.cell (p := ⟨b, off + 1, none⟩) hb).trans (HC.out 1 h2)
              generalize l.getD 1 0 = r1 at *
              have HE : Hid (vary l = decide (r1 = 0xfe0f)) := run.hid (by rw [Bool.eq_iff_iff, HV.out]; simp [h2])
              by_cases h3 : r1 = 0xfe0f
              · subst h3
                go_wp2
                go_meet
                exact ⟨by rw [HE.out]; rfl, hBd⟩
              · go_wp2
                go_meet
                exact ⟨by rw [HE.out, decide_eq_false h3]; exact congrArg Value.bool (by simp; omega), hBd⟩
            · have HE : Hid (vary l = false) := run.hid (by rw [← Bool.not_eq_true, HV.out]; exact fun h => h2 h.2.1)
              go_wp2
              go_meet
              exact ⟨by rw [HE.out], hBd⟩
          · have HE : Hid (vary l = false) := run.hid (by rw [← Bool.not_eq_true, HV.out]; exact fun h => h8 h.1)
            go_wp2
            go_meet
            exact ⟨by rw [HE.out], hBd⟩
        case rest =>
          obtain ⟨rfl, hBe⟩ := hcut
          clear hBd HV
          generalize vary l = va at *
          go_upto_if 43 with fail
          go_cut [6] (fun c wx => c = .int .i64 (wide l) ∧ Below w.heap.size w wx)
          case first =>
            cases va with
            | true =>
              go_wp2
              go_meet
              exact ⟨by rw [E3.out]; rfl, hBe⟩
            | false =>
              go_wp2
              go_meet
              exact ⟨by rw [E3.out]; rfl, hBe⟩
          case rest =>
            obtain ⟨rfl, hBf⟩ := hcut
            clear hBe E3
            go_wp2
            go_step3
            go_wp2
            have HW := run.hid (show ((wide l : Nat) : Int) = ((wide l : Nat) : Int) from rfl)
            generalize hwl : wide l = wl at *
            have HWL := run.hid hwl
            clear hwl HW
            go_loopw [5] (fun vn wr => ∃ m : Nat, m + 1 ≤ N ∧ m + 1 ≤ 16 ∧ vn = .int .i64 (m + 1 : Nat) ∧ Below w.heap.size w wr ∧ Hid (count l = growFrom k0 l (m + 1))) (fun vn _ => (16 - intOf vn).toNat)
            case atStart =>
              obtain ⟨m, rfl⟩ : ∃ m, n0 = m + 1 := ⟨n0 - 1, by omega⟩
              exact ⟨m, by omega, by omega, rfl, hBf, E2⟩
            case round =>
              clear E2 hBf hs1 hs2 hs3
              obtain ⟨m, hnN, hn16, rfl, hbel, HG⟩ := hrel
              by_cases hlt : m + 1 < N
              · by_cases h16 : m + 1 < 16
                · have HX : Hid (takes k0 (l.getD m 0) (l.getD (m + 1) 0) = true → count l = growFrom k0 l (m + 1 + 1)) := run.hid (fun h => HG.out.trans (HN.out k0 (m + 1) hlt h16 h))
                  have HY : Hid (takes k0 (l.getD m 0) (l.getD (m + 1) 0) = false → count l = m + 1) := run.hid (fun h => HG.out.trans (HS.out k0 (m + 1) h))
                  have hcn := (hbel.cell (p := ⟨b, off + (m + 1), none⟩) hb).trans (HC.out (m + 1) hlt)
                  clear HG
                  generalize l.getD (m + 1) 0 = rn at *
                  have hcp := HC.out m (by omega)
                  generalize l.getD m 0 = rp at *
                  have HCP := run.hid hcp
                  clear hcp
                  have T1 : Hid (kind rn = 2 ∨ kind rn = 3 ∨ kind rn = 4 → takes k0 rp rn = true) := run.hid takes_1
                  have T2 : Hid (kind rn = 5 → takes k0 rp rn = picture k0) := run.hid takes_2
                  have T3 : Hid (kind rn = 7 ∨ kind rn = 8 → takes k0 rp rn = (picture k0 && decide (kind rp = 3))) := run.hid takes_3
                  have T4 : Hid (¬ (kind rn = 2 ∨ kind rn = 3 ∨ kind rn = 4) ∧ kind rn ≠ 5 ∧ ¬ (kind rn = 7 ∨ kind rn = 8) → takes k0 rp rn = false) := run.hid takes_4
                  go_wp2_with fail
                  refine (kind_any rn wr).mono ?_
                  rintro e w3 ⟨rfl, hb3⟩
                  generalize kind rn = kn at *
                  have hB3 := hbel.trans (hb3.mono hbel.size)
                  clear hcn
                  by_cases c1 : kn = 2 ∨ kn = 3 ∨ kn = 4
                  · have HG := run.hid (HX.out (T1.out c1))
                    clear T1 T2 T3 T4 HX HY
                    rcases c1 with rfl | rfl | rfl
                    all_goals
                      go_wp2
                      go_roundw
                      case rel => exact ⟨m + 1, by omega, by omega, by go_num, hB3, HG⟩
                      case measure => simp [intOf]; omega
                  by_cases c2 : kn = 5
                  · have HT := run.hid (T2.out c2)
                    clear T1 T2 T3 T4 c1
                    subst c2
                    go_wp2_with fail
                    refine (picture_any k0 w3).mono ?_
                    generalize picture k0 = pk at *
                    rintro e w4 ⟨rfl, rfl⟩
                    cases pk with
                    | true =>
                      have HG := run.hid (HX.out HT.out)
                      clear HX HY HT
                      go_wp2
                      go_roundw
                      case rel => exact ⟨m + 1, by omega, by omega, by go_num, hB3, HG⟩
                      case measure => simp [intOf]; omega
                    | false =>
                      have HG := run.hid (HY.out HT.out)
                      clear HX HY HT
                      go_wp2
                      try rw [Exit.noGoto_ret]
                      go_ret2
                      unfold Len
                      rw [HG.out, HWL.out]
                      exact ⟨rfl, hB3⟩
                  by_cases c3 : kn = 7 ∨ kn = 8
                  · have HT := run.hid (T3.out c3)
                    have hcp := (hB3.cell (p := ⟨b, off + m, none⟩) hb).trans HCP.out
                    clear T1 T2 T3 T4 c1 c2 HCP
                    rcases c3 with rfl | rfl
                    all_goals
                      go_wp2_with fail
                      refine (picture_any k0 w3).mono ?_
                      generalize picture k0 = pk at *
                      rintro e w4 ⟨rfl, rfl⟩
                      cases pk with
                      | false =>
                        have HG := run.hid (HY.out (HT.out.trans (Bool.false_and _)))
                        clear HX HY HT
                        go_wp2
                        try rw [Exit.noGoto_ret]
                        go_ret2
                        unfold Len
                        rw [HG.out, HWL.out]
                        exact ⟨rfl, hB3⟩
                      | true =>
                        go_wp2_with fail
                        refine (kind_any rp _).mono ?_
                        generalize kind rp = kp at *
                        rintro e w5 ⟨rfl, hb5⟩
                        have hB5 := hB3.trans (hb5.mono hB3.size)
                        clear hcp
                        by_cases h3 : kp = 3
                        · subst h3
                          have HG := run.hid (HX.out (HT.out.trans rfl))
                          clear HX HY HT
                          go_wp2
                          go_roundw
                          case rel => exact ⟨m + 1, by omega, by omega, by go_num, hB5, HG⟩
                          case measure => simp [intOf]; omega
                        · have HG := run.hid (HY.out (HT.out.trans (by rw [decide_eq_false h3]; rfl)))
                          clear HX HY HT
                          go_wp2
                          try rw [Exit.noGoto_ret]
                          go_ret2
                          unfold Len
                          rw [HG.out, HWL.out]
                          exact ⟨rfl, hB5⟩
                  · have HG := run.hid (HY.out (T4.out ⟨c1, c2, c3⟩))
                    obtain ⟨e2, e3, e4, e7, e8⟩ : kn ≠ 2 ∧ kn ≠ 3 ∧ kn ≠ 4 ∧ kn ≠ 7 ∧ kn ≠ 8 := by omega
                    clear T1 T2 T3 T4 HX HY c1 c3
                    go_wp2
                    try rw [Exit.noGoto_ret]
                    go_ret2
                    unfold Len
                    rw [HG.out, HWL.out]
                    exact ⟨rfl, hB3⟩
                · have HE := run.hid (HG.out.trans (HM.out k0 (m + 1) (by omega)))
                  clear HG
                  go_wp2
                  try rw [Exit.noGoto_ret]
                  go_ret2
                  unfold Len
                  rw [HE.out, HWL.out]
                  exact ⟨rfl, hbel⟩
              · have HE := run.hid (HG.out.trans (HM.out k0 (m + 1) (by omega)))
                clear HG
                go_wp2
                try rw [Exit.noGoto_ret]
                go_ret2
                unfold Len
                rw [HE.out, HWL.out]
                exact ⟨rfl, hbel⟩

end Go.Proofs.YtdgcfmfjgidbjaaGreat.clu
end
section
namespace Go.Proofs.YtdgcfmfjgidbjaaGreat.clu
open Go.RowKit Go.Proofs Go.Shelf
open Go.Proofs.YtdgcfmfjgidbjaaGreat.wid Go.Proofs.YtdgcfmfjgidbjaaGreat.utf
set_option linter.unusedVariables false
attribute [local go_sem] Oper.semAt_some

/-- a cluster as a value: its text, its width -/
def cv (p : List Int) : Value := .agg #[.string (str (text p)), .int .i64 (wide p)]
/-- clusters with the places where they begin -/
def placed : Nat → List (List Int) → List (Nat × List Int)
  | _, [] => []
  | a, p :: t => (a, p) :: placed (a + (text p).length) t
def encs (x : Nat × List Int) : Array Value := #[.int .i64 (x.1 : Nat), cv x.2]

/-- characters to be read in block b alone, with room for a cut -/
def RowIn (b : Nat) (w : World) (v : Value) (l : List Int) : Prop :=
  ∃ a cap, v = .slice a l.length cap ∧ l.length ≤ cap ∧ (l ≠ [] → ∃ off, a = some ⟨b, off, none⟩ ∧ b < w.heap.size ∧ ∀ i, i < l.length → w.cell? ⟨b, off + i, none⟩ = some (.int .i32 (l.getD i 0)))

/-- what a round keeps: block b -/
def KeepsB (b : Nat) (W W' : World) : Prop := W.heap.size ≤ W'.heap.size ∧ W'.heap[b]? = W.heap[b]?
theorem KeepsB.trans {b : Nat} {A B C : World} (h : KeepsB b A B) (k : KeepsB b B C) : KeepsB b A C := ⟨Nat.le_trans h.1 k.1, k.2.trans h.2⟩
theorem KeepsB.refl {b : Nat} (W : World) : KeepsB b W W := ⟨Nat.le_refl _, rfl⟩
theorem KeepsB.below {b : Nat} {W W' : World} (h : Below W.heap.size W W') (hb : b < W.heap.size) : KeepsB b W W' := ⟨h.size, h.block b hb⟩
theorem keepsB_b {b : Nat} {w : World} (hb : b < w.heap.size) (W : World) (l : Nat) (o o' : Obj) (hl : w.heap.size ≤ l) (_ : W.heap[l]? = some o) (_ : o.isCells = false) (_ : o.isWalk = false) : KeepsB b W (W.putObj l o') :=
  ⟨by simp, World.putObj_heap_other (by omega)⟩
theorem KeepsB.cell {b i : Nat} {W W' : World} (h : KeepsB b W W') : W'.cell? ⟨b, i, none⟩ = W.cell? ⟨b, i, none⟩ := by simp only [World.cell?, h.2]
theorem RowIn.keeps {b : Nat} {W W' : World} {v : Value} {l : List Int} (h : RowIn b W v l) (hk : KeepsB b W W') : RowIn b W' v l := by
  obtain ⟨a, cap, rfl, hc, h⟩ := h
  refine ⟨a, cap, rfl, hc, fun hl => ?_⟩
  obtain ⟨off, ha, hb, hcell⟩ := h hl
  exact ⟨off, ha, Nat.lt_of_lt_of_le hb hk.1, fun i hi => hk.cell.trans (hcell i hi)⟩
theorem RowIn.reads {b off : Nat} {W : World} {l m : List Int} {n c : Nat} (hb : b < W.heap.size) (hcell : ∀ i, i < l.length → W.cell? ⟨b, off + i, none⟩ = some (.int .i32 (l.getD i 0))) (hm : m.length = n)
    (hp : ∀ i, i < n → i < l.length ∧ m.getD i 0 = l.getD i 0) : run.Reads W (.slice (some ⟨b, off, none⟩) n c) (rv m) := by
  refine ⟨_, c, by rw [rv_length, hm], fun _ => ⟨b, off, rfl, hb, ?_⟩, fun h => by cases h⟩
  intro i u hi
  have hi2 : i < m.length := by
    rcases Nat.lt_or_ge i m.length with h | h
    · exact h
    · rw [List.getElem?_eq_none (by rw [rv_length]; exact h)] at hi; cases hi
  obtain ⟨h1, h2⟩ := hp i (by omega)
  rw [rv_get hi2, h2] at hi
  rw [hcell i h1]; exact hi

theorem rowIn_drop {b off cap N k : Nat} {W W' : World} {R : List Int} (hb : b < W.heap.size) (hcell : ∀ i, i < N → W.cell? ⟨b, off + i, none⟩ = some (.int .i32 (R.getD i 0))) (hk : KeepsB b W W') (hN : R.length = N) (hkN : k ≤ N) (hcap : N ≤ cap) :
    RowIn b W' (.slice (if cap = k then some ⟨b, off, none⟩ else some ⟨b, off + k, none⟩) (N - k) (cap - k)) (R.drop k) := by
  refine ⟨_, _, by rw [List.length_drop, hN], by rw [List.length_drop, hN]; omega, fun hne => ?_⟩
  have h := List.length_pos_iff.2 hne
  rw [List.length_drop, hN] at h
  refine ⟨off + k, by rw [if_neg (by omega)], Nat.lt_of_lt_of_le hb hk.1, fun i hi => ?_⟩
  rw [List.length_drop, hN] at hi
  rw [Nat.add_assoc, hk.cell, hcell (k + i) (by omega)]
  simp [List.getD_eq_getElem?_getD, List.getElem?_drop]

theorem abides_below {β : Type} {B : Nat} {J : β → World → Prop} (hJ : AbidesFrom B J) {s : β} {W W' : World} (h : J s W) (hb : Below W.heap.size W W') : J s W' :=
  hJ s W W' none h ⟨hb.os, hb.tape, hb.output, hb.size, fun k hk _ => hb.block k hk⟩ (fun r e => by cases e)

def lenOf : Value → Nat
  | .slice _ k _ => k
  | _ => 0

theorem text_piece (l : List Int) : (text (l.take (count l))).length ≤ (text l).length := by
  have := text_append (l.take (count l)) (l.drop (count l))
  rw [List.take_append_drop] at this
  rw [this, List.length_append]; omega
theorem text_split (l : List Int) (k : Nat) : (text (l.take k)).length + (text (l.drop k)).length = (text l).length := by
  have := text_append (l.take k) (l.drop k)
  rw [List.take_append_drop] at this
  rw [this, List.length_append]

set_option maxRecDepth 100000 in
set_option maxHeartbeats 4000000 in
theorem each_in (n : Nat) (hn : 1 ≤ n) (l B b : Nat) (L : List Int) (v : Value) (hL : L.length ≤ 1099511627776) (J Jx : List (Nat × List Int) → World → Prop) (W : World) (hJ : AbidesFrom W.heap.size J) (hBn : W.cell? ⟨B, 0, none⟩ = some v) (hR : RowIn b W v L) (hbW : b < W.heap.size)
    (hY : ∀ pre x W1, J pre W1 → pre ++ [x] <+: placed 0 (cl L) → YieldAt Fence.wide (n - 1) Tryz.prog l (encs x) W1 fun e W' =>
      (e = .returned (.bool true) ∧ J (pre ++ [x]) W' ∧ KeepsB b W1 W') ∨ (e = .returned (.bool false) ∧ Jx (pre ++ [x]) W')) (h0 : J [] W) :
    CallsIn Fence.wide n Tryz.prog 97 #[.func (.yield l) #[] #[], .pointer (some ⟨B, 0, none⟩)] W fun e W' => (∃ v, e = .returned v) ∧
      ((∃ ys, ys = placed 0 (cl L) ∧ J ys W') ∨ (∃ pre, pre <+: placed 0 (cl L) ∧ Jx pre W')) := by
  refine callsIn_of_wp Tryz.func97 rfl trivial ?_ rfl
  simp only [Tryz.ntmps97, List.size_toArray, List.length_cons, List.length_nil, Nat.reduceAdd, Nat.reduceSub, Array.replicate_succ, Array.replicate_zero, List.push_toArray, List.append_toArray, List.nil_append, List.cons_append]
  gi_wp2
  gi_loopw [3, 4] (fun vp vl wr => ∃ (R : List Int) (pre : List (Nat × List Int)) (at_ : Nat), vp = .int .i64 at_ ∧ RowIn b wr vl R ∧ b < wr.heap.size ∧ R.length ≤ 1099511627776 ∧ at_ + (text R).length ≤ 4398046511104 ∧ Hid (pre ++ placed at_ (cl R) = placed 0 (cl L)) ∧ J pre wr)
    (fun _ vl _ => lenOf vl)
  case atStart =>
    have := (text_length L).2
    exact ⟨L, [], 0, rfl, hR, hbW, hL, by omega, run.hid rfl, h0⟩
  case round =>
    obtain ⟨R, pre, at_, rfl, hrow, hbr, hRl, hat, HP, hJs⟩ := hrel
    by_cases hne : R = []
    · subst hne
      obtain ⟨a, cap, rfl, hcap, -⟩ := hrow
      rw [List.length_nil]
      gi_wp2
      go_end0
      exact ⟨⟨_, rfl⟩, .inl ⟨pre, by have := HP.out; rw [cl_nil] at this; simpa [placed] using this, hJs⟩⟩
    · have hpos := List.length_pos_iff.2 hne
      obtain ⟨hk1, hk2, hk3⟩ := count_bounds R hne
      have HST := run.hid (cl_step R hne)
      have HWD := run.hid (wide_of_piece hne)
      have hts := text_split R (count R)
      obtain ⟨a, cap, rfl, hcap, hrest⟩ := hrow
      obtain ⟨off, rfl, hb, hcell⟩ := hrest hne
      have HC := run.hid hcell
      clear hcell hrest
      have HLEN := run.hid (length_any _ R wr hne (by omega) (RowIn.reads (n := R.length) (c := cap) hb HC.out rfl (fun i hi => ⟨hi, rfl⟩)))
      have HTAKE := run.hid (fun (W1 : World) (hb1 : Below wr.heap.size wr W1) => text_any (.slice (some ⟨b, off, none⟩) (count R) cap) (R.take (count R)) W1
        ((RowIn.reads (n := count R) (c := cap) hb HC.out (by rw [List.length_take]; omega) (fun i hi => ⟨by omega, getD_take R _ i hi⟩)).below hb1) (by rw [List.length_take]; omega))
      unfold Len at HLEN
      generalize hNR : R.length = N at *
      have HNR := run.hid hNR
      clear hNR
      generalize hk : count R = k at *
      gi_wp2_with (refine ⟨trivial, ?_⟩; gi_at_call 98; refine (callsIn_wide.2 HLEN.out).mono ?_; rintro e w1 ⟨rfl, hb1⟩)
      have hJ1 := abides_below hJ hJs hb1
      have HT1 := run.hid (HTAKE.out w1 hb1)
      clear HTAKE HLEN hJs
      gi_wp2_with (refine ⟨trivial, ?_⟩; gi_at_call 59; refine (callsIn_wide.2 HT1.out).mono ?_; rintro e w2 ⟨rfl, hb2⟩)
      clear HT1
      have hB2 := hb1.trans (hb2.mono hb1.size)
      have hJ2 := abides_below hJ hJ1 hb2
      have HP2 : Hid (pre ++ [(at_, R.take k)] ++ placed (at_ + (text (R.take k)).length) (cl (R.drop k)) = placed 0 (cl L)) := run.hid (by rw [← HP.out, HST.out]; simp [placed])
      have HPX : Hid (pre ++ [(at_, R.take k)] <+: placed 0 (cl L)) := run.hid ⟨_, HP2.out⟩
      obtain ⟨fn, tmps, assign, body, hy, hR⟩ := hY pre (at_, R.take k) w2 hJ2 HPX.out
      dsimp only [encs, cv] at hy
      rw [HWD.out] at hy
      have hsz := str_size (text (R.take k))
      clear hY hJ1 hJ2 HST HP hb1 hb2
      generalize str (text (R.take k)) = st at *
      generalize (text (R.take k)).length = m at *
      generalize wide R = wd at *
      rw [hy]
      gi_wp2
      refine hR.mono ?_
      clear hR
      rintro e w3 (⟨rfl, hJ3, hk3'⟩ | ⟨rfl, hJx3⟩)
      · have hKB : KeepsB b wr w3 := (KeepsB.below hB2 hb).trans hk3'
        gi_wp2
        refine ⟨⟨R.drop k, _, at_ + m, by go_num, rowIn_drop hb HC.out hKB HNR.out hk3 hcap, Nat.lt_of_lt_of_le hb hKB.1, by rw [List.length_drop, HNR.out]; omega, by omega, HP2, hJ3⟩, ?_⟩
        show N - k < N
        omega
      · gi_wp2
        refine bodyPost_ret (results_none rfl _ _ _) rfl ?_
        exact ⟨⟨_, rfl⟩, .inr ⟨_, HPX.out, hJx3⟩⟩

end Go.Proofs.YtdgcfmfjgidbjaaGreat.clu
end
section
namespace Go.Proofs.YtdgcfmfjgidbjaaGreat.clu
open Go.RowKit Go.Proofs Go.Shelf
open Go.Proofs.YtdgcfmfjgidbjaaGreat.wid Go.Proofs.YtdgcfmfjgidbjaaGreat.utf
set_option linter.unusedVariables false
attribute [local go_sem] Oper.semAt_some

theorem all_stops (n : Nat) (hn : 1 ≤ n) (B b : Nat) (L : List Int) (v : Value) (w : World) (hBw : B < w.heap.size) (hbw : b < w.heap.size) (hc : w.cell? ⟨B, 0, none⟩ = some v) (hR : RowIn b w v L) (hL : L.length ≤ 1099511627776) :
    SeqStopsK Fence.wide n Tryz.prog 97 #[.pointer (some ⟨B, 0, none⟩)] encs (KeepsB b) (fun ys => ys = placed 0 (cl L)) (fun pre => pre <+: placed 0 (cl L)) (placed 0 (cl L)).length w :=
  fun l J Jx W hW hJ _ hY h0 => each_in n hn l B b L v hL J Jx W hJ ((hW.cell (p := ⟨B, 0, none⟩) hBw).trans hc) (hR.keeps (KeepsB.below hW hbw)) (Nat.lt_of_lt_of_le hbw hW.size) (fun pre x W1 h hp => hY pre x W1 h (by have := hp.length_le; rw [List.length_append, List.length_singleton] at this; omega)) h0

/-- what All hands back -/
def Each (s : ByteArray) (w : World) (e : Ending) (w' : World) : Prop :=
  ∃ B b v, e = .returned (.func (.func 97) #[] #[.pointer (some ⟨B, 0, none⟩)]) ∧ w'.cell? ⟨B, 0, none⟩ = some v ∧ w.heap.size ≤ B ∧ B < w'.heap.size ∧ w.heap.size ≤ b ∧ b < w'.heap.size ∧ RowIn b w' v (runes (bs s)) ∧ Below w.heap.size w w'

theorem rowIn_own {w : World} {base : Nat} {v : Value} {l : List Int} (h : w.ownsRow base 21 1 v l.length (rv l)) (w' : World) (hb : Below w.heap.size w w') (hlt : w.heap.size < w'.heap.size) (hbase : base ≤ w.heap.size) : ∃ b, base ≤ b ∧ b < w'.heap.size ∧ RowIn b w' v l := by
  obtain ⟨hl, h⟩ := h
  rcases h with ⟨rfl, h0⟩ | ⟨g, cap, cur, rfl, hg, hh, h1, h2, h3, h4⟩
  · have : l = [] := List.length_eq_zero_iff.1 h0
    subst this
    exact ⟨w.heap.size, hbase, hlt, none, 0, rfl, Nat.le_refl _, fun h => absurd rfl h⟩
  · have hgl : g < w.heap.size := by
      rcases Nat.lt_or_ge g w.heap.size with h5 | h5
      · exact h5
      · simp [Array.getElem?_eq_none h5] at hh
    refine ⟨g, hg, by omega, some ⟨g, 0, none⟩, cap, rfl, h1, fun hne => ⟨0, rfl, by omega, fun i hi => ?_⟩⟩
    rw [hb.cell (p := ⟨g, 0 + i, none⟩) hgl]
    have hget := rv_get hi
    rw [← h4] at hget
    simp only [World.cell?, Nat.zero_add]
    rw [hh]
    rw [List.getElem?_take_of_lt (by omega)] at hget
    simpa using hget

set_option maxHeartbeats 1000000 in
theorem all_any (s : ByteArray) (w : World) (hs : s.size ≤ 1099511627776) : Calls Tryz.prog 80 #[.string s] w (Each s w) := by
  have hl := runes_len s
  go_enter Tryz.func80, Tryz.ntmps80
  go_wp2_with fail
  refine (runes_use s w (by omega) (by omega)).mono ?_
  rintro e w1 ⟨v, rfl, hown, -, hb, -⟩
  have HO := run.hid hown
  obtain ⟨a, cap, rfl⟩ := run.own_value hown
  clear hown
  generalize hL : runes (bs s) = L at *
  have HL := run.hid hL
  clear hL
  go_wp2
  go_ret
  obtain ⟨b, hb1, hb2, hrow⟩ := rowIn_own HO.out (w1.alloc (.cells #[.slice a L.length cap] 97)) (run.below_one _ _) (by simp) hb.size
  exact ⟨w1.heap.size, b, _, rfl, run.cell_new _ _ _, hb.size, by simp, hb1, hb2, by rw [HL.out]; exact hrow, hb.alloc hb.size _⟩

/-- the cells of clusters -/
def cc (l : List (List Int)) : List Value := l.flatMap fun p => [.string (str (text p)), .int .i64 (wide p)]
def ends (l : List (Nat × List Int)) : List (List Int) := l.map (·.2)
theorem cc_snoc (l : List (Nat × List Int)) (x : Nat × List Int) : cc (ends (l ++ [x])) = cc (ends l) ++ [.string (str (text x.2)), .int .i64 (wide x.2)] := by simp [cc, ends]
theorem cc_length (l : List (List Int)) : (cc l).length = l.length * 2 := by
  induction l with
  | nil => rfl
  | cons p t ih =>
    have : cc (p :: t) = .string (str (text p)) :: .int .i64 (wide p) :: cc t := rfl
    rw [this, List.length_cons, List.length_cons, ih, List.length_cons]; omega
theorem ends_placed : ∀ (l : List (List Int)) (a : Nat), ends (placed a l) = l
  | [], _ => rfl
  | p :: t, a => by
    show p :: ends (placed _ t) = p :: t
    rw [ends_placed t]
theorem placed_length : ∀ (l : List (List Int)) (a : Nat), (placed a l).length = l.length
  | [], _ => rfl
  | p :: t, a => by simp only [placed, List.length_cons, placed_length t]

theorem info_clu : (Tryz.prog.info? 83).map (fun i => (i.zero, i.size, i.bytes)) = some (some (.agg #[.string ByteArray.empty, .int .i64 0]), 2, 24) := by kernel_rfl

def Boxed2 (W : World) (B : Nat) (t : TypeId) (x y : Value) : Prop := W.heap[B]? = some (.cells #[x, y] t (0, 0))
theorem boxed2_own {β : Type} (B : Nat) (t : TypeId) (f g : β → Value) : Own (fun s W => Boxed2 W B t (f s) (g s)) := fun s X Y row hs hg hrow =>
  (hg.block B (Array.getElem?_eq_some_iff.1 hs).1 (fun e' => by obtain ⟨o, ho, hc⟩ := hrow B e'.symm; rw [show X.heap[B]? = _ from hs] at ho; cases ho; cases hc)).trans hs

theorem news_two (w : World) (x y : Value) (t : TypeId) : ∀ j u, [x, y][j]? = some u → (w.alloc (.cells #[x, y] t)).cell? ((⟨w.heap.size, 0, none⟩ : Addr).add j) = some u := by
  intro j u hj
  rw [run.add_none]
  simp only [World.cell?, Nat.zero_add]
  rw [run.heap_new]
  match j, hj with
  | 0, hj => simpa using hj
  | 1, hj => simpa using hj
theorem one_two (s : ByteArray) (n : Int) : ∀ u ∈ [Value.string s, .int .i64 n], u.oneCell' = true := by
  intro u hu
  simp only [List.mem_cons, List.not_mem_nil, or_false] at hu
  rcases hu with rfl | rfl <;> rfl

end Go.Proofs.YtdgcfmfjgidbjaaGreat.clu
end
section
namespace Go.Proofs.YtdgcfmfjgidbjaaGreat.clu
open Go.RowKit Go.Proofs Go.Shelf
open Go.Proofs.YtdgcfmfjgidbjaaGreat.wid Go.Proofs.YtdgcfmfjgidbjaaGreat.utf
set_option linter.unusedVariables false
attribute [local go_sem] Oper.semAt_some

/-- what Split hands back: a row of its own -/
def Splits (s : ByteArray) (w : World) (e : Ending) (w' : World) : Prop :=
  ∃ v, e = .returned v ∧ w'.ownsRow w.heap.size 83 2 v (cl (runes (bs s))).length (cc (cl (runes (bs s)))) ∧ Below w.heap.size w w'

set_option maxRecDepth 100000 in
set_option maxHeartbeats 4000000 in
theorem split_any (s : ByteArray) (w : World) (hs : s.size ≤ 1099511627776) : Calls Tryz.prog 58 #[.string s] w (Splits s w) := by
  obtain ⟨i0, hi, hz0, hz1, hz2⟩ := info_parts info_clu
  have hl := runes_len s
  refine (callsIn_wide (n := 3)).1 ?_
  refine callsIn_of_wp_marks Tryz.func58 rfl trivial ?_ rfl
  simp only [Tryz.ntmps58, List.size_toArray, List.length_cons, List.length_nil, Nat.reduceAdd, Nat.reduceSub, Array.replicate_succ, Array.replicate_zero, List.push_toArray, List.append_toArray, List.nil_append, List.cons_append]
  have hbox := Boxed.new w 80 (.slice none 0 0)
  have hbel := run.below_one w (.cells #[.slice none 0 0] 80)
  gi_wp2_with (refine ⟨trivial, ?_⟩; gi_at_call 80; refine (callsIn_wide.2 (all_any s _ hs)).mono ?_; rintro e w1 ⟨B, b, v, rfl, hcv, hB1, hB2, hb1, hb2, hrow, hbel1⟩)
  have hO : Boxed w1 w.heap.size 80 (.slice none 0 0) := (hbel1.block _ (by simp)).trans hbox
  have hw1 : Below w.heap.size w w1 := hbel.trans (hbel1.mono (by simp))
  have hOb : w.heap.size < b := by rw [World.size_alloc] at hb1; omega
  have hOw : w.heap.size < w1.heap.size := by omega
  have hRL : (runes (bs s)).length ≤ 1099511627776 := by omega
  have hcl := cl_length _ (runes (bs s)) (Nat.le_refl _)
  clear hbox hbel hbel1 hb1
  generalize hL : runes (bs s) = L at *
  have HL := run.hid hL
  clear hL
  refine wpIn_rangeFunc_ownH rfl (by decide) (gf := 97) (lb := #[.pointer (some ⟨B, 0, none⟩)]) rfl trivial (enters_of Tryz.func97 (by kernel_rfl) rfl)
    (all_stops 2 (by decide) B b L v w1 hB2 hb2 hcv hrow hRL) KeepsB.trans (keepsB_b hb2) (Below.refl _ _) (fun _ => rfl)
    (fun pre W => (∃ v, Boxed W w.heap.size 80 v ∧ W.ownsRow w1.heap.size 83 2 v pre.length (cc (ends pre)) ∧ True) ∧ (Below w.heap.size w W ∧ w1.heap.size ≤ W.heap.size))
    (fun _ _ _ => False)
    (OwnFrom.and (Own.from (holdsRow_own w1.heap.size w.heap.size 80 83 2 (fun pre : List (Nat × List Int) => pre.length) (fun pre => cc (ends pre)) (fun _ _ => True)) _) (OwnFrom.and (ownFrom_below (Nat.le_refl _) (by omega)) (fun _ X Y row hs hg _ => Nat.le_trans hs hg.size)))
    (fun _ _ _ _ _ hs _ _ => hs)
    ⟨⟨_, hO, World.ownsRow_nil _ _ _ _, trivial⟩, hw1, Nat.le_refl _⟩
    (fun x a' W => ∃ Bx, Boxed2 W Bx 83 (.string (str (text x.2))) (.int .i64 (wide x.2)) ∧ a' = { tmps := #[.string s, undef, .slice none 0 0, .pointer (some ⟨w.heap.size, 0, none⟩), undef, .pointer (some ⟨Bx, 0, none⟩), .string s, .func (.func 97) #[] #[.pointer (some ⟨B, 0, none⟩)], .int .i64 (x.1 : Nat), cv x.2, undef, undef, undef, undef, undef], defers := [] })
    (fun x a' _ X Y row ⟨Bx, h2, h3⟩ hg hr => ⟨Bx, boxed2_own (β := Unit) Bx _ (fun _ => _) (fun _ => _) () X Y row h2 hg (fun r e => (hr r e).2), h3⟩) ?assign ?body ?done ?stop
  case assign =>
    rintro l pre x W K ⟨⟨v2, hv, hrw, -⟩, hB, hW⟩ hK
    dsimp only [encs, cv] at hK ⊢
    gi_wp2
    exact hK _ _ ((KeepsOthers.alloc W _).from _) ⟨by simp, run.heap_old W _ (Nat.lt_of_lt_of_le hb2 hW)⟩ ⟨⟨v2, hv.alloc _, hrw.alloc _, trivial⟩, hB.alloc hB.size _, by simp; omega⟩ ⟨W.heap.size, run.heap_new W _, rfl⟩
  case body =>
    rintro l pre x a' W hl' hr' ⟨⟨v2, hv, hrw, -⟩, hB, hW⟩ ⟨Bx, hx, rfl⟩ hlt
    rw [placed_length] at hlt
    have hc := hv.cell
    have hf := hv.frozen
    have hx0 : W.cell? ⟨Bx, 0, none⟩ = some (.string (str (text x.2))) := by simp [World.cell?, show W.heap[Bx]? = _ from hx]
    have hx1 : W.cell? ⟨Bx, 1, none⟩ = some (.int .i64 (wide x.2)) := by simp [World.cell?, show W.heap[Bx]? = _ from hx]
    have HE := run.hid (cc_snoc pre x)
    obtain ⟨at_, p⟩ := x
    dsimp only at hx0 hx1 HE
    clear hx
    generalize str (text p) = st at *
    generalize wide p = wd at *
    dsimp only [cv]
    gi_wp2_with (gi_at_builtin; refine wpListIn_append_own _ rfl _ _ 80 rfl w1.heap.size 83 i0 (.agg #[.string ByteArray.empty, .int .i64 0]) 2 24 Tryz.underlying80 hi hz0 hz1 hz2 rfl (by decide) _ _ _ rfl (hrw.alloc _) ⟨W.heap.size, 0, none⟩ 1 1 [.string st, .int .i64 wd] rfl rfl (news_two _ _ _ _) (one_two _ _) (by unfold maxLen; omega) (by omega) (by simp; omega) ?_; intro v' w4 hown' hgrow _; obtain ⟨g', cap', rfl⟩ := ownsRow_succ hown'; obtain ⟨hv1, hv2, hr2, hk2, hb2'⟩ := hv.appended (by decide) (run.own_mono hrw (Nat.le_of_lt hOw)) hB.size (Nat.le_refl _) (run.own_mono hown' (Nat.le_of_lt hOw)) hgrow; have hc1 := hv1.cell; have hf1 := hv1.frozen)
    have hg2 : (W.alloc (.cells #[.string st, .int .i64 wd] 83)).grownBy w4 v2.ownBlock := hgrow
    have hbW : b < W.heap.size := Nat.lt_of_lt_of_le hb2 hW
    have hnb : some b ≠ v2.ownBlock := fun e => by have := (hrw.lt b e.symm).1; omega
    have hs4 := hg2.size
    rw [World.size_alloc] at hs4
    have hbb : w4.heap[b]? = W.heap[b]? := (hg2.block b (by simp; omega) hnb).trans (run.heap_old W _ hbW)
    have hsb := (grownBy_setCell' w4 w.heap.size (.slice (some ⟨g', 0, none⟩) (pre.length + 1) cap')).block b (by omega) (by simp; omega)
    have hr3 := hown'.kept (grownBy_setCell' w4 w.heap.size (.slice (some ⟨g', 0, none⟩) (pre.length + 1) cap')) (.inr (hv1.not_row (by decide) hown').symm)
    exact ⟨hk2.from _, ⟨hk2.size, hsb.trans hbb⟩, ⟨⟨_, hv2, by rw [List.length_append, HE.out]; exact hr3, trivial⟩, hB.trans hb2', Nat.le_trans hW hk2.size⟩⟩
  case done =>
    rintro D ys W hD rfl ⟨⟨v2, hv, hrw, -⟩, hB, hW⟩ hK
    have hc := hv.cell
    gi_wp2
    refine ⟨by simp, .inl ⟨_, _, rfl, run_takeDeferred hK, ?_⟩⟩
    rw [ends_placed, placed_length] at hrw
    exact ⟨_, results_tmp rfl _ _ _, v2, rfl, by rw [HL.out]; exact ownsRow_putObj (run.own_mono hrw (Nat.le_of_lt hOw)) _ hK rfl, hB.trans (belowK_b (w := w) (Nat.le_refl _) W D _ _ (by omega) hK rfl rfl)⟩
  case stop =>
    rintro D c pre W _ _ h _
    exact h.elim

end Go.Proofs.YtdgcfmfjgidbjaaGreat.clu
end
section
namespace Go.Proofs.YtdgcfmfjgidbjaaGreat.clu
open Go.RowKit Go.Proofs
open Go.Proofs.YtdgcfmfjgidbjaaGreat.wid Go.Proofs.YtdgcfmfjgidbjaaGreat.utf
set_option linter.unusedVariables false

theorem cl_len_one {L : List Int} (h : (cl L).length = 1) : cl L = [L] := by
  obtain ⟨p, hp⟩ := List.length_eq_one_iff.1 h
  have := cl_flat _ L (Nat.le_refl _)
  rw [hp] at this
  simp only [List.flatten_cons, List.flatten_nil, List.append_nil] at this
  rw [hp, this]

/-- what One tells -/
def oneOk (s : ByteArray) : Prop := (cl (runes (bs s))).length = 1 ∧ str (text (runes (bs s))) = s
def OneIs (s : ByteArray) (w : World) (e : Ending) (w' : World) : Prop :=
  Below w.heap.size w w' ∧ ((oneOk s ∧ e = .returned (.tuple #[.agg #[.string s, .int .i64 (wide (runes (bs s)))], .bool true])) ∨
    (¬ oneOk s ∧ e = .returned (.tuple #[.agg #[.string ByteArray.empty, .int .i64 0], .bool false])))

theorem two_cells (w1 : World) (n : Nat) (a b u v : Value) (t : TypeId) (h : w1.heap[n]? = some (.cells #[a, b] t (0, 0))) :
    ((w1.setCell ⟨n, 0, none⟩ u).setCell ⟨n, 1, none⟩ v).cell? ⟨n, 0, none⟩ = some u ∧ ((w1.setCell ⟨n, 0, none⟩ u).setCell ⟨n, 1, none⟩ v).cell? ⟨n, 1, none⟩ = some v := by
  obtain ⟨hlt, hk⟩ := Array.getElem?_eq_some_iff.1 h
  have h1 : (w1.setCell ⟨n, 0, none⟩ u).heap[n]? = some (.cells #[u, b] t (0, 0)) := by
    show (w1.heap.modify n _)[n]? = _
    rw [Array.getElem?_eq_getElem (by rw [Array.size_modify]; exact hlt), Array.getElem_modify_self, hk]
    rfl
  obtain ⟨hlt2, hk2⟩ := Array.getElem?_eq_some_iff.1 h1
  have h2 : ((w1.setCell ⟨n, 0, none⟩ u).setCell ⟨n, 1, none⟩ v).heap[n]? = some (.cells #[u, v] t (0, 0)) := by
    show ((w1.setCell ⟨n, 0, none⟩ u).heap.modify n _)[n]? = _
    rw [Array.getElem?_eq_getElem (by rw [Array.size_modify]; exact hlt2), Array.getElem_modify_self, hk2]
    rfl
  constructor <;> simp [World.cell?, h2]
theorem below_two (w w1 : World) (n : Nat) (u v : Value) (hB : Below n w w1) : Below n w ((w1.setCell ⟨n, 0, none⟩ u).setCell ⟨n, 1, none⟩ v) :=
  (hB.setCell (p := ⟨n, 0, none⟩) (Nat.le_refl _) _).setCell (p := ⟨n, 1, none⟩) (Nat.le_refl _) _

set_option maxRecDepth 100000 in
set_option maxHeartbeats 4000000 in
theorem one_any (s : ByteArray) (w : World) (hs : s.size ≤ 1099511627776) : Calls Tryz.prog 89 #[.string s] w (OneIs s w) := by
  have HS := run.hid (fun w => split_any s w hs)
  unfold Splits at HS
  have hOK := run.hid (show oneOk s ↔ (cl (runes (bs s))).length = 1 ∧ str (text (runes (bs s))) = s from Iff.rfl)
  have hC1 := run.hid (fun h => @cl_len_one (runes (bs s)) h)
  unfold OneIs
  generalize runes (bs s) = L at *
  go_enter Tryz.func89, Tryz.ntmps89
  have hbel := run.below_one w (.cells #[.string ByteArray.empty, .int .i64 0] 83)
  have hnew := run.heap_new w (.cells #[.string ByteArray.empty, .int .i64 0] 83)
  go_wp2_with fail
  refine (HS.out _).mono ?_
  rintro e w1 ⟨v, rfl, hown, hb1⟩
  have hB := hbel.trans (hb1.mono hbel.size)
  have hnew1 := (hb1.block w.heap.size (by simp)).trans hnew
  by_cases h1 : (cl L).length = 1
  · have h2 := hC1.out h1
    rw [h1, h2] at hown
    obtain ⟨g, cap, rfl⟩ := ownsRow_succ (k := 0) hown
    have hc0 : w1.cell? ⟨g, 0, none⟩ = some (.string (str (text L))) := (hown.cellAt 0 (by simp)).trans rfl
    have hc1 : w1.cell? ⟨g, 1, none⟩ = some (.int .i64 (wide L)) := (hown.cellAt 1 (by simp)).trans rfl
    have hn0 : w1.cell? ⟨w.heap.size, 0, none⟩ = some (.string ByteArray.empty) := by simp [World.cell?, hnew1]
    have hn1 : w1.cell? ⟨w.heap.size, 1, none⟩ = some (.int .i64 0) := by simp [World.cell?, hnew1]
    have hnf : w1.frozen? ⟨w.heap.size, 0, none⟩ = false := by simp [World.frozen?, hnew1]
    have hnf1 : w1.frozen? ⟨w.heap.size, 1, none⟩ = false := by simp [World.frozen?, hnew1]
    have hEQ := run.hid (toList_eq_iff (str (text L)) s)
    by_cases h3 : str (text L) = s
    · have hok := run.hid (hOK.out.2 ⟨h1, h3⟩)
      rw [h3] at hc0
      clear hOK hC1 hEQ HS hown h2 hnew
      generalize hwd : wide L = wd at *
      have HWD := run.hid hwd
      clear hwd
      go_wp2
      have hT := two_cells w1 w.heap.size _ _ (.string s) (.int .i64 wd) _ hnew1
      refine bodyPost_ret (v := .tuple #[.agg #[.string s, .int .i64 wd], .bool true]) ((results_cell_tmp rfl _ _ _).trans (by simp [go_sem, hT.1, hT.2])) rfl ?_
      exact ⟨below_two w w1 _ _ _ hB, .inl ⟨hok.out, by rw [HWD.out]⟩⟩
    · have hok := run.hid (fun h => h3 (hOK.out.1 h).2)
      have hE2 : ((str (text L)).toList == s.toList) = false := by rw [hEQ.out]; exact decide_eq_false h3
      clear hOK hC1 hEQ HS hown h2 hnew
      generalize hwd : wide L = wd at *
      have HWD := run.hid hwd
      clear hwd
      generalize str (text L) = st at *
      go_wp2
      have hT := two_cells w1 w.heap.size _ _ (.string ⟨#[]⟩) (.int .i64 0) _ hnew1
      refine bodyPost_ret (v := .tuple #[.agg #[.string ⟨#[]⟩, .int .i64 0], .bool false]) ((results_cell_tmp rfl _ _ _).trans (by simp [go_sem, hT.1, hT.2])) rfl ?_
      exact ⟨below_two w w1 _ _ _ hB, .inr ⟨hok.out, rfl⟩⟩
  · have hok := run.hid (fun h => h1 (hOK.out.1 h).1)
    obtain ⟨a, cap, rfl⟩ := run.own_value hown
    have hn0 : w1.cell? ⟨w.heap.size, 0, none⟩ = some (.string ByteArray.empty) := by simp [World.cell?, hnew1]
    have hn1 : w1.cell? ⟨w.heap.size, 1, none⟩ = some (.int .i64 0) := by simp [World.cell?, hnew1]
    have hnf : w1.frozen? ⟨w.heap.size, 0, none⟩ = false := by simp [World.frozen?, hnew1]
    have hnf1 : w1.frozen? ⟨w.heap.size, 1, none⟩ = false := by simp [World.frozen?, hnew1]
    clear hOK hC1 HS hown hnew
    generalize (cl L).length = k at *
    go_wp2
    have hT := two_cells w1 w.heap.size _ _ (.string ⟨#[]⟩) (.int .i64 0) _ hnew1
    refine bodyPost_ret (v := .tuple #[.agg #[.string ⟨#[]⟩, .int .i64 0], .bool false]) ((results_cell_tmp rfl _ _ _).trans (by simp [go_sem, hT.1, hT.2])) rfl ?_
    exact ⟨below_two w w1 _ _ _ hB, .inr ⟨hok.out, rfl⟩⟩

end Go.Proofs.YtdgcfmfjgidbjaaGreat.clu
end
