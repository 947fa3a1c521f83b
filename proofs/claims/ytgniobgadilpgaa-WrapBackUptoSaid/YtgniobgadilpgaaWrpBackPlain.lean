/-
  Plain facts of the layer wrap: lines, with what was taken away put back, are the text's clusters.
-/
import Derived.Test.YtgniobgadilpgaaWrpLinesPlain
namespace Go.Proofs.Ytgniobgadilpgaa.wrp
open Go.Proofs.Ytgniobgadilpgaa.wid Go.Proofs.Ytgniobgadilpgaa.utf Go.Proofs.Ytgniobgadilpgaa.clu
set_option linter.unusedVariables false

/-- what was taken away at a line's end -/
def backL (fin : Nat) : List UInt8 := if fin = 1 then [10] else if fin = 2 then [32] else []
/-- a line with it -/
def lineL (x : LV) : List UInt8 := (if x.lost = e0 then x.text.data.toList else x.lost.data.toList) ++ backL x.fin
def linesL (l : List LV) : List UInt8 := l.flatMap lineL
theorem linesL_append (a b : List LV) : linesL (a ++ b) = linesL a ++ linesL b := by simp [linesL]
theorem linesL_cons (x : LV) (b : List LV) : linesL (x :: b) = lineL x ++ linesL b := by simp [linesL]
theorem linesL_take {l : List LV} {i : Nat} (x0 : LV) (h : i < l.length) : linesL (l.take (i + 1)) = linesL (l.take i) ++ lineL (l.getD i x0) := by
  rw [List.take_succ_eq_append_getElem h, linesL_append]
  simp [linesL, List.getD_eq_getElem?_getD, h]
theorem linesL_take_le (l : List LV) (i : Nat) : (linesL (l.take i)).length ≤ (linesL l).length := by
  have h : linesL l = linesL (l.take i) ++ linesL (l.drop i) := by rw [← linesL_append, List.take_append_drop]
  rw [h, List.length_append]; omega

theorem joinT_bytes (X : List TV) : (joinT X).data.toList = catL X := by simp [joinT]
theorem catL_cons (q : TV) (t : List TV) : catL (q :: t) = q.1.data.toList ++ catL t := by simp [catL]
theorem wideT_cons (q : TV) (t : List TV) : wideT (q :: t) = q.2 + wideT t := by simp [wideT]
/-- no cluster is empty -/
def Full (X : List TV) : Prop := ∀ q ∈ X, q.1 ≠ e0
theorem Full.sub {X Y : List TV} (h : Full X) (hs : ∀ q ∈ Y, q ∈ X) : Full Y := fun q hq => h q (hs q hq)
theorem Full.drop {X : List TV} (h : Full X) (k : Nat) : Full (X.drop k) := h.sub fun q hq => List.mem_of_mem_drop hq

theorem fitT_pos {r : List TV} {n : Nat} (h : ¬ wideT r ≤ n) (h0 : fitT r n ≠ 0) : 0 < fitT r n ∧ fitT r n < r.length := by
  have h1 := fitT_le r n
  have h2 := fitT_wide r n
  refine ⟨by omega, ?_⟩
  rcases Nat.lt_or_ge (fitT r n) r.length with h3 | h3
  · exact h3
  · rw [List.take_of_length_le h3] at h2; omega
theorem cutAt_le {m : Nat} {r : List TV} {k j : Nat} (h : cutAt m r k = some j) : j ≤ k ∧ (r.getD j t0).1 = sp := by
  unfold cutAt at h
  split at h
  · exact lastSp_le h
  · cases h
theorem drop_at {X : List TV} {j : Nat} (h : j < X.length) : X.drop j = X.getD j t0 :: X.drop (j + 1) := by
  rw [List.drop_eq_getElem_cons h]; simp [List.getD_eq_getElem?_getD, h]
theorem catL_split (X : List TV) (k : Nat) : catL X = catL (X.take k) ++ catL (X.drop k) := by rw [← catL_append, List.take_append_drop]

theorem rowL_back (wd m fin : Nat) : ∀ (f : Nat) (r : List TV), r.length < f → Full r → linesL (rowL wd m fin f r) = catL r ++ backL fin
  | 0, r, h, _ => by omega
  | f + 1, r, h, hF => by
    by_cases h1 : m = 2 ∨ wideT r ≤ wd
    · rw [rowL_whole h1]
      simp [linesL, lineL, joinT_bytes, e0]
    have hw : ¬ wideT r ≤ wd := fun e => h1 (.inr e)
    by_cases h0 : fitT r wd = 0
    · have hr : r ≠ [] := fun e => by subst e; simp [wideT] at hw
      obtain ⟨q, t, rfl⟩ := List.exists_cons_of_ne_nil hr
      have hq : q.1 ≠ e0 := hF q (by simp)
      have e1 : (q :: t).getD 0 t0 = q := rfl
      by_cases hl : (q :: t).length ≤ 1
      · have ht : t = [] := by cases t with
          | nil => rfl
          | cons a b => simp at hl
        subst ht
        rw [rowL_last h1 h0 hl, e1]
        simp only [linesL, List.flatMap_cons, List.flatMap_nil, lineL, List.append_nil, if_neg hq]
        simp [catL]
      · rw [rowL_lost h1 h0 (by omega), linesL_cons, e1]
        have ih := rowL_back wd m fin f ((q :: t).drop 1) (by simp at h ⊢; omega) (hF.drop 1)
        rw [ih]
        simp only [lineL, if_neg hq, List.drop_one, List.tail_cons, catL_cons]
        simp [backL]
    · obtain ⟨hp, hlt⟩ := fitT_pos hw h0
      cases hc : cutAt m r (fitT r wd) with
      | some j =>
        obtain ⟨hj, hs⟩ := cutAt_le hc
        rw [rowL_blank h1 h0 hc, linesL_cons]
        have ih := rowL_back wd m fin f (r.drop (j + 1)) (by rw [List.length_drop]; omega) (hF.drop _)
        rw [ih]
        have e2 : catL r = catL (r.take j) ++ (32 :: catL (r.drop (j + 1))) := by
          rw [catL_split r j, drop_at (by omega), catL_cons, hs]; rfl
        rw [e2]
        simp [lineL, backL, joinT_bytes, e0]
      | none =>
        rw [rowL_cut h1 h0 hc, linesL_cons]
        have ih := rowL_back wd m fin f (r.drop (fitT r wd)) (by rw [List.length_drop]; omega) (hF.drop _)
        rw [ih, catL_split r (fitT r wd)]
        simp [lineL, backL, joinT_bytes, e0]

/-- how a row's lines end -/
theorem rowL_ends (wd m fin : Nat) : ∀ (f : Nat) (r : List TV), r.length < f → ∃ (L : List LV) (x : LV), rowL wd m fin f r = L ++ [x] ∧ x.fin = fin ∧ ∀ y ∈ L, 2 ≤ y.fin ∧ y.fin ≤ 3
  | 0, r, h => by omega
  | f + 1, r, h => by
    by_cases h1 : m = 2 ∨ wideT r ≤ wd
    · exact ⟨[], _, rowL_whole h1, rfl, by simp⟩
    have hw : ¬ wideT r ≤ wd := fun e => h1 (.inr e)
    by_cases h0 : fitT r wd = 0
    · by_cases hl : r.length ≤ 1
      · exact ⟨[], _, rowL_last h1 h0 hl, rfl, by simp⟩
      · obtain ⟨L, x, e, hx, hL⟩ := rowL_ends wd m fin f (r.drop 1) (by rw [List.length_drop]; omega)
        refine ⟨_ :: L, x, by rw [rowL_lost h1 h0 (by omega), e]; rfl, hx, ?_⟩
        intro y hy
        rcases List.mem_cons.1 hy with rfl | hy
        · exact ⟨(by decide : 2 ≤ 3), (by decide : 3 ≤ 3)⟩
        · exact hL y hy
    · obtain ⟨hp, hlt⟩ := fitT_pos hw h0
      cases hc : cutAt m r (fitT r wd) with
      | some j =>
        obtain ⟨L, x, e, hx, hL⟩ := rowL_ends wd m fin f (r.drop (j + 1)) (by have := (cutAt_le hc).1; rw [List.length_drop]; omega)
        refine ⟨_ :: L, x, by rw [rowL_blank h1 h0 hc, e]; rfl, hx, ?_⟩
        intro y hy
        rcases List.mem_cons.1 hy with rfl | hy
        · exact ⟨(by decide : 2 ≤ 2), (by decide : 2 ≤ 3)⟩
        · exact hL y hy
      | none =>
        obtain ⟨L, x, e, hx, hL⟩ := rowL_ends wd m fin f (r.drop (fitT r wd)) (by rw [List.length_drop]; omega)
        refine ⟨_ :: L, x, by rw [rowL_cut h1 h0 hc, e]; rfl, hx, ?_⟩
        intro y hy
        rcases List.mem_cons.1 hy with rfl | hy
        · exact ⟨(by decide : 2 ≤ 3), (by decide : 3 ≤ 3)⟩
        · exact hL y hy

/-- the bytes of rows, line feeds between them and behind them -/
def rowsL (all : List (List TV)) : List UInt8 := all.flatMap fun r => catL r ++ [10]
theorem rowsL_snoc (all : List (List TV)) (r : List TV) : rowsL (all ++ [r]) = rowsL all ++ (catL r ++ [10]) := by simp [rowsL]
theorem splitNl_cat : ∀ X : List TV, ∃ (A : List (List TV)) (r : List TV), splitNl X = A ++ [r] ∧ catL X = rowsL A ++ catL r
  | [] => ⟨[], [], rfl, rfl⟩
  | q :: t => by
    obtain ⟨A, r, e1, e2⟩ := splitNl_cat t
    by_cases h : q.1 = nl
    · refine ⟨[] :: A, r, ?_, ?_⟩
      · rw [splitNl, if_pos h, e1]; rfl
      · rw [catL_cons, h, e2]; simp [rowsL, catL, nl]
    · have e3 : splitNl (q :: t) = match splitNl t with | [] => [[q]] | r :: rs => (q :: r) :: rs := by
        conv => lhs; unfold splitNl
        rw [if_neg h]
        rfl
      rw [e3, e1]
      cases A with
      | nil =>
        refine ⟨[], q :: r, rfl, ?_⟩
        rw [catL_cons, e2, catL_cons]; simp [rowsL]
      | cons a A =>
        refine ⟨(q :: a) :: A, r, rfl, ?_⟩
        rw [catL_cons, e2]; simp [rowsL, catL_cons]

theorem linesTo_back (wd m : Nat) (all : List (List TV)) (hF : ∀ r ∈ all, Full r) : ∀ i, i < all.length → linesL (linesTo wd m all i) = rowsL (all.take i)
  | 0, _ => by simp [linesTo, linesL, rowsL]
  | i + 1, h => by
    have e : all.getD i [] = all[i] := by simp [List.getD_eq_getElem?_getD, show i < all.length by omega]
    rw [linesTo_next, linesL_append, linesTo_back wd m all hF i (by omega), List.take_succ_eq_append_getElem (show i < all.length by omega), rowsL_snoc]
    unfold rowOf
    rw [rowL_back _ _ _ _ _ (by omega) (by rw [e]; exact hF _ (List.getElem_mem _)), e]
    have e5 : finOf all.length i = 1 := by unfold finOf; rw [if_neg (by omega)]
    rw [e5]; rfl

theorem linesTo_all (wd m : Nat) (X : List TV) (hX : X ≠ []) (hF : Full X) : linesL (linesTo wd m (rowsT X) (rowsT X).length) = catL X := by
  have hR : rowsT X = splitNl X := by unfold rowsT; rw [if_neg hX]
  obtain ⟨A, r, e1, e2⟩ := splitNl_cat X
  have hF2 : ∀ r ∈ rowsT X, Full r := fun r hr => hF.sub (rowsT_mem hr).2
  rw [hR, e1] at hF2 ⊢
  have hl : (A ++ [r]).length = A.length + 1 := by simp
  rw [hl, linesTo_next, linesL_append, linesTo_back _ _ _ hF2 A.length (by omega)]
  unfold rowOf
  have e3 : (A ++ [r]).getD A.length [] = r := by simp [List.getD_eq_getElem?_getD]
  rw [e3, rowL_back _ _ _ _ _ (by omega) (hF2 r (by simp)), e2]
  have e4 : finOf (A ++ [r]).length A.length = 0 := by unfold finOf; rw [hl, if_pos rfl]
  rw [e4]
  simp [backL]

theorem linesTo_ends (wd m : Nat) (all : List (List TV)) : ∀ i, i < all.length → ∀ y ∈ linesTo wd m all i, 1 ≤ y.fin ∧ y.fin ≤ 3
  | 0, _ => by simp [linesTo]
  | i + 1, h => by
    intro y hy
    rw [linesTo_next] at hy
    rcases List.mem_append.1 hy with hy | hy
    · exact linesTo_ends wd m all i (by omega) y hy
    · obtain ⟨L, x, e, hx, hL⟩ := rowL_ends wd m (finOf all.length i) ((all.getD i []).length + 1) (all.getD i []) (by omega)
      unfold rowOf at hy
      rw [e] at hy
      rcases List.mem_append.1 hy with hy | hy
      · have := hL y hy; omega
      · rw [List.mem_singleton] at hy
        subst hy
        rw [hx]
        unfold finOf
        rw [if_neg (by omega)]
        exact ⟨by decide, by decide⟩
/-- all lines: the last one ends with the text, none else -/
theorem lines_ends (wd m : Nat) (X : List TV) (hX : X ≠ []) : ∃ (L : List LV) (x : LV), linesTo wd m (rowsT X) (rowsT X).length = L ++ [x] ∧ x.fin = 0 ∧ ∀ y ∈ L, 1 ≤ y.fin ∧ y.fin ≤ 3 := by
  have hR : 0 < (rowsT X).length := by
    unfold rowsT; rw [if_neg hX]
    rcases Nat.eq_zero_or_pos (splitNl X).length with h | h
    · exact absurd (List.length_eq_zero_iff.1 h) (splitNl_ne X)
    · exact h
  obtain ⟨k, hk⟩ : ∃ k, (rowsT X).length = k + 1 := ⟨(rowsT X).length - 1, by omega⟩
  rw [hk, linesTo_next]
  obtain ⟨L, x, e, hx, hL⟩ := rowL_ends wd m (finOf (rowsT X).length k) (((rowsT X).getD k []).length + 1) ((rowsT X).getD k []) (by omega)
  refine ⟨linesTo wd m (rowsT X) k ++ L, x, by unfold rowOf; rw [e, List.append_assoc], ?_, ?_⟩
  · rw [hx]; unfold finOf; rw [if_pos hk.symm]
  · intro y hy
    rcases List.mem_append.1 hy with hy | hy
    · exact linesTo_ends wd m _ k (by omega) y hy
    · have := hL y hy; omega
/-- by places -/
theorem lines_at (wd m : Nat) (X : List TV) (hX : X ≠ []) (x0 : LV) : 0 < (linesTo wd m (rowsT X) (rowsT X).length).length ∧ ∀ i, i < (linesTo wd m (rowsT X) (rowsT X).length).length →
    (((linesTo wd m (rowsT X) (rowsT X).length).getD i x0).fin ≤ 3 ∧ (i + 1 = (linesTo wd m (rowsT X) (rowsT X).length).length ↔ ((linesTo wd m (rowsT X) (rowsT X).length).getD i x0).fin = 0)) := by
  obtain ⟨L, x, e, hx, hL⟩ := lines_ends wd m X hX
  rw [e]
  refine ⟨by simp, fun i hi => ?_⟩
  simp only [List.length_append, List.length_singleton] at hi ⊢
  rcases Nat.lt_or_ge i L.length with h | h
  · have e2 : (L ++ [x]).getD i x0 = L[i] := by simp only [List.getD_eq_getElem?_getD]; rw [List.getElem?_append_left h]; simp [h]
    rw [e2]
    have := hL _ (List.getElem_mem h)
    exact ⟨this.2, by omega, by omega⟩
  · obtain rfl : i = L.length := by omega
    have e2 : (L ++ [x]).getD L.length x0 = x := by simp [List.getD_eq_getElem?_getD]
    rw [e2, hx]
    simp

end Go.Proofs.Ytgniobgadilpgaa.wrp
