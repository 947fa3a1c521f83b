/-
  The plain law of CellsThere: what is put where there is room for it can be read there; what is filled or shifted away is blanks.
-/
import Derived.Test.YtinnggiohalifaaCelPaste
import Derived.Test.YtinnggiohalifaaCelWakes
namespace Go.Proofs.Ytinnggiohalifaa.cel
open Go Go.RowKit Go.Proofs
open Go.Proofs.Ytinnggiohalifaa.wrp (TV t0 flow nl sp flow_any flow_len kept2 del2 sp_eq nl_eq)
open Go.Proofs.Ytinnggiohalifaa.clu (cells2 told)
set_option linter.unusedVariables false

def wantStep (s : SV) (l : List CV) (q : TV) : List CV := if 60 ≤ l.length then l else if (shownQ q).2 = 2 then l ++ [cellQ s q] ++ [⟨⟨#[]⟩, 0, s⟩] else l ++ [cellQ s q]
def wantT (s : SV) (F : List TV) : List CV := F.foldl (wantStep s) []
theorem wantT_snoc (s : SV) {F : List TV} {k : Nat} (h : k < F.length) : wantT s (F.take (k + 1)) = wantStep s (wantT s (F.take k)) (F.getD k t0) := by
  unfold wantT
  rw [List.take_succ_eq_append_getElem h, List.foldl_append]
  simp [List.getD_eq_getElem?_getD, h]
theorem setT_one {L : List CV} {i : Nat} (h : wd L i = 1) (c : CV) : setT L i c = L.set i c := by
  unfold setT brokenT
  have h' : (L.getD i z0).wide = 1 := h
  rw [if_neg (by rw [h']; omega)]
theorem getD_set {L : List CV} {i j : Nat} {c : CV} (hi : i < L.length) : (L.set i c).getD j z0 = if j = i then c else L.getD j z0 := by
  simp only [List.getD_eq_getElem?_getD, List.getElem?_set]
  by_cases e : i = j
  · subst e; simp [hi]
  · rw [if_neg e, if_neg (fun h => e h.symm)]
theorem lay_end {L : List CV} (hl : L.length = 192) {x : Nat} (hb : ∀ j, x ≤ j → j < 64 → wd L (64 + j) = 1) {c : CV} (hc : c.wide = 1 ∨ c.wide = 2) :
    (layT 64 L (x : Nat) 1 c (decide (x < 64)) (decide (x + 1 < 64))).length = 192 ∧ (∀ j, j < 64 + x → (layT 64 L (x : Nat) 1 c (decide (x < 64)) (decide (x + 1 < 64))).getD j z0 = L.getD j z0) ∧
    (∀ j, x + c.wide.toNat ≤ j → j < 64 → wd (layT 64 L (x : Nat) 1 c (decide (x < 64)) (decide (x + 1 < 64))) (64 + j) = 1) ∧
    (x + 1 < 64 → (layT 64 L (x : Nat) 1 c (decide (x < 64)) (decide (x + 1 < 64))).getD (64 + x) z0 = c ∧ (c.wide = 2 → (layT 64 L (x : Nat) 1 c (decide (x < 64)) (decide (x + 1 < 64))).getD (64 + x + 1) z0 = ⟨⟨#[]⟩, 0, c.sty⟩)) := by
  have e1 : ((1 : Int) * ((64 : Nat) : Int) + ((x : Nat) : Int)).toNat = 64 + x := by omega
  have e2 : ((1 : Int) * ((64 : Nat) : Int) + ((x : Nat) : Int) + 1).toNat = 64 + x + 1 := by omega
  unfold layT
  rw [e1, e2]
  by_cases hx : x < 64
  · rw [decide_eq_true hx]
    have w0 := hb x (Nat.le_refl _) hx
    rcases hc with h1 | h2
    · rw [if_pos h1]
      simp only [if_true]
      rw [setT_one w0]
      refine ⟨by rw [List.length_set, hl], fun j hj => ?_, fun j h3 h4 => ?_, fun _ => ⟨?_, fun h => by omega⟩⟩
      · rw [getD_set (by omega), if_neg (by omega)]
      · rw [wd_set _ _ _ (by omega), if_neg (by omega)]; exact hb j (by omega) h4
      · rw [getD_set (by omega), if_pos rfl]
    · rw [if_neg (by omega)]
      simp only [if_true]
      rw [setT_one w0]
      by_cases hx1 : x + 1 < 64
      · rw [decide_eq_true hx1]
        have w1 : wd (L.set (64 + x) (blankT c.sty)) (64 + x + 1) = 1 := by
          rw [wd_set _ _ _ (by omega), if_neg (by omega)]
          exact hb (x + 1) (by omega) hx1
        simp only [if_true, Bool.and_self]
        rw [setT_one w1]
        have l1 : (L.set (64 + x) (blankT c.sty)).length = 192 := by rw [List.length_set, hl]
        have l2 : ((L.set (64 + x) (blankT c.sty)).set (64 + x + 1) (blankT c.sty)).length = 192 := by rw [List.length_set, l1]
        have l3 : (((L.set (64 + x) (blankT c.sty)).set (64 + x + 1) (blankT c.sty)).set (64 + x) c).length = 192 := by rw [List.length_set, l2]
        refine ⟨by rw [List.length_set, l3], fun j hj => ?_, fun j h3 h4 => ?_, fun _ => ⟨?_, fun _ => ?_⟩⟩
        · rw [getD_set (by omega), if_neg (by omega), getD_set (by omega), if_neg (by omega), getD_set (by omega), if_neg (by omega), getD_set (by omega), if_neg (by omega)]
        · rw [wd_set _ _ _ (by omega), if_neg (by omega), wd_set _ _ _ (by omega), if_neg (by omega), wd_set _ _ _ (by omega), if_neg (by omega), wd_set _ _ _ (by omega), if_neg (by omega)]
          exact hb j (by omega) h4
        · rw [getD_set (by omega), if_neg (by omega), getD_set (by omega), if_pos rfl]
        · rw [getD_set (by omega), if_pos rfl]
      · rw [decide_eq_false hx1]
        simp only [Bool.and_false, Bool.false_eq_true, if_false]
        refine ⟨by rw [List.length_set, hl], fun j hj => ?_, fun j h3 h4 => by omega, fun h => by omega⟩
        rw [getD_set (by omega), if_neg (by omega)]
  · rw [decide_eq_false hx, decide_eq_false (by omega)]
    simp only [Bool.and_false, Bool.false_eq_true, if_false]
    split
    · exact ⟨hl, fun _ _ => rfl, fun j h3 h4 => by omega, fun h => by omega⟩
    · exact ⟨hl, fun _ _ => rfl, fun j h3 h4 => by omega, fun h => by omega⟩
theorem let_all : letIn allR 64 3 = ⟨0, 0, 64, 3⟩ := by decide
theorem has_all (x : Nat) : hasT ⟨0, 0, 64, 3⟩ (x : Nat) 1 = decide (x < 64) := by
  unfold hasT
  rw [show endsT ⟨0, 0, 64, 3⟩ = ⟨0, 0, 64, 3⟩ from by decide, show okB ⟨0, 0, 64, 3⟩ = true from by decide]
  by_cases h : x < 64
  · rw [decide_eq_true h]
    simp
    omega
  · rw [decide_eq_false h]
    simp
    omega
theorem cellQ_wide (s : SV) (q : TV) : (cellQ s q).wide = ((shownQ q).2 : Nat) := rfl

/-- what is put there, and read there -/
theorem there_put (s : SV) {F : List TV} (hF : ∀ k, k < F.length → (shownQ (F.getD k t0)).2 = 1 ∨ (shownQ (F.getD k t0)).2 = 2) {L : List CV} (hl : L.length = 192) (hb : ∀ j, j < 64 → wd L (64 + j) = 1) : ∀ k, k ≤ F.length →
    (putT 64 ⟨0, 0, 64, 3⟩ 1 s 1 L (F.take k)).2.length = 192 ∧ (∀ j, 1 + putW (F.take k) ≤ j → j < 64 → wd (putT 64 ⟨0, 0, 64, 3⟩ 1 s 1 L (F.take k)).2 (64 + j) = 1) ∧
    (wantT s (F.take k)).length ≤ putW (F.take k) ∧ (wantT s (F.take k)).length ≤ 61 ∧ ((wantT s (F.take k)).length < 60 → (wantT s (F.take k)).length = putW (F.take k)) ∧
    ∀ i, i < (wantT s (F.take k)).length → (putT 64 ⟨0, 0, 64, 3⟩ 1 s 1 L (F.take k)).2.getD (65 + i) z0 = (wantT s (F.take k)).getD i z0 := by
  intro k
  induction k with
  | zero => intro _; exact ⟨hl, fun j _ h => hb j h, by simp [wantT, putW], by simp [wantT], fun _ => by simp [wantT, putW], fun i hi => by simp [wantT] at hi⟩
  | succ k ih =>
    intro hk
    obtain ⟨h1, h2, h3, h4, h5, h6⟩ := ih (by omega)
    have hw := hF k (by omega)
    rw [putT_snoc 64 _ 1 s 1 L (show k < F.length by omega), putW_snoc (show k < F.length by omega), wantT_snoc s (show k < F.length by omega)]
    have hx := putT_x 64 ⟨0, 0, 64, 3⟩ 1 s (F.take k) 1 L
    have hx' : (putT 64 ⟨0, 0, 64, 3⟩ 1 s 1 L (F.take k)).1 = ((1 + putW (F.take k) : Nat) : Int) := by rw [hx]; push_cast; rfl
    unfold putStep
    rw [hx', has_all, show (((1 + putW (F.take k) : Nat) : Int) + 1) = ((1 + putW (F.take k) + 1 : Nat) : Int) by push_cast; rfl, has_all]
    have hcw := cellQ_wide s (F.getD k t0)
    generalize (putT 64 ⟨0, 0, 64, 3⟩ 1 s 1 L (F.take k)).2 = M at *
    generalize wantT s (F.take k) = Wn at *
    generalize putW (F.take k) = n at *
    generalize F.getD k t0 = q at *
    obtain ⟨g1, g2, g3, g4⟩ := lay_end h1 (x := 1 + n) h2 (c := cellQ s q) (by rw [hcw]; omega)
    refine ⟨g1, fun j h7 h8 => g3 j (by rw [hcw]; omega) h8, ?_⟩
    unfold wantStep
    by_cases h60 : 60 ≤ Wn.length
    · rw [if_pos h60]
      refine ⟨by omega, h4, fun h => by omega, fun i hi => ?_⟩
      show List.getD _ _ _ = _
      rw [g2 (65 + i) (by omega)]
      exact h6 i hi
    · rw [if_neg h60]
      have hn := h5 (by omega)
      obtain ⟨g5, g6⟩ := g4 (by omega)
      have hlow : ∀ i, i < Wn.length → (layT 64 M ((1 + n : Nat) : Int) 1 (cellQ s q) (decide (1 + n < 64)) (decide (1 + n + 1 < 64))).getD (65 + i) z0 = Wn.getD i z0 := fun i hi => by rw [g2 (65 + i) (by omega)]; exact h6 i hi
      by_cases hq2 : (shownQ q).2 = 2
      · rw [if_pos hq2]
        have hlen : (Wn ++ [cellQ s q] ++ [(⟨⟨#[]⟩, 0, s⟩ : CV)]).length = Wn.length + 2 := by simp
        refine ⟨by omega, by omega, fun h => by omega, fun i hi => ?_⟩
        rw [hlen] at hi
        show List.getD _ _ _ = _
        rcases (show i < Wn.length ∨ i = Wn.length ∨ i = Wn.length + 1 by omega) with h | rfl | rfl
        · rw [hlow i h]
          simp only [List.getD_eq_getElem?_getD]
          rw [List.append_assoc, List.getElem?_append_left h]
        · rw [hn, show 65 + n = 64 + (1 + n) by omega, g5]
          simp only [List.getD_eq_getElem?_getD]
          rw [← hn, List.append_assoc, List.getElem?_append_right (Nat.le_refl _)]
          simp
        · rw [hn, show 65 + (n + 1) = 64 + (1 + n) + 1 by omega, g6 (by rw [hcw, hq2]; rfl)]
          simp only [List.getD_eq_getElem?_getD]
          rw [← hn, List.append_assoc, List.getElem?_append_right (by omega), show Wn.length + 1 - Wn.length = 1 by omega]
          rfl
      · rw [if_neg hq2]
        have hlen : (Wn ++ [cellQ s q]).length = Wn.length + 1 := by simp
        refine ⟨by omega, by omega, fun h => by omega, fun i hi => ?_⟩
        rw [hlen] at hi
        show List.getD _ _ _ = _
        rcases (show i < Wn.length ∨ i = Wn.length by omega) with h | rfl
        · rw [hlow i h]
          simp only [List.getD_eq_getElem?_getD]
          rw [List.getElem?_append_left h]
        · rw [hn, show 65 + n = 64 + (1 + n) by omega, g5]
          simp only [List.getD_eq_getElem?_getD]
          rw [← hn, List.getElem?_append_right (Nat.le_refl _)]
          simp
theorem fillRow_get (W y X : Nat) (c : CV) (L : List CV) (i : Nat) : ∀ k, y * W + X + k ≤ L.length → (fillRow W y X c k L)[i]? = if y * W + X ≤ i ∧ i < y * W + X + k then some c else L[i]?
  | 0, _ => by rw [if_neg (by omega)]; rfl
  | k + 1, hk => by
    unfold fillRow
    rw [List.getElem?_set, fillRow_len, fillRow_get W y X c L i k (by omega)]
    by_cases e : y * W + (X + k) = i
    · rw [if_pos e, if_pos (by omega), if_pos (by omega)]
    · rw [if_neg e]
      by_cases h : y * W + X ≤ i ∧ i < y * W + X + k
      · rw [if_pos h, if_pos (by omega)]
      · rw [if_neg h, if_neg (by omega)]
theorem fillRect_len (W X Y RW : Nat) (c : CV) (L : List CV) : ∀ k, (fillRect W X Y RW c k L).length = L.length
  | 0 => rfl
  | k + 1 => by unfold fillRect; rw [fillRow_len, fillRect_len]
/-- all of a buffer, filled -/
theorem fill_all (c : CV) {L : List CV} (hl : L.length = 192) : fillRect 64 0 0 64 c 3 L = List.replicate 192 c := by
  apply List.ext_getElem?
  intro i
  show (fillRow 64 (0 + 2) 0 c 64 (fillRow 64 (0 + 1) 0 c 64 (fillRow 64 (0 + 0) 0 c 64 L)))[i]? = _
  rw [fillRow_get _ _ _ _ _ _ _ (by rw [fillRow_len, fillRow_len]; omega), fillRow_get _ _ _ _ _ _ _ (by rw [fillRow_len]; omega), fillRow_get _ _ _ _ _ _ _ (by omega), List.getElem?_replicate]
  by_cases h : i < 192
  · rw [if_pos h]
    by_cases a : (0 + 2) * 64 + 0 ≤ i ∧ i < (0 + 2) * 64 + 0 + 64
    · rw [if_pos a]
    · rw [if_neg a]
      by_cases b : (0 + 1) * 64 + 0 ≤ i ∧ i < (0 + 1) * 64 + 0 + 64
      · rw [if_pos b]
      · rw [if_neg b, if_pos (by omega)]
  · rw [if_neg h, if_neg (by omega), if_neg (by omega), if_neg (by omega)]
    exact List.getElem?_eq_none (by omega)
/-- all of a buffer, shifted away -/
theorem shift_all (c : CV) {D : Int} (hD : D ≤ -3 ∨ 3 ≤ D) (O : List CV) {L : List CV} (hl : L.length = 192) : shiftT 64 0 0 64 3 D c O 3 L = List.replicate 192 c := by
  rw [← fill_all c hl]
  have h : ∀ y M, y < 3 → shiftRow 64 0 0 64 3 D c O y M = fillRow 64 y 0 c 64 M := fun y M hy => if_neg (by omega)
  show shiftRow 64 0 0 64 3 D c O (0 + 2) (shiftRow 64 0 0 64 3 D c O (0 + 1) (shiftRow 64 0 0 64 3 D c O (0 + 0) L)) = _
  rw [h _ _ (by omega), h _ _ (by omega), h _ _ (by omega)]
  rfl
end Go.Proofs.Ytinnggiohalifaa.cel
