/-
  Plain facts of the layer wrap: where nothing is cut; where lines are rows.
-/
import Derived.Test.YtmjmmoecplndmaaWrpLinesPlain
import Derived.Test.YtmjmmoecplndmaaWrpLeast
namespace Go.Proofs.Ytmjmmoecplndmaa.wrp
open Go.Proofs.Ytmjmmoecplndmaa.wid Go.Proofs.Ytmjmmoecplndmaa.utf Go.Proofs.Ytmjmmoecplndmaa.clu
set_option linter.unusedVariables false

/-- what stands between the things that part at this mode -/
def Inner (m : Int) (Y : List TV) : Prop := ∀ q ∈ Y, q.1 ≠ nl ∧ (m ≠ 2 → q.1 ≠ sp)
theorem leastF_mono (m : Int) (st : Nat × Nat) (q : TV) : st.1 ≤ (leastF m st q).1 := by
  unfold leastF
  split
  · exact Nat.le_refl _
  · split
    · exact Nat.le_refl _
    · split <;> exact Nat.le_max_left _ _
theorem least_mono (m : Int) : ∀ (Y : List TV) (st : Nat × Nat), st.1 ≤ (Y.foldl (leastF m) st).1
  | [], st => Nat.le_refl _
  | q :: Y, st => Nat.le_trans (leastF_mono m st q) (least_mono m Y _)
theorem least_inner (m : Int) (hm : m ≠ 1) : ∀ (Y : List TV) (st : Nat × Nat), Inner m Y → (Y.foldl (leastF m) st).2 = st.2 + wideT Y ∧ (st.2 ≤ st.1 → st.2 + wideT Y ≤ (Y.foldl (leastF m) st).1)
  | [], st, _ => ⟨by simp [wideT], fun h => by simpa [wideT] using h⟩
  | q :: Y, st, h => by
    obtain ⟨h1, h2⟩ := h q (by simp)
    have e : leastF m st q = (max st.1 (st.2 + q.2), st.2 + q.2) := by
      unfold leastF
      rw [if_neg h1, if_neg (fun h3 => h2 h3.2 h3.1), if_neg hm]
    have hw : wideT (q :: Y) = q.2 + wideT Y := by simp [wideT]
    obtain ⟨i1, i2⟩ := least_inner m hm Y (leastF m st q) (fun x hx => h x (by simp [hx]))
    rw [List.foldl_cons, hw]
    rw [e] at i1 i2 ⊢
    refine ⟨by rw [i1]; simp only; omega, fun _ => ?_⟩
    have := i2 (Nat.le_max_right _ _)
    simp only at this
    omega
theorem leastF_le (m : Int) (st : Nat × Nat) (q : TV) (h : st.2 ≤ st.1) : (leastF m st q).2 ≤ (leastF m st q).1 := by
  unfold leastF
  split
  · exact Nat.zero_le _
  · split
    · exact Nat.zero_le _
    · split <;> exact Nat.le_max_right _ _
theorem least_le (m : Int) : ∀ (Y : List TV) (st : Nat × Nat), st.2 ≤ st.1 → (Y.foldl (leastF m) st).2 ≤ (Y.foldl (leastF m) st).1
  | [], st, h => h
  | q :: Y, st, h => least_le m Y _ (leastF_le m st q h)
/-- a stretch that nothing parts is no wider than the least width -/
theorem stretch_le {m : Int} (hm : m ≠ 1) {X A Y B : List TV} (e : X = A ++ (Y ++ B)) (h : Inner m Y) : wideT Y ≤ (leastS m X).1 := by
  subst e
  unfold leastS
  rw [List.foldl_append, List.foldl_append]
  have h1 := (least_inner m hm Y (A.foldl (leastF m) (0, 0)) h).2 (least_le m A (0, 0) (Nat.le_refl _))
  have h2 := least_mono m B (Y.foldl (leastF m) (A.foldl (leastF m) (0, 0)))
  omega

theorem least_10 : ∀ (Y : List TV) (s t : Nat × Nat), s.1 ≤ t.1 → (Y.foldl (leastF 1) s).1 ≤ (Y.foldl (leastF 0) t).1
  | [], s, t, h => h
  | q :: Y, s, t, h => by
    have e1 : (leastF 1 s q).1 = if q.1 = nl then s.1 else if q.1 = sp then s.1 else max s.1 q.2 := by
      unfold leastF
      by_cases hn : q.1 = nl
      · rw [if_pos hn, if_pos hn]
      · rw [if_neg hn, if_neg hn]
        by_cases hs : q.1 = sp
        · rw [if_pos ⟨hs, by decide⟩, if_pos hs]
        · rw [if_neg (fun h => hs h.1), if_neg hs, if_pos rfl]
    have e0 : (leastF 0 t q).1 = if q.1 = nl then t.1 else if q.1 = sp then t.1 else max t.1 (t.2 + q.2) := by
      unfold leastF
      by_cases hn : q.1 = nl
      · rw [if_pos hn, if_pos hn]
      · rw [if_neg hn, if_neg hn]
        by_cases hs : q.1 = sp
        · rw [if_pos ⟨hs, by decide⟩, if_pos hs]
        · rw [if_neg (fun h => hs h.1), if_neg hs, if_neg (by decide)]
    rw [List.foldl_cons, List.foldl_cons]
    refine least_10 Y _ _ ?_
    rw [e1, e0]
    split
    · exact h
    · split
      · exact h
      · omega
theorem least_02 : ∀ (Y : List TV) (s t : Nat × Nat), s.1 ≤ t.1 → s.2 ≤ t.2 → (Y.foldl (leastF 0) s).1 ≤ (Y.foldl (leastF 2) t).1
  | [], s, t, h, _ => h
  | q :: Y, s, t, h, h2 => by
    have e2 : leastF 2 t q = if q.1 = nl then (t.1, 0) else (max t.1 (t.2 + q.2), t.2 + q.2) := by
      unfold leastF
      split
      · rfl
      · rw [if_neg (fun h => h.2 rfl), if_neg (by decide)]
    have e0 : leastF 0 s q = if q.1 = nl then (s.1, 0) else if q.1 = sp then (s.1, 0) else (max s.1 (s.2 + q.2), s.2 + q.2) := by
      unfold leastF
      split
      · rfl
      · by_cases hs : q.1 = sp
        · rw [if_pos ⟨hs, by decide⟩, if_pos hs]
        · rw [if_neg (fun h => hs h.1), if_neg hs, if_neg (by decide)]
    rw [List.foldl_cons, List.foldl_cons]
    refine least_02 Y _ _ ?_ ?_
    · rw [e0, e2]; split
      · exact h
      · split <;> simp only <;> omega
    · rw [e0, e2]; split
      · exact Nat.le_refl _
      · split <;> simp only <;> omega

theorem splitNl_cons {q : TV} {t : List TV} (h : q.1 ≠ nl) : ∃ r rs, splitNl t = r :: rs ∧ splitNl (q :: t) = (q :: r) :: rs := by
  cases hs : splitNl t with
  | nil => exact absurd hs (splitNl_ne t)
  | cons r rs =>
    refine ⟨r, rs, rfl, ?_⟩
    conv => lhs; unfold splitNl
    rw [if_neg h, hs]
theorem splitNl_head : ∀ (t : List TV) {r : List TV} {rs : List (List TV)}, splitNl t = r :: rs → ∃ B, t = r ++ B
  | [], r, rs, h => by simp [splitNl] at h; exact ⟨[], by simp [h.1]⟩
  | q :: t, r, rs, h => by
    by_cases hq : q.1 = nl
    · rw [splitNl, if_pos hq] at h
      simp only [List.cons.injEq] at h
      exact ⟨q :: t, by rw [← h.1]; rfl⟩
    · obtain ⟨r', rs', h1, h2⟩ := splitNl_cons (t := t) hq
      rw [h2] at h
      simp only [List.cons.injEq] at h
      obtain ⟨B, hB⟩ := splitNl_head t h1
      exact ⟨B, by rw [← h.1, hB]; rfl⟩
theorem splitNl_stretch : ∀ (X : List TV) {r : List TV}, r ∈ splitNl X → (∃ A B, X = A ++ (r ++ B)) ∧ ∀ q ∈ r, q.1 ≠ nl
  | [], r, h => by simp [splitNl] at h; subst h; exact ⟨⟨[], [], rfl⟩, by simp⟩
  | q :: t, r, h => by
    by_cases hq : q.1 = nl
    · rw [splitNl, if_pos hq] at h
      rcases List.mem_cons.1 h with rfl | h
      · exact ⟨⟨[], q :: t, rfl⟩, by simp⟩
      · obtain ⟨⟨A, B, e⟩, h2⟩ := splitNl_stretch t h
        exact ⟨⟨q :: A, B, by rw [e]; rfl⟩, h2⟩
    · obtain ⟨r', rs', h1, h2⟩ := splitNl_cons (t := t) hq
      rw [h2] at h
      rcases List.mem_cons.1 h with rfl | h
      · obtain ⟨B, hB⟩ := splitNl_head t h1
        refine ⟨⟨[], B, by rw [hB]; rfl⟩, ?_⟩
        intro x hx
        rcases List.mem_cons.1 hx with rfl | hx
        · exact hq
        · exact (splitNl_stretch t (by rw [h1]; simp)).2 x hx
      · obtain ⟨⟨A, B, e⟩, h3⟩ := splitNl_stretch t (r := r) (by rw [h1]; simp [h])
        exact ⟨⟨q :: A, B, by rw [e]; rfl⟩, h3⟩
/-- how many line feeds -/
def feeds (X : List TV) : Nat := (X.filter fun q => decide (q.1 = nl)).length
theorem splitNl_len : ∀ X : List TV, (splitNl X).length = feeds X + 1
  | [] => rfl
  | q :: t => by
    have ih := splitNl_len t
    by_cases hq : q.1 = nl
    · rw [splitNl, if_pos hq, List.length_cons, ih]
      simp [feeds, hq]
    · obtain ⟨r', rs', h1, h2⟩ := splitNl_cons (t := t) hq
      rw [h2]
      rw [h1] at ih
      simp only [List.length_cons] at ih ⊢
      rw [ih]
      simp [feeds, hq]
theorem rowsT_count (X : List TV) : (rowsT X).length = if X.length = 0 then 0 else feeds X + 1 := by
  unfold rowsT
  by_cases h : X = []
  · subst h; rfl
  · rw [if_neg h, if_neg (fun e => h (List.length_eq_zero_iff.1 e)), splitNl_len]
theorem feeds_take {X : List TV} {i : Nat} (h : i < X.length) : feeds (X.take (i + 1)) = feeds (X.take i) + if (X.getD i t0).1 = nl then 1 else 0 := by
  rw [List.take_succ_eq_append_getElem h]
  unfold feeds
  rw [List.filter_append, List.length_append]
  simp only [List.getD_eq_getElem?_getD, List.getElem?_eq_getElem h, Option.getD_some, List.filter_cons, List.filter_nil]
  split <;> simp_all

/-- no word is wider than that -/
def Words (W : Nat) (r : List TV) : Prop := (∀ A Y B, r = A ++ (Y ++ B) → (∀ q ∈ Y, q.1 ≠ sp) → wideT Y ≤ W) ∧ ∀ q ∈ r, q.1 = sp → q.2 ≤ 1
theorem Words.drop {W : Nat} {r : List TV} (h : Words W r) (k : Nat) : Words W (r.drop k) :=
  ⟨fun A Y B e hy => h.1 (r.take k ++ A) Y B (by rw [List.append_assoc, ← e, List.take_append_drop]) hy, fun q hq => h.2 q (List.mem_of_mem_drop hq)⟩
theorem fitT_next : ∀ (r : List TV) (n : Nat), fitT r n < r.length → n < wideT (r.take (fitT r n + 1))
  | [], n, h => by simp at h
  | q :: t, n, h => by
    rw [fitT_cons] at h ⊢
    split at h
    · rename_i hq
      rw [if_pos hq]
      have ih := fitT_next t (n - q.2) (by simpa using h)
      have e : wideT ((q :: t).take (fitT t (n - q.2) + 1 + 1)) = q.2 + wideT (t.take (fitT t (n - q.2) + 1)) := by rw [List.take_succ_cons]; simp [wideT]
      rw [e]; omega
    · rename_i hq
      rw [if_neg hq]
      simp [wideT]; omega
theorem rowL_word (wd fin : Nat) (h1 : 1 ≤ wd) (hf : fin ≤ 1) : ∀ (f : Nat) (r : List TV), Words wd r → ∀ x ∈ rowL wd 0 fin f r, x.fin ≠ 3 ∧ x.lost = e0
  | 0, r, _ => by simp [rowL]
  | f + 1, r, hW => by
    by_cases hw : 0 = 2 ∨ wideT r ≤ wd
    · rw [rowL_whole hw]
      intro x hx
      rw [List.mem_singleton] at hx
      subst hx
      exact ⟨by show fin ≠ 3; omega, rfl⟩
    have hwr : ¬ wideT r ≤ wd := fun e => hw (.inr e)
    have hle := fitT_le r wd
    have hlt : fitT r wd < r.length := by
      rcases Nat.lt_or_ge (fitT r wd) r.length with h | h
      · exact h
      · have := fitT_wide r wd
        rw [List.take_of_length_le h] at this; omega
    have hnx := fitT_next r wd hlt
    have h0 : fitT r wd ≠ 0 := by
      intro e
      rw [e] at hnx
      cases r with
      | nil => simp at hlt
      | cons q t =>
        have e1 : wideT ((q :: t).take (0 + 1)) = q.2 := by simp [wideT]
        rw [e1] at hnx
        by_cases hs : q.1 = sp
        · have := hW.2 q (by simp) hs; omega
        · have := hW.1 [] [q] t rfl (by intro x hx; rw [List.mem_singleton] at hx; subst hx; exact hs)
          have e2 : wideT [q] = q.2 := by simp [wideT]
          omega
    cases hc : cutAt 0 r (fitT r wd) with
    | some j =>
      rw [rowL_blank hw h0 hc]
      intro x hx
      rcases List.mem_cons.1 hx with rfl | hx
      · exact ⟨(by decide : (2 : Nat) ≠ 3), rfl⟩
      · exact rowL_word wd fin h1 hf f _ (hW.drop _) x hx
    | none =>
      exfalso
      unfold cutAt at hc
      rw [if_pos rfl] at hc
      have hns := lastSp_none hc
      have := hW.1 [] (r.take (fitT r wd + 1)) (r.drop (fitT r wd + 1)) (by simp) (by
        intro q hq
        obtain ⟨i, hi, rfl⟩ := List.getElem_of_mem hq
        rw [List.length_take] at hi
        have h2 := hns i (by omega)
        rw [List.getElem_take]
        simpa [List.getD_eq_getElem?_getD, show i < r.length by omega] using h2)
      omega

theorem word_of {X r : List TV} (hr : r ∈ rowsT X) (hsp : ∀ q ∈ X, q.1 = sp → q.2 ≤ 1) {W : Nat} (hW : (leastS 0 X).1 ≤ W) : Words W r := by
  unfold rowsT at hr
  split at hr
  · simp at hr
  obtain ⟨⟨A, B, e⟩, hn⟩ := splitNl_stretch X hr
  refine ⟨fun A' Y B' e' hy => ?_, fun q hq => hsp q (by rw [e]; simp [hq])⟩
  have h := stretch_le (m := 0) (by decide) (X := X) (A := A ++ A') (Y := Y) (B := B' ++ B) (by rw [e, e']; simp) (fun q hq => ⟨hn q (by rw [e']; simp [hq]), fun _ => hy q hq⟩)
  omega
theorem row_wide {X r : List TV} (hr : r ∈ rowsT X) : wideT r ≤ (leastS 2 X).1 := by
  unfold rowsT at hr
  split at hr
  · simp at hr
  obtain ⟨⟨A, B, e⟩, hn⟩ := splitNl_stretch X hr
  exact stretch_le (m := 2) (by decide) e (fun q hq => ⟨hn q hq, fun h => absurd rfl h⟩)
theorem getD_mem {α : Type} {l : List α} {i : Nat} (d : α) (h : i < l.length) : l.getD i d ∈ l := by
  have e : l.getD i d = l[i] := by simp [List.getD_eq_getElem?_getD, h]
  rw [e]; exact List.getElem_mem h
/-- at the widest word's width nothing is cut and nothing is lost -/
theorem linesTo_word (wd : Nat) (h1 : 1 ≤ wd) (all : List (List TV)) (hW : ∀ r ∈ all, Words wd r) : ∀ i, i ≤ all.length → ∀ x ∈ linesTo wd 0 all i, x.fin ≠ 3 ∧ x.lost = e0
  | 0, _ => by simp [linesTo]
  | i + 1, h => by
    intro x hx
    rw [linesTo_next] at hx
    rcases List.mem_append.1 hx with hx | hx
    · exact linesTo_word wd h1 all hW i (by omega) x hx
    · unfold rowOf at hx
      exact rowL_word wd _ h1 (by unfold finOf; split <;> omega) _ _ (hW _ (getD_mem [] (by omega))) x hx
/-- at the widest row's width, and where nothing is wrapped, the lines are the rows -/
def rowLine (all : List (List TV)) (i : Nat) : LV := ⟨joinT (all.getD i []), wideT (all.getD i []), finOf all.length i, e0⟩
theorem linesTo_rows (wd m : Nat) (all : List (List TV)) (hW : m = 2 ∨ ∀ r ∈ all, wideT r ≤ wd) : ∀ i, i ≤ all.length → linesTo wd m all i = (List.range i).map (rowLine all)
  | 0, _ => by simp [linesTo]
  | i + 1, h => by
    rw [linesTo_next, linesTo_rows wd m all hW i (by omega), List.range_succ, List.map_append]
    congr 1
    unfold rowOf
    rw [rowL_whole (hW.imp id (fun h => h _ (getD_mem [] (by omega))))]
    rfl

theorem sp_wide (s : ByteArray) : ∀ q ∈ flow s, q.1 = sp → q.2 ≤ 1 := by
  intro q hq e
  have hq2 : q ∈ told (flowText s) := (List.mem_filter.1 hq).1
  unfold told clu.seen at hq2
  obtain ⟨p, hp, rfl⟩ := List.mem_map.1 hq2
  obtain ⟨h1, -, -⟩ := cl_piece _ _ (Nat.le_refl _) p hp
  have e1 : text p = [32] := by
    have h := congrArg bs e
    rw [bs_str (text_byte p)] at h
    exact h
  have h2 := (text_length p).1
  rw [e1] at h2
  simp only [List.length_cons, List.length_nil] at h2
  obtain ⟨r, rfl⟩ : ∃ r, p = [r] := by
    cases p with
    | nil => exact absurd rfl h1
    | cons r t => cases t with
      | nil => exact ⟨r, rfl⟩
      | cons a b => simp at h2
  have e2 : runes [32] = [fix r] := by rw [← e1, runes_text]; rfl
  have e3 : fix r = 32 := by
    have h : runes [32] = [32] := by decide +kernel
    rw [h] at e2
    simpa using e2.symm
  have e4 : r = 32 := by
    unfold fix at e3
    split at e3
    · exact e3
    · exact absurd e3 (by decide)
  subst e4
  show wide [32] ≤ 1
  decide +kernel

end Go.Proofs.Ytmjmmoecplndmaa.wrp
