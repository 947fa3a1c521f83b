/-
  Plain facts of the layer wrap: each line takes in what it can.
-/
import Derived.Test.YtmjmmoecplndmaaWrpFitsPlain
import Derived.Test.YtmjmmoecplndmaaLinPlain
import Derived.Test.YtmjmmoecplndmaaCluWidth
import Derived.Test.YtmjmmoecplndmaaCluOne
namespace Go.Proofs.Ytmjmmoecplndmaa.wrp
open Go.Proofs.Ytmjmmoecplndmaa.wid Go.Proofs.Ytmjmmoecplndmaa.utf Go.Proofs.Ytmjmmoecplndmaa.clu
set_option linter.unusedVariables false
/-- a line that is told of a rest of a row, d clusters of which it takes away -/
def Starts (wd m fin : Nat) (r : List TV) (y : LV) (d : Nat) : Prop :=
  (∃ n, y.lost = e0 ∧ y.text = joinT (r.take n) ∧ y.width = wideT (r.take n) ∧ n ≤ r.length ∧ (m = 2 ∨ y.width ≤ wd) ∧
    ((n = r.length ∧ y.fin = fin) ∨
     (y.fin = 2 ∧ m = 0 ∧ n < r.length ∧ (r.getD n t0).1 = sp ∧ d = n + 1 ∧ ∃ k, n ≤ k ∧ k < r.length ∧ wd < wideT (r.take (k + 1)) ∧ ∀ j, n < j → j ≤ k → (r.getD j t0).1 ≠ sp) ∨
     (y.fin = 3 ∧ m ≠ 2 ∧ 1 ≤ n ∧ n < r.length ∧ wd < wideT (r.take (n + 1)) ∧ (m = 0 → ∀ j, j ≤ n → (r.getD j t0).1 ≠ sp) ∧ d = n))) ∨
  (m ≠ 2 ∧ 1 ≤ r.length ∧ y.lost = (r.getD 0 t0).1 ∧ y.text = spaces wd ∧ y.width = wd ∧ wd < (r.getD 0 t0).2 ∧ d = 1 ∧ ((y.fin = 3 ∧ 1 < r.length) ∨ (y.fin = fin ∧ r.length = 1)))
/-- lines that stand one behind the other, rest behind rest -/
def Chained (wd m : Nat) (Q : List TV → Prop) (L : List LV) : Prop := ∀ i x, L[i]? = some x → ∃ r fin d, Q r ∧ fin ≤ 1 ∧ Starts wd m fin r x d ∧ (2 ≤ x.fin → ∃ y d', L[i + 1]? = some y ∧ Starts wd m fin (r.drop d) y d')
theorem Chained.append {wd m : Nat} {Q : List TV → Prop} {A B : List LV} (hA : Chained wd m Q A) (hB : Chained wd m Q B) : Chained wd m Q (A ++ B) := by
  intro i x hx
  rcases Nat.lt_or_ge i A.length with h | h
  · rw [List.getElem?_append_left h] at hx
    obtain ⟨r, fin, d, hq, hf, hs, hn⟩ := hA i x hx
    refine ⟨r, fin, d, hq, hf, hs, fun h2 => ?_⟩
    obtain ⟨y, d', hy, hs'⟩ := hn h2
    refine ⟨y, d', ?_, hs'⟩
    rw [List.getElem?_append_left (List.getElem?_eq_some_iff.1 hy).1]
    exact hy
  · rw [List.getElem?_append_right h] at hx
    obtain ⟨r, fin, d, hq, hf, hs, hn⟩ := hB _ x hx
    refine ⟨r, fin, d, hq, hf, hs, fun h2 => ?_⟩
    obtain ⟨y, d', hy, hs'⟩ := hn h2
    refine ⟨y, d', ?_, hs'⟩
    rw [List.getElem?_append_right (by omega), show i + 1 - A.length = i - A.length + 1 by omega]
    exact hy
theorem drop1 {r : List TV} (h : 1 ≤ r.length) : (r.take 1) = [r.getD 0 t0] := by
  cases r with
  | nil => simp at h
  | cons q t => rfl
theorem fitT_zero {r : List TV} {n : Nat} (h : ¬ wideT r ≤ n) (h0 : fitT r n = 0) : 1 ≤ r.length ∧ n < (r.getD 0 t0).2 := by
  cases r with
  | nil => exact absurd (Nat.zero_le n) h
  | cons q t =>
    rw [fitT_cons] at h0
    split at h0
    · omega
    · refine ⟨by simp, ?_⟩
      show n < q.2
      omega
theorem lastSp_after {X : List TV} : ∀ {k j : Nat}, lastSp X k = some j → ∀ i, j < i → i ≤ k → (X.getD i t0).1 ≠ sp
  | 0, j, h, i, h1, h2 => by omega
  | k + 1, j, h, i, h1, h2 => by
    unfold lastSp at h
    split at h
    · cases h; omega
    · rename_i e
      by_cases hi : i = k + 1
      · subst hi; exact e
      · exact lastSp_after h i h1 (by omega)
theorem rowL_chain (wd m fin : Nat) (hf : fin ≤ 1) : ∀ (f : Nat) (r : List TV), r.length < f → (∃ y d t, rowL wd m fin f r = y :: t ∧ Starts wd m fin r y d) ∧ ∀ (Q : List TV → Prop), (∀ e, Q (r.drop e)) → Chained wd m Q (rowL wd m fin f r)
  | 0, r, h => by omega
  | f + 1, r, h => by
    by_cases hw : m = 2 ∨ wideT r ≤ wd
    · rw [rowL_whole hw]
      have hs : Starts wd m fin r ⟨joinT r, wideT r, fin, e0⟩ 0 := .inl ⟨r.length, rfl, by rw [List.take_of_length_le (Nat.le_refl _)], by rw [List.take_of_length_le (Nat.le_refl _)], Nat.le_refl _, hw, .inl ⟨rfl, rfl⟩⟩
      refine ⟨⟨_, 0, _, rfl, hs⟩, fun Q hQ i x hx => ?_⟩
      have h0 : i = 0 := by have := (List.getElem?_eq_some_iff.1 hx).1; simpa using this
      subst h0
      simp only [List.getElem?_cons_zero, Option.some.injEq] at hx
      subst hx
      exact ⟨r, fin, 0, by simpa using hQ 0, hf, hs, fun h2 => by simp only at h2; omega⟩
    · have hwn : ¬ wideT r ≤ wd := fun h => hw (.inr h)
      have hm2 : m ≠ 2 := fun h => hw (.inl h)
      have more : ∀ (y : LV) (d : Nat), 1 ≤ d → d ≤ r.length → Starts wd m fin r y d → rowL wd m fin (f + 1) r = y :: rowL wd m fin f (r.drop d) →
          (∃ y d t, rowL wd m fin (f + 1) r = y :: t ∧ Starts wd m fin r y d) ∧ ∀ (Q : List TV → Prop), (∀ e, Q (r.drop e)) → Chained wd m Q (rowL wd m fin (f + 1) r) := by
        intro y d h1 h2 hs he
        rw [he]
        refine ⟨⟨y, d, _, rfl, hs⟩, fun Q hQ i x hx => ?_⟩
        obtain ⟨⟨y2, d2, t2, e2, hs2⟩, hc⟩ := rowL_chain wd m fin hf f (r.drop d) (by rw [List.length_drop]; omega)
        cases i with
        | zero =>
          simp only [List.getElem?_cons_zero, Option.some.injEq] at hx
          subst hx
          exact ⟨r, fin, d, by simpa using hQ 0, hf, hs, fun _ => ⟨y2, d2, by rw [e2]; rfl, hs2⟩⟩
        | succ i =>
          rw [List.getElem?_cons_succ] at hx
          obtain ⟨r', fin', d', hq, hf', hs', hn⟩ := hc Q (fun e => by rw [List.drop_drop]; exact hQ _) i x hx
          refine ⟨r', fin', d', hq, hf', hs', fun h2 => ?_⟩
          obtain ⟨y3, d3, hy3, hs3⟩ := hn h2
          exact ⟨y3, d3, by rw [List.getElem?_cons_succ]; exact hy3, hs3⟩
      by_cases h0 : fitT r wd = 0
      · obtain ⟨hl, hwd⟩ := fitT_zero hwn h0
        by_cases hd : r.length ≤ 1
        · rw [rowL_last hw h0 hd]
          have hs : Starts wd m fin r ⟨spaces wd, wd, fin, (r.getD 0 t0).1⟩ 1 := .inr ⟨hm2, hl, rfl, rfl, rfl, hwd, rfl, .inr ⟨rfl, by omega⟩⟩
          refine ⟨⟨_, 1, _, rfl, hs⟩, fun Q hQ i x hx => ?_⟩
          have hi0 : i = 0 := by have := (List.getElem?_eq_some_iff.1 hx).1; simpa using this
          subst hi0
          simp only [List.getElem?_cons_zero, Option.some.injEq] at hx
          subst hx
          exact ⟨r, fin, 1, by simpa using hQ 0, hf, hs, fun h2 => by simp only at h2; omega⟩
        · exact more _ 1 (Nat.le_refl _) hl (.inr ⟨hm2, hl, rfl, rfl, rfl, hwd, rfl, .inl ⟨rfl, by omega⟩⟩) (rowL_lost hw h0 (by omega))
      · obtain ⟨hk1, hk2⟩ := (show 0 < fitT r wd ∧ fitT r wd < r.length from ⟨by omega, by
          rcases Nat.lt_or_ge (fitT r wd) r.length with h1 | h1
          · exact h1
          · exfalso
            have h2 := fitT_wide r wd
            rw [List.take_of_length_le h1] at h2
            exact hwn h2⟩)
        have hnx := fitT_next r wd hk2
        have hfw := fitT_wide r wd
        cases hc : cutAt m r (fitT r wd) with
        | some j =>
          have hm0 : m = 0 := by
            unfold cutAt at hc
            split at hc
            · assumption
            · cases hc
          have hls : lastSp r (fitT r wd) = some j := by unfold cutAt at hc; rw [if_pos hm0] at hc; exact hc
          obtain ⟨hj1, hj2⟩ := lastSp_le hls
          have hno : ∀ i, j < i → i ≤ fitT r wd → (r.getD i t0).1 ≠ sp := lastSp_after hls
          refine more _ (j + 1) (by omega) (by omega) (.inl ⟨j, rfl, rfl, rfl, by omega, .inr ?_, .inr (.inl ⟨rfl, hm0, by omega, hj2, rfl, fitT r wd, hj1, hk2, hnx, hno⟩)⟩) (rowL_blank hw h0 hc)
          show wideT (r.take j) ≤ wd
          have : wideT (r.take (fitT r wd)) = wideT (r.take j) + wideT ((r.drop j).take (fitT r wd - j)) := by
            rw [← wideT_append, ← List.take_add]
            congr 2
            omega
          omega
        | none =>
          refine more _ (fitT r wd) (by omega) (by omega) (.inl ⟨fitT r wd, rfl, rfl, rfl, by omega, .inr hfw, .inr (.inr ⟨rfl, hm2, by omega, hk2, hnx, fun hm0 j hj => ?_, rfl⟩)⟩) (rowL_cut hw h0 hc)
          unfold cutAt at hc
          rw [if_pos hm0] at hc
          exact lastSp_none hc j hj
theorem linesTo_chain (wd m : Nat) (all : List (List TV)) (Q : List TV → Prop) (hQ : ∀ r ∈ all, ∀ e, Q (r.drop e)) : ∀ i, i ≤ all.length → Chained wd m Q (linesTo wd m all i)
  | 0, _ => fun i x hx => by simp [linesTo] at hx
  | i + 1, h => by
    rw [linesTo_next]
    refine (linesTo_chain wd m all Q hQ i (by omega)).append ?_
    unfold rowOf
    refine (rowL_chain wd m (finOf all.length i) (by unfold finOf; split <;> omega) _ _ (Nat.lt_succ_self _)).2 Q (hQ _ ?_)
    rw [List.getD_eq_getElem?_getD, List.getElem?_eq_getElem (show i < all.length by omega)]
    exact List.getElem_mem _
/-- a line of so many bytes at most -/
def LinM (M : Nat) (r : List TV) : Prop := Lin r ∧ (bytesT r).length ≤ M
theorem bytes_part (r : List TV) (a n : Nat) : (bytesT ((r.drop a).take n)).length ≤ (bytesT r).length := by
  have h1 : bytesT r = bytesT (r.take a) ++ (bytesT ((r.drop a).take n) ++ bytesT ((r.drop a).drop n)) := by rw [← bytesT_append, List.take_append_drop, ← bytesT_append, List.take_append_drop]
  have h2 := congrArg List.length h1
  rw [List.length_append, List.length_append] at h2
  omega
theorem bytes_drop (r : List TV) (a : Nat) : (bytesT (r.drop a)).length ≤ (bytesT r).length := by
  have h1 : bytesT r = bytesT (r.take a) ++ bytesT (r.drop a) := by rw [← bytesT_append, List.take_append_drop]
  have h2 := congrArg List.length h1
  rw [List.length_append] at h2
  omega
theorem LinM.drop {M : Nat} {r : List TV} (h : LinM M r) (e : Nat) : LinM M (r.drop e) := ⟨h.1.drop e, Nat.le_trans (bytes_drop r e) h.2⟩
/-- a row of a text's flow is a line -/
theorem lin_row {s : ByteArray} {r : List TV} (h : r ∈ rowsT (flow s)) : LinM (4 * s.size) r := by
  have hr : r ∈ splitNl (flow s) := by
    unfold rowsT at h
    split at h
    · simp at h
    · exact h
  obtain ⟨⟨A, B, e⟩, hn⟩ := splitNl_stretch _ hr
  have h1 := (lin_line s).1
  unfold lineW at h1
  rw [e, List.map_append, List.map_append] at h1
  have h2 := (h1.drop (A.map shown2).length).take (r.map shown2).length
  rw [List.drop_left, List.take_left] at h2
  have e3 : r.map shown2 = r := by
    conv => rhs; rw [← List.map_id r]
    apply List.map_congr_left
    intro q hq
    unfold shown2
    rw [if_neg (hn q hq)]
    rfl
  rw [e3] at h2
  refine ⟨h2, ?_⟩
  have h4 := (lin_line s).2
  unfold lineW at h4
  rw [e, List.map_append, List.map_append, e3, bytesT_append, bytesT_append, List.length_append, List.length_append] at h4
  have h5 := flowText_size s
  rw [bs_length] at h4
  omega
theorem lines_chain (s : ByteArray) (wd mode : Int) : Chained wd.toNat (modeOf mode) (LinM (4 * s.size)) (linesT s wd mode) := by
  unfold linesT
  split
  · intro i x hx
    simp at hx
  · exact linesTo_chain _ _ _ _ (fun r hr e => (lin_row hr).drop e) _ (Nat.le_refl _)
/-! WHAT THE LAW ASKS OF EACH LINE -/
theorem bs_joinT (Y : List TV) : bs (joinT Y) = bytesT Y := by
  unfold joinT catL bytesT bs
  rw [List.map_flatMap]
theorem lin_width2 {Y : List TV} (h : Lin Y) {s : ByteArray} (hs : bs s = bytesT Y) : clu.width s = wideT Y := by
  obtain ⟨Y0, rfl, h1, h2, h3⟩ := h
  have hr := lin_runes (Z0 := []) (s := s) h3 (fun _ h => (by cases h)) (by rw [hs]; simp [bytesT, clu.seen])
  rw [List.flatten_nil, List.append_nil] at hr
  unfold clu.width
  rw [hr, cl_chn h1]
  unfold wsum wideT clu.seen
  rw [List.map_map]
  rfl
theorem chn_blanks : ∀ i, Chn (List.replicate i [32])
  | 0 => trivial
  | i + 1 => by
    rw [List.replicate_succ]
    refine ⟨whole_blank, fun q t e => ?_, chn_blanks i⟩
    have hq : q ∈ List.replicate i [(32 : Int)] := by rw [e]; exact List.mem_cons_self ..
    rw [List.eq_of_mem_replicate hq]
    exact stops_blank whole_blank
theorem lin_blanks (i : Nat) : Lin (List.replicate i (sp, 1)) := by
  refine ⟨List.replicate i [32], ?_, chn_blanks i, ?_, ?_⟩
  · unfold clu.seen
    rw [List.map_replicate]
    congr 1
  · intro p hp
    rw [List.eq_of_mem_replicate hp]
    decide
  · intro p hp r hr
    rw [List.eq_of_mem_replicate hp, List.mem_singleton] at hr
    subst hr
    exact ⟨by decide, by rw [kind_blank]; decide⟩
theorem width_spaces (n : Nat) : clu.width (spaces n) = n := by
  have h : bs (spaces n) = bytesT (List.replicate n (sp, 1)) := by
    unfold spaces bs bytesT
    rw [List.map_replicate]
    induction n with
    | zero => rfl
    | succ n ih =>
      rw [List.replicate_succ, List.replicate_succ, List.flatMap_cons, ← ih]
      rfl
  rw [lin_width2 (lin_blanks n) h]
  unfold wideT
  rw [List.map_replicate, List.sum_replicate_nat]
  omega
theorem lin_oneOk {q : TV} (h : Lin [q]) : oneOk q.1 ∧ clu.wide (runes (bs q.1)) = q.2 := by
  obtain ⟨Y0, e, h1, h2, h3⟩ := h
  match Y0, e with
  | [p], e =>
    have eq : q = (str (text p), clu.wide p) := by simpa [clu.seen] using e
    subst eq
    have hr : runes (bs (str (text p))) = p := by
      rw [bs_str (text_byte _), runes_text, map_fix_of_char (fun r hr => (h3 p (List.mem_cons_self ..) r hr).1)]
    have hc := cl_chn h1
    rw [List.flatten_cons, List.flatten_nil, List.append_nil] at hc
    unfold oneOk
    dsimp only
    rw [hr, hc]
    exact ⟨⟨rfl, rfl⟩, rfl⟩
/-- what is told of the next line -/
def restOf (y : LV) : List TV := if y.lost = e0 then flow y.text else flow y.lost
def wordF (e3 : Bool) : List TV → Nat → Bool → Nat × Bool
  | [], n, wh => (n, wh)
  | q :: t, n, wh => if q.1 = sp then (n, wh) else wordF e3 t (n + q.2) (decide (t ≠ []) || !e3)
theorem word_mono (e3 : Bool) : ∀ (Y : List TV) (n : Nat) (wh : Bool), n ≤ (wordF e3 Y n wh).1
  | [], n, wh => Nat.le_refl _
  | q :: t, n, wh => by
    unfold wordF
    split
    · exact Nat.le_refl _
    · have := word_mono e3 t (n + q.2) (decide (t ≠ []) || !e3)
      omega
theorem word_big {wd : Nat} (e3 : Bool) : ∀ (Y : List TV) (n : Nat) (wh : Bool) (c : Nat), c ≤ Y.length → (∀ j, j < c → (Y.getD j t0).1 ≠ sp) → wd < n + wideT (Y.take c) → wd < (wordF e3 Y n wh).1
  | Y, n, wh, 0, _, _, h => by
    have := word_mono e3 Y n wh
    have e : wideT (Y.take 0) = 0 := by rw [List.take_zero]; rfl
    omega
  | [], n, wh, c + 1, hc, _, _ => by simp at hc
  | q :: t, n, wh, c + 1, hc, hs, h => by
    have h0 : q.1 ≠ sp := hs 0 (by omega)
    unfold wordF
    rw [if_neg h0]
    refine word_big e3 t (n + q.2) _ c (by simpa using hc) (fun j hj => hs (j + 1) (by omega)) ?_
    have e : wideT ((q :: t).take (c + 1)) = q.2 + wideT (t.take c) := by unfold wideT; rw [List.take_succ_cons, List.map_cons, List.sum_cons]
    omega
theorem word_cut : ∀ (Y : List TV) (n : Nat) (wh : Bool), Y ≠ [] → (∀ q ∈ Y, q.1 ≠ sp) → (wordF true Y n wh).2 = false
  | [], n, wh, h, _ => absurd rfl h
  | [q], n, wh, _, hs => by
    unfold wordF
    rw [if_neg (hs q (List.mem_cons_self ..))]
    rfl
  | q :: a :: t, n, wh, _, hs => by
    unfold wordF
    rw [if_neg (hs q (List.mem_cons_self ..))]
    exact word_cut (a :: t) _ _ (by simp) (fun x hx => hs x (List.mem_cons_of_mem _ hx))
structure GreedyOk (M wd m : Nat) (L : List LV) (i : Nat) (x : LV) : Prop where
  size : x.text.size ≤ M + 2 ∧ x.lost.size ≤ M
  wid : clu.width x.text = x.width
  le : m ≠ 2 → x.width ≤ wd
  none : m = 2 → x.fin ≤ 1
  lost : x.lost ≠ e0 → oneOk x.lost ∧ wd < clu.wide (runes (bs x.lost)) ∧ x.width = wd
  fins : x.fin ≤ 3
  next : x.lost = e0 → 2 ≤ x.fin → ∃ y, L[i + 1]? = some y ∧ (x.fin = 2 → m = 0) ∧
    (x.fin = 3 → restOf y ≠ [] ∧ wd < x.width + ((restOf y).getD 0 t0).2 ∧ (m = 0 → (∀ q ∈ flow x.text, q.1 ≠ sp) ∧ ((restOf y).getD 0 t0).1 ≠ sp)) ∧
    (x.fin = 2 → (wordF (decide (y.fin = 3)) (restOf y) (x.width + 1) true).2 = true → wd < (wordF (decide (y.fin = 3)) (restOf y) (x.width + 1) true).1)
theorem lin_ne {r : List TV} (h : Lin r) (hl : 1 ≤ r.length) : (r.getD 0 t0).1 ≠ e0 := by
  cases r with
  | nil => simp at hl
  | cons q t =>
    have := (h.wide q (List.mem_cons_self ..)).2.1
    show q.1 ≠ e0
    intro e
    rw [e] at this
    exact absurd this (by decide)
/-- what the next line tells is a beginning of what is left -/
theorem rest_is {wd m fin d : Nat} {r : List TV} {y : LV} (hr : Lin r) (h : Starts wd m fin r y d) : ∃ n, n ≤ r.length ∧ restOf y = r.take n ∧
    ((n = r.length) ∨ (y.fin = 2 ∧ m = 0 ∧ n < r.length ∧ (r.getD n t0).1 = sp) ∨ (y.fin = 3 ∧ 1 ≤ n ∧ n < r.length)) := by
  rcases h with ⟨n, h1, h2, -, h4, -, h6⟩ | ⟨h1, h2, h3, h4, -, h5, -, h7⟩
  · refine ⟨n, h4, ?_, ?_⟩
    · unfold restOf
      rw [if_pos h1, h2]
      exact (hr.take n).flow (bs_joinT _)
    · rcases h6 with ⟨h, -⟩ | ⟨ha, hb, hc, hd, -⟩ | ⟨ha, -, hb, hc, -⟩
      · exact .inl h
      · exact .inr (.inl ⟨ha, hb, hc, hd⟩)
      · exact .inr (.inr ⟨ha, hb, hc⟩)
  · refine ⟨1, h2, ?_, ?_⟩
    · unfold restOf
      rw [if_neg (by rw [h3]; exact lin_ne hr h2), h3]
      refine (hr.take 1).flow ?_
      rw [drop1 h2]
      unfold bytesT
      simp
    · rcases h7 with ⟨h, h'⟩ | ⟨-, h⟩
      · exact .inr (.inr ⟨h, Nat.le_refl _, h'⟩)
      · exact .inl h.symm
theorem take_head {r : List TV} {n : Nat} (h : 1 ≤ n) : (r.take n).getD 0 t0 = r.getD 0 t0 := by
  cases r with
  | nil => simp
  | cons q t =>
    cases n with
    | zero => omega
    | succ n => rfl
theorem getD_dropn (r : List TV) (n j : Nat) : (r.drop n).getD j t0 = r.getD (n + j) t0 := by simp [List.getD_eq_getElem?_getD, List.getElem?_drop]
theorem getD_takeT {r : List TV} {n j : Nat} (h : j < n) : (r.take n).getD j t0 = r.getD j t0 := by
  rw [List.getD_eq_getElem?_getD, List.getD_eq_getElem?_getD, List.getElem?_take_of_lt h]
theorem greedy_at {M wd m : Nat} {L : List LV} {i : Nat} {x : LV} (hsp : ∀ r, Lin r → ∀ q ∈ r, q.1 = sp → q.2 ≤ 1) (h : Chained wd m (LinM M) L) (hx : L[i]? = some x) : GreedyOk M wd m L i x := by
  obtain ⟨r, fin, d, ⟨hr, hrM⟩, hf, hs, hn⟩ := h i x hx
  rcases hs with ⟨n, h1, h2, h3, h4, h5, h6⟩ | ⟨h1, h2, h3, h4, h5, h5b, h5c, h7⟩
  · refine ⟨⟨?_, by rw [h1]; exact Nat.zero_le _⟩, ?_, ?_, ?_, fun h => absurd h1 h, ?_, fun _ hfin => ?_⟩
    · rw [h2, ← bs_length, bs_joinT]
      have := bytes_part r 0 n
      rw [List.drop_zero] at this
      omega
    · rw [h2, h3]
      exact lin_width2 (hr.take n) (bs_joinT _)
    · intro hm
      exact h5.resolve_left hm
    · intro hm
      rcases h6 with ⟨-, h⟩ | ⟨-, h, -⟩ | ⟨-, h, -⟩
      · omega
      · omega
      · exact absurd hm h
    · rcases h6 with ⟨-, h⟩ | ⟨h, -⟩ | ⟨h, -⟩ <;> omega
    · obtain ⟨y, d', hy, hys⟩ := hn hfin
      refine ⟨y, hy, fun h => ?_, fun h3f => ?_, fun h2f hwh => ?_⟩
      · rcases h6 with ⟨-, h'⟩ | ⟨-, h', -⟩ | ⟨h', -⟩
        · omega
        · exact h'
        · omega
      · rcases h6 with ⟨-, h'⟩ | ⟨h', -⟩ | ⟨-, hm2, hn1, hnl, hnw, hno, hd⟩
        · omega
        · omega
        · subst hd
          obtain ⟨n', hn', hrest, hcase⟩ := rest_is (hr.drop _) hys
          rw [List.length_drop] at hn' hcase
          have hn1' : 1 ≤ n' := by
            rcases hcase with hc | ⟨-, hm0, -, hc⟩ | ⟨-, hc, -⟩
            · omega
            · rcases Nat.eq_zero_or_pos n' with h0 | h0
              · subst h0
                rw [getD_dropn] at hc
                exact absurd hc (hno hm0 _ (by omega))
              · exact h0
            · exact hc
          have hh : (restOf y).getD 0 t0 = r.getD d t0 := by rw [hrest, take_head hn1', getD_dropn, Nat.add_zero]
          refine ⟨?_, ?_, fun hm0 => ⟨?_, ?_⟩⟩
          · rw [hrest]
            intro e
            have := congrArg List.length e
            rw [List.length_take, List.length_drop, List.length_nil] at this
            omega
          · rw [hh, h3, ← wideT_take hnl]
            exact hnw
          · rw [h2, (hr.take d).flow (bs_joinT _)]
            intro q hq
            obtain ⟨j, hj, rfl⟩ := List.getElem_of_mem hq
            rw [List.length_take] at hj
            have := hno hm0 j (by omega)
            rw [List.getElem_take]
            simpa [List.getD_eq_getElem?_getD, show j < r.length by omega] using this
          · rw [hh]
            exact hno hm0 d (Nat.le_refl _)
      · rcases h6 with ⟨-, h'⟩ | ⟨-, hm0, hnl, hnsp, hd, k, hk1, hk2, hkw, hkn⟩ | ⟨h', -⟩
        · omega
        · subst hd
          obtain ⟨n', hn', hrest, hcase⟩ := rest_is (hr.drop _) hys
          rw [List.length_drop] at hn' hcase
          have hb1 : (r.getD n t0).2 ≤ 1 := hsp r hr _ (by
            rw [List.getD_eq_getElem?_getD, List.getElem?_eq_getElem hnl]
            exact List.getElem_mem _) hnsp
          have hwk : wideT (r.take (k + 1)) = wideT (r.take n) + (r.getD n t0).2 + wideT ((r.drop (n + 1)).take (k - n)) := by
            rw [← wideT_take hnl, ← wideT_append, ← List.take_add]
            congr 2
            omega
          by_cases hKn : k - n ≤ n'
          · refine word_big (wd := wd) _ _ _ _ (k - n) ?_ ?_ ?_
            · rw [hrest, List.length_take, List.length_drop]
              omega
            · intro j hj
              rw [hrest, getD_takeT (by omega), getD_dropn]
              exact hkn _ (by omega) (by omega)
            · rw [hrest, List.take_take, Nat.min_eq_left hKn]
              omega
          · exfalso
            rcases hcase with hc | ⟨-, -, -, hc⟩ | ⟨hy3, hc, -⟩
            · omega
            · rw [getD_dropn] at hc
              exact hkn _ (by omega) (by omega) hc
            · rw [decide_eq_true hy3, word_cut] at hwh
              · cases hwh
              · rw [hrest]
                intro e
                have := congrArg List.length e
                rw [List.length_take, List.length_drop, List.length_nil] at this
                omega
              · rw [hrest]
                intro q hq
                obtain ⟨j, hj, rfl⟩ := List.getElem_of_mem hq
                rw [List.length_take, List.length_drop] at hj
                have := hkn (n + 1 + j) (by omega) (by omega)
                rw [List.getElem_take, List.getElem_drop]
                simpa [List.getD_eq_getElem?_getD, show n + 1 + j < r.length by omega] using this
        · omega
  · have hone := lin_oneOk (q := r.getD 0 t0) (by have := hr.take 1; rw [drop1 h2] at this; exact this)
    have hb := bytes_part r 0 1
    rw [List.drop_zero, drop1 h2] at hb
    have hb2 : (bytesT [r.getD 0 t0]).length = (r.getD 0 t0).1.size := by unfold bytesT; simp [bs_length]
    have hw2 : (r.getD 0 t0).2 ≤ 2 := by rw [← hone.2]; exact clu.wide_le _
    refine ⟨⟨?_, by rw [h3]; omega⟩, ?_, fun _ => by omega, fun hm => absurd hm h1, fun _ => ?_, ?_, fun h => ?_⟩
    · rw [h4]
      have : (spaces wd).size = wd := by unfold spaces; simp [ByteArray.size]
      omega
    · rw [h4, h5]
      exact width_spaces wd
    · rw [h3]
      exact ⟨hone.1, by rw [hone.2]; exact h5b, h5⟩
    · rcases h7 with ⟨h, -⟩ | ⟨h, -⟩ <;> omega
    · rw [h3] at h
      exact absurd h (lin_ne hr h2)
theorem lin_sp {r : List TV} (h : Lin r) : ∀ q ∈ r, q.1 = sp → q.2 ≤ 1 := by
  obtain ⟨Y0, rfl, h1, h2, h3⟩ := h
  intro q hq he
  unfold clu.seen at hq
  obtain ⟨p, hp, rfl⟩ := List.mem_map.1 hq
  have e2 : bs (str (text p)) = [32] := by
    show bs (str (text p)) = bs sp
    rw [show str (text p) = sp from he]
  rw [bs_str (text_byte _)] at e2
  have e3 := runes_text p
  rw [map_fix_of_char (fun r hr => (h3 p hp r hr).1), e2] at e3
  have e4 : p = [32] := e3.symm.trans (by decide)
  rw [e4]
  decide
theorem lines_greedy (s : ByteArray) (wd mode : Int) {i : Nat} {x : LV} (hx : (linesT s wd mode)[i]? = some x) : GreedyOk (4 * s.size) wd.toNat (modeOf mode) (linesT s wd mode) i x := greedy_at (fun r hr => lin_sp hr) (lines_chain s wd mode) hx
end Go.Proofs.Ytmjmmoecplndmaa.wrp
