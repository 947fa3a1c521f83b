/-
  Lines: clusters of a text whose line feeds are made blanks. A stretch of them is the clusters of its own text. Plain facts, no program in sight.
-/
import Derived.Test.YtgpgbbbcodnieaaLinChn
import Derived.Test.YtgpgbbbcodnieaaWrpPlain
namespace Go.Proofs.Ytgpgbbbcodnieaa.wrp
open Go.Proofs.Ytgpgbbbcodnieaa.wid Go.Proofs.Ytgpgbbbcodnieaa.utf Go.Proofs.Ytgpgbbbcodnieaa.clu
set_option linter.unusedVariables false
/-- the bytes of clusters -/
def bytesT (Y : List TV) : List Nat := Y.flatMap fun q => bs q.1
theorem bytesT_append (A B : List TV) : bytesT (A ++ B) = bytesT A ++ bytesT B := by unfold bytesT; rw [List.flatMap_append]
theorem bytesT_seen : ∀ l : List (List Int), bytesT (clu.seen l) = text l.flatten
  | [] => rfl
  | p :: t => by
    have e : bytesT (clu.seen (p :: t)) = bs (str (text p)) ++ bytesT (clu.seen t) := rfl
    rw [e, bytesT_seen t, bs_str (text_byte _), List.flatten_cons, text_append]
/-- these are clusters that stand as they are, without controls, and none is nothing wide -/
def Lin (Y : List TV) : Prop := ∃ Y0, Y = clu.seen Y0 ∧ Chn Y0 ∧ (∀ p ∈ Y0, wide p ≠ 0) ∧ ∀ p ∈ Y0, ∀ r ∈ p, isChar r = true ∧ kind r ≠ 1
theorem Lin.nil : Lin [] := ⟨[], rfl, trivial, fun _ h => (by cases h), fun _ h => (by cases h)⟩
theorem Lin.drop {Y : List TV} (h : Lin Y) (a : Nat) : Lin (Y.drop a) := by
  obtain ⟨Y0, rfl, h1, h2, h3⟩ := h
  exact ⟨Y0.drop a, by unfold clu.seen; rw [List.map_drop], chn_drop a h1, fun p hp => h2 p (List.mem_of_mem_drop hp), fun p hp => h3 p (List.mem_of_mem_drop hp)⟩
theorem Lin.take {Y : List TV} (h : Lin Y) (a : Nat) : Lin (Y.take a) := by
  obtain ⟨Y0, rfl, h1, h2, h3⟩ := h
  exact ⟨Y0.take a, by unfold clu.seen; rw [List.map_take], chn_take a h1, fun p hp => h2 p (List.mem_of_mem_take hp), fun p hp => h3 p (List.mem_of_mem_take hp)⟩
theorem kind_nine : kind 9 = 1 := by decide
theorem flat_ok {Y0 : List (List Int)} (h3 : ∀ p ∈ Y0, ∀ r ∈ p, isChar r = true ∧ kind r ≠ 1) : ∀ r ∈ Y0.flatten, isChar r = true ∧ kind r ≠ 1 := by
  intro r hr
  obtain ⟨p, hp, hr⟩ := List.mem_flatten.1 hr
  exact h3 p hp r hr
theorem kept_ok {l : List Int} (h : ∀ r ∈ l, kind r ≠ 1) : (kept l).map blank1 = l := by
  have e : kept l = l := by
    unfold kept
    rw [List.filter_eq_self]
    intro r hr
    unfold del1
    rw [decide_eq_false (fun h2 => h r hr h2.2.2)]
    rfl
  rw [e]
  conv => rhs; rw [← List.map_id l]
  apply List.map_congr_left
  intro r hr
  unfold blank1
  rw [if_neg (by rintro rfl; exact h _ hr kind_nine)]
  rfl
theorem lin_runes {Y0 Z0 : List (List Int)} {s : ByteArray} (h3 : ∀ p ∈ Y0, ∀ r ∈ p, isChar r = true ∧ kind r ≠ 1) (h4 : ∀ p ∈ Z0, ∀ r ∈ p, isChar r = true ∧ kind r ≠ 1) (hs : bs s = bytesT (clu.seen Y0) ++ bytesT (clu.seen Z0)) : runes (bs s) = Y0.flatten ++ Z0.flatten := by
  rw [hs, bytesT_seen, bytesT_seen, runes_text_append, runes_text, map_fix_of_char (fun r hr => (flat_ok h3 r hr).1), map_fix_of_char (fun r hr => (flat_ok h4 r hr).1)]
/-- two lines in one: nothing is struck -/
theorem flowText_lin2 {A B : List TV} (hA : Lin A) (hB : Lin B) {s : ByteArray} (hs : bs s = bytesT A ++ bytesT B) : flowText s = s := by
  obtain ⟨Y0, rfl, -, -, h3⟩ := hA
  obtain ⟨Z0, rfl, -, -, h4⟩ := hB
  have hr := lin_runes h3 h4 hs
  unfold flowText
  rw [hr, kept_ok (fun r hr => by
    rcases List.mem_append.1 hr with hr | hr
    · exact (flat_ok h3 r hr).2
    · exact (flat_ok h4 r hr).2), text_append, ← bytesT_seen, ← bytesT_seen, ← hs, str_bs]
theorem Lin.told {Y : List TV} (h : Lin Y) {s : ByteArray} (hs : bs s = bytesT Y) : told s = Y := by
  obtain ⟨Y0, rfl, h1, h2, h3⟩ := h
  have hr := lin_runes (Z0 := []) (s := s) h3 (fun _ h => (by cases h)) (by rw [hs]; simp [bytesT, clu.seen])
  unfold clu.told
  rw [hr, List.flatten_nil, List.append_nil, cl_chn h1]
theorem Lin.wide {Y : List TV} (h : Lin Y) : ∀ q ∈ Y, 1 ≤ q.2 ∧ 1 ≤ q.1.size ∧ q.1 ≠ nl := by
  obtain ⟨Y0, rfl, h1, h2, h3⟩ := h
  intro q hq
  unfold clu.seen at hq
  obtain ⟨p, hp, rfl⟩ := List.mem_map.1 hq
  have hw := h2 p hp
  have hne := (chn_whole h1 p hp).1
  refine ⟨by show 1 ≤ clu.wide p; omega, ?_, ?_⟩
  · show 1 ≤ (str (text p)).size
    rw [str_size]
    have := (text_length p).1
    have := List.length_pos_iff.2 hne
    omega
  · intro e
    have e2 : bs (str (text p)) = [10] := by
      show bs (str (text p)) = bs nl
      rw [show str (text p) = nl from e]
    rw [bs_str (text_byte _)] at e2
    have e3 := runes_text p
    rw [map_fix_of_char (fun r hr => (h3 p hp r hr).1), e2] at e3
    have e4 : p = [10] := e3.symm.trans (by decide)
    exact (h3 p hp 10 (by rw [e4]; simp)).2 kind_feed
theorem Lin.flow {Y : List TV} (h : Lin Y) {s : ByteArray} (hs : bs s = bytesT Y) : flow s = Y := by
  unfold wrp.flow
  rw [flowText_lin2 h Lin.nil (s := s) (by rw [hs]; simp [bytesT]), h.told hs]
  unfold kept2
  rw [List.filter_eq_self]
  intro q hq
  have := (h.wide q hq).1
  unfold del2
  rw [decide_eq_false (by omega)]
  rfl
/-- a line feed is a blank -/
def shown2 (q : TV) : TV := if q.1 = nl then (sp, 1) else q
/-- the line that a text makes -/
def lineW (s : ByteArray) : List TV := (wrp.flow s).map shown2
theorem Lin.line {Y : List TV} (h : Lin Y) {s : ByteArray} (hs : bs s = bytesT Y) : lineW s = Y := by
  unfold lineW
  rw [h.flow hs]
  conv => rhs; rw [← List.map_id Y]
  apply List.map_congr_left
  intro q hq
  unfold shown2
  rw [if_neg (h.wide q hq).2.2]
  rfl
theorem grow_all (b : Nat) (l : List Int) : ∀ f n i, n ≤ i → i < grow b l f n → takes b (l.getD (i - 1) 0) (l.getD i 0) = true
  | 0, n, i, h1, h2 => by simp only [grow] at h2; omega
  | f + 1, n, i, h1, h2 => by
    simp only [grow] at h2
    split at h2
    · rename_i hc
      by_cases e : i = n
      · subst e; exact hc.2
      · exact grow_all b l f (n + 1) i (by omega) h2
    · omega
theorem takes_control {b : Nat} {a x : Int} (h : takes b a x = true) : kind x ≠ 1 := by
  intro hk
  unfold takes at h
  rw [hk] at h
  simp at h
/-- controls stand alone -/
theorem control_alone {p : List Int} (h : Whole1 p) (hk : kind (p.getD 0 0) ≠ 1) : ∀ r ∈ p, kind r ≠ 1 := by
  intro r hr
  obtain ⟨i, hi, rfl⟩ := List.getElem_of_mem hr
  have e : p[i] = p.getD i 0 := by simp [List.getD_eq_getElem?_getD, hi]
  rw [e]
  by_cases h0 : i = 0
  · rw [h0]; exact hk
  · have hc := h.2
    unfold count at hc
    rw [if_neg hk] at hc
    by_cases hs : clu.start p ≤ i
    · exact takes_control (grow_all _ p _ _ i hs (by rw [show grow _ p (16 - clu.start p) (clu.start p) = p.length from hc]; exact hi))
    · have hst : pair p = true := by
        unfold clu.start at hs
        split at hs
        · assumption
        · omega
      have hb := start_bounds p h.1
      obtain ⟨-, -, h6⟩ := pair_iff.1 hst
      have : i = 1 := by
        unfold clu.start at hs
        rw [hst] at hs
        simp at hs
        omega
      rw [this, h6]
      decide
theorem lin_line (s : ByteArray) : Lin (lineW s) ∧ (bytesT (lineW s)).length ≤ (bs (flowText s)).length := by
  have hR : ∀ r ∈ runes (bs (flowText s)), isChar r = true ∧ (kind r = 1 → r = 10) := by
    intro r hr
    refine ⟨runes_char _ _ (Nat.le_refl _) r hr, ?_⟩
    unfold flowText at hr
    rw [bs_str (text_byte _), runes_text, map_fix_of_char] at hr
    · obtain ⟨r0, h0, rfl⟩ := List.mem_map.1 hr
      have hd := (List.mem_filter.1 h0).2
      intro hk
      unfold blank1 at hk ⊢
      split at hk
      · exact absurd (kind_blank.symm.trans hk) (by decide)
      · rename_i h9
        rw [if_neg h9]
        unfold del1 at hd
        rw [Bool.not_eq_true', decide_eq_false_iff_not] at hd
        by_cases h10 : r0 = 10
        · exact h10
        · exact absurd ⟨h10, h9, hk⟩ hd
    · intro r hr
      obtain ⟨r0, h0, rfl⟩ := List.mem_map.1 hr
      have hc := runes_char _ _ (Nat.le_refl _) r0 (List.mem_filter.1 h0).1
      unfold blank1
      split
      · decide
      · exact hc
  have hP : ∀ p ∈ cl (runes (bs (flowText s))), ∀ r ∈ p, isChar r = true ∧ (kind r = 1 → r = 10) := fun p hp r hr => hR r ((cl_piece _ _ (Nat.le_refl _) p hp).2.2 r hr)
  have hch := chn_cl _ (runes (bs (flowText s))) (Nat.le_refl _)
  have hF := cl_flat _ (runes (bs (flowText s))) (Nat.le_refl _)
  have hB : text (runes (bs (flowText s))) = bs (flowText s) := by
    unfold flowText
    rw [bs_str (text_byte _)]
    exact clean_text _
  have e1 : lineW s = List.map shown2 (((cl (runes (bs (flowText s)))).map fun p => (str (text p), wide p)).filter (fun q => !del2 q)) := rfl
  rw [← hB, ← hF]
  generalize cl (runes (bs (flowText s))) = P at *
  clear hB hF hR
  have hnl : ∀ p, (∀ r ∈ p, isChar r = true ∧ (kind r = 1 → r = 10)) → (str (text p) = nl ↔ p = [10]) := by
    intro p hp
    constructor
    · intro e
      have e2 : bs (str (text p)) = [10] := by rw [e]; rfl
      rw [bs_str (text_byte _)] at e2
      have e3 := runes_text p
      rw [map_fix_of_char (fun r hr => (hp r hr).1), e2] at e3
      exact e3.symm.trans (by decide)
    · rintro rfl
      decide
  have e2 : lineW s = clu.seen (lineP P) := by
    rw [e1]
    clear e1 hch
    induction P with
    | nil => rfl
    | cons p r ih =>
      have hp := hP p (List.mem_cons_self ..)
      have ih := ih (fun q hq => hP q (List.mem_cons_of_mem _ hq))
      have hd : del2 (str (text p), wide p) = !keepP p := by
        unfold del2 keepP
        rw [Bool.not_not, decide_eq_decide]
        show wide p = 0 ∧ str (text p) ≠ nl ↔ _
        rw [ne_eq, hnl p hp]
      rw [List.map_cons]
      unfold lineP
      by_cases hk : keepP p = true
      · rw [List.filter_cons_of_pos (by rw [hd, hk]; rfl), List.filter_cons_of_pos hk, List.map_cons, List.map_cons]
        show _ = (str (text (shownP p)), wide (shownP p)) :: clu.seen (lineP r)
        rw [← ih]
        congr 1
        unfold shown2 shownP
        show (if str (text p) = nl then _ else _) = _
        by_cases h10 : p = [10]
        · rw [if_pos ((hnl p hp).2 h10), if_pos h10]
          decide
        · rw [if_neg (fun h => h10 ((hnl p hp).1 h)), if_neg h10]
      · rw [List.filter_cons_of_neg (by rw [hd]; simp [hk]), List.filter_cons_of_neg hk]
        exact ih
  rw [e2]
  refine ⟨⟨lineP P, rfl, chn_line hch (fun p hp hk => (hP p hp _ ?_).2 hk), ?_, ?_⟩, ?_⟩
  · have := (chn_whole hch p hp).1
    cases p with
    | nil => exact absurd rfl this
    | cons a r => exact List.mem_cons_self ..
  · intro q hq
    obtain ⟨p, hp, rfl⟩ := List.mem_map.1 hq
    have hk := (List.mem_filter.1 hp).2
    unfold shownP
    split
    · decide
    · rename_i h10
      intro h0
      unfold keepP at hk
      simp [h0, h10] at hk
  · intro q hq
    obtain ⟨p, hp, rfl⟩ := List.mem_map.1 hq
    have hpP := (List.mem_filter.1 hp).1
    have hw := chn_whole hch p hpP
    have hc := hP p hpP
    unfold shownP
    split
    · intro r hr
      rw [List.mem_singleton] at hr
      subst hr
      exact ⟨by decide, by rw [kind_blank]; decide⟩
    · rename_i h10
      intro r hr
      refine ⟨(hc r hr).1, ?_⟩
      by_cases hk : kind (p.getD 0 0) = 1
      · exfalso
        apply h10
        rw [whole_control hw hk]
        congr 1
        refine (hc _ ?_).2 hk
        cases p with
        | nil => exact absurd rfl hw.1
        | cons a r => exact List.mem_cons_self ..
      · exact control_alone hw hk r hr
  · rw [bytesT_seen]
    clear e1 e2 hch hP hnl
    induction P with
    | nil => exact Nat.le_refl _
    | cons p r ih =>
      rw [List.flatten_cons, text_append, List.length_append]
      unfold lineP
      by_cases hk : keepP p = true
      · rw [List.filter_cons_of_pos hk, List.map_cons, List.flatten_cons, text_append, List.length_append]
        have : (text (shownP p)).length = (text p).length := by
          unfold shownP
          split
          · rename_i h; rw [h]; decide
          · rfl
        unfold lineP at ih
        omega
      · rw [List.filter_cons_of_neg hk]
        unfold lineP at ih
        omega
/-- a line out of two is no longer -/
theorem line_two {A B : List TV} (hA : Lin A) (hB : Lin B) {s : ByteArray} (hs : bs s = bytesT A ++ bytesT B) : (bytesT (lineW s)).length ≤ (bytesT A).length + (bytesT B).length := by
  have h := (lin_line s).2
  rw [flowText_lin2 hA hB hs, hs, List.length_append] at h
  exact h
end Go.Proofs.Ytgpgbbbcodnieaa.wrp
