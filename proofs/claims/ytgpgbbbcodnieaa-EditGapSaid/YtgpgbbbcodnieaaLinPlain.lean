/-
  A stretch of a line is the clusters of its own text.
-/
import Derived.Test.YtgpgbbbcodnieaaCluPlain
import Derived.Test.YtgpgbbbcodnieaaWrpPlain
namespace Go.Proofs.Ytgpgbbbcodnieaa.clu
open Go.Proofs.Ytgpgbbbcodnieaa.wid
set_option linter.unusedVariables false
theorem getD_take1 (l : List Int) {k i : Nat} (h : i < k) : (l.take k).getD i 0 = l.getD i 0 := getD_take l k i h
theorem grow_take_min (b : Nat) (l : List Int) (k : Nat) : ∀ f n, 1 ≤ n → n ≤ k → grow b (l.take k) f n = min k (grow b l f n)
  | 0, n, _, hk => by simp only [grow]; omega
  | f + 1, n, h1, hk => by
    have hb := (grow_bounds b l f (n + 1)).1
    simp only [grow]
    rcases Nat.lt_or_ge n k with h | h
    · rw [getD_take1 l h, getD_take1 l (show n - 1 < k by omega), List.length_take]
      by_cases hc : n < l.length ∧ takes b (l.getD (n - 1) 0) (l.getD n 0) = true
      · rw [if_pos ⟨by omega, hc.2⟩, if_pos hc, grow_take_min b l k f (n + 1) (by omega) (by omega)]
      · rw [if_neg (fun h2 => hc ⟨by omega, h2.2⟩), if_neg hc]
        omega
    · rw [if_neg (show ¬ (n < (l.take k).length ∧ _) by rw [List.length_take]; omega)]
      split
      · omega
      · omega
theorem count_take_min {l : List Int} (hl : l ≠ []) {k : Nat} (hk : 1 ≤ k) : count (l.take k) = min k (count l) := by
  have hb := count_bounds l hl
  have e0 : (l.take k).getD 0 0 = l.getD 0 0 := getD_take1 l (by omega)
  rcases Nat.lt_or_ge k 2 with h2 | h2
  · obtain rfl : k = 1 := by omega
    have hb1 := count_bounds (l.take 1) (by intro e; have := congrArg List.length e; rw [List.length_take, List.length_nil] at this; have := List.length_pos_iff.2 hl; omega)
    rw [List.length_take] at hb1
    omega
  · have hp : pair (l.take k) = pair l := by
      unfold pair
      rw [e0, getD_take1 l (show 1 < k by omega), List.length_take]
      congr 2
      rw [decide_eq_decide]
      omega
    have hs : start (l.take k) = start l := by unfold start; rw [hp]
    have hsb := start_bounds l hl
    unfold count
    rw [e0, hs]
    split
    · omega
    · unfold growFrom
      rw [grow_take_min _ _ _ _ _ hsb.1 (by omega)]
/-- a cluster stays what it is when x stands behind it -/
def Stops (p : List Int) (x : Int) : Prop := count (p ++ [x]) = p.length
/-- a whole cluster -/
def Whole1 (p : List Int) : Prop := p ≠ [] ∧ count p = p.length
theorem stops_any {p : List Int} {x : Int} (hp : p ≠ []) (h : Stops p x) (t : List Int) : count (p ++ x :: t) = p.length := by
  have h1 := count_take_min (l := p ++ x :: t) (by simp) (k := p.length + 1) (by omega)
  have e : (p ++ x :: t).take (p.length + 1) = p ++ [x] := by
    rw [List.take_append, List.take_of_length_le (by omega)]
    congr 1
    rw [Nat.add_sub_cancel_left]
    rfl
  rw [e, show count (p ++ [x]) = p.length from h] at h1
  omega
theorem stops_of {p : List Int} {x : Int} {t : List Int} (hp : p ≠ []) (h : count (p ++ x :: t) = p.length) : Stops p x := by
  have h1 := count_take_min (l := p ++ x :: t) (by simp) (k := p.length + 1) (by omega)
  have e : (p ++ x :: t).take (p.length + 1) = p ++ [x] := by
    rw [List.take_append, List.take_of_length_le (by omega)]
    congr 1
    rw [Nat.add_sub_cancel_left]
    rfl
  rw [e, h] at h1
  unfold Stops
  omega
/-- clusters that stand one behind the other -/
def Chn : List (List Int) → Prop
  | [] => True
  | p :: r => Whole1 p ∧ (∀ q t, r = q :: t → Stops p (q.getD 0 0)) ∧ Chn r
theorem chn_whole : ∀ {Y : List (List Int)}, Chn Y → ∀ p ∈ Y, Whole1 p
  | q :: r, h, p, hp => by
    rcases List.mem_cons.1 hp with rfl | hp
    · exact h.1
    · exact chn_whole h.2.2 p hp
theorem cl_chn : ∀ {Y : List (List Int)}, Chn Y → cl Y.flatten = Y
  | [], _ => rfl
  | [p], h => by
    rw [List.flatten_cons, List.flatten_nil, List.append_nil, cl_step p h.1.1, h.1.2, List.take_of_length_le (Nat.le_refl _), List.drop_of_length_le (Nat.le_refl _)]
    rfl
  | p :: q :: r, h => by
    have hq := (chn_whole h.2.2 q (List.mem_cons_self ..)).1
    have hs := h.2.1 q r rfl
    have ih := cl_chn h.2.2
    rw [List.flatten_cons]
    obtain ⟨x, t, hq2⟩ := List.exists_cons_of_ne_nil hq
    have hF : (q :: r).flatten = x :: (t ++ r.flatten) := by rw [List.flatten_cons, hq2]; rfl
    rw [hq2] at hs
    have hc : count (p ++ (q :: r).flatten) = p.length := by rw [hF]; exact stops_any h.1.1 hs _
    rw [cl_step _ (by rw [hF]; simp), hc, List.take_left, List.drop_left, ih]
theorem chn_drop : ∀ {Y : List (List Int)} (a : Nat), Chn Y → Chn (Y.drop a)
  | Y, 0, h => by rw [List.drop_zero]; exact h
  | [], a + 1, h => by simp [Chn]
  | p :: r, a + 1, h => by rw [List.drop_succ_cons]; exact chn_drop a h.2.2
theorem chn_take : ∀ {Y : List (List Int)} (a : Nat), Chn Y → Chn (Y.take a)
  | Y, 0, h => by rw [List.take_zero]; trivial
  | [], a + 1, h => by simp [Chn]
  | p :: r, a + 1, h => by
    rw [List.take_succ_cons]
    refine ⟨h.1, fun q t e => ?_, chn_take a h.2.2⟩
    cases r with
    | nil => simp at e
    | cons q' r' =>
      cases a with
      | zero => simp at e
      | succ a =>
        rw [List.take_succ_cons] at e
        cases e
        exact h.2.1 _ _ rfl
theorem chn_cl : ∀ (n : Nat) (l : List Int), l.length ≤ n → Chn (cl l)
  | 0, l, h => by
    have : l = [] := List.length_eq_zero_iff.1 (by omega)
    subst this; trivial
  | n + 1, l, h => by
    by_cases hl : l = []
    · subst hl; trivial
    · have h1 := drop_lt hl
      have hb := count_bounds l hl
      have ih := chn_cl n (l.drop (count l)) (by omega)
      have hne : l.take (count l) ≠ [] := by
        intro e
        have := congrArg List.length e
        rw [List.length_take, List.length_nil] at this
        omega
      have htl : (l.take (count l)).length = count l := by rw [List.length_take]; omega
      rw [cl_step l hl]
      refine ⟨⟨hne, by rw [count_take hl (Nat.le_refl _), htl]⟩, fun q t e => ?_, ih⟩
      have hfl := cl_flat _ (l.drop (count l)) (Nat.le_refl _)
      have hq : q ≠ [] := (cl_piece _ (l.drop (count l)) (Nat.le_refl _) q (by rw [e]; exact List.mem_cons_self ..)).1
      obtain ⟨x, u, hq2⟩ := List.exists_cons_of_ne_nil hq
      rw [e, List.flatten_cons, hq2] at hfl
      subst hq2
      refine stops_of (t := u ++ t.flatten) hne ?_
      show count (l.take (count l) ++ x :: (u ++ t.flatten)) = _
      rw [show x :: (u ++ t.flatten) = l.drop (count l) from hfl, List.take_append_drop, htl]

/-! WHAT STAYS WHEN SOME ARE STRUCK -/
theorem grow_stopped (b : Nat) (l : List Int) : ∀ f n, grow b l f n < n + f → grow b l f n < l.length → takes b (l.getD (grow b l f n - 1) 0) (l.getD (grow b l f n) 0) = false
  | 0, n, h, _ => by simp only [grow] at h; omega
  | f + 1, n, h, hl => by
    simp only [grow] at h hl ⊢
    split
    · rename_i hc
      rw [if_pos hc] at h hl
      exact grow_stopped b l f (n + 1) (by omega) hl
    · rename_i hc
      rw [if_neg hc] at hl
      cases ht : takes b (l.getD (n - 1) 0) (l.getD n 0) with
      | false => rfl
      | true => exact absurd ⟨hl, ht⟩ hc
/-- does a character always join what is ahead of it -/
def Tail (x : Int) : Prop := kind x = 2 ∨ kind x = 3 ∨ kind x = 4
theorem takes_tail {x : Int} (h : Tail x) (b : Nat) (a : Int) : takes b a x = true := by
  unfold takes
  unfold Tail at h
  rw [if_pos h]
theorem head_append {p : List Int} (hp : p ≠ []) (t : List Int) : (p ++ t).getD 0 0 = p.getD 0 0 := by
  cases p with
  | nil => exact absurd rfl hp
  | cons a r => rfl
/-- a cluster that such a one does not join is full -/
theorem full_of_tail {p : List Int} {x : Int} (hp : p ≠ []) (hk : kind (p.getD 0 0) ≠ 1) (hs : Stops p x) (hx : Tail x) : p.length = 16 := by
  have hl : p ++ [x] ≠ [] := by simp
  have hb := count_bounds _ hl
  have hst := start_bounds _ hl
  unfold Stops at hs
  rw [hs] at hb
  have hc := hs
  unfold count at hc
  rw [head_append hp, if_neg hk] at hc
  unfold growFrom at hc
  by_cases h16 : p.length < 16
  · exfalso
    have := grow_stopped (kind (p.getD 0 0)) (p ++ [x]) (16 - start (p ++ [x])) (start (p ++ [x])) (by rw [hc]; omega) (by rw [hc, List.length_append]; simp)
    rw [hc] at this
    have e : (p ++ [x]).getD p.length 0 = x := by simp [List.getD_eq_getElem?_getD]
    rw [e, takes_tail hx] at this
    cases this
  · omega
/-- what is full stays what it is -/
theorem stops_full {p : List Int} {x : Int} (h : Whole1 p) (h16 : p.length = 16) : Stops p x := by
  have h1 := count_take_min (l := p ++ [x]) (by simp) (k := 16) (by omega)
  have hb := count_bounds (p ++ [x]) (by simp)
  rw [show (p ++ [x]).take 16 = p by rw [← h16, List.take_left], h.2, h16] at h1
  unfold Stops
  omega
theorem kind_blank : kind 32 = 9 := by decide
theorem kind_feed : kind 10 = 1 := by decide
theorem stops_blank {p : List Int} (h : Whole1 p) : Stops p 32 := by
  unfold Stops
  rw [(count_snoc p h.1 32 kind_blank).1, h.2]
theorem blank_stops {x : Int} (h : ¬ Tail x) : Stops [32] x := by
  have e0 : ([32] ++ [x] : List Int).getD 0 0 = 32 := rfl
  have hp : pair ([32] ++ [x]) = false := by
    unfold pair
    rw [e0, kind_blank]
    rfl
  have ht : takes 9 (([32] ++ [x] : List Int).getD (1 - 1) 0) (([32] ++ [x] : List Int).getD 1 0) = false := by
    show takes 9 32 x = false
    unfold takes
    unfold Tail at h
    rw [if_neg h]
    simp [picture]
  unfold Stops count
  rw [e0, kind_blank, if_neg (by decide)]
  unfold start
  rw [hp]
  exact grow_stop ht
theorem whole_blank : Whole1 [32] := by
  refine ⟨by simp, ?_⟩
  have hb := count_bounds [32] (by simp)
  simp only [List.length_cons, List.length_nil] at hb ⊢
  omega
/-- how wide, and what it begins with -/
theorem wide_zeroW {p : List Int} (h : Whole1 p) (hw : wide p = 0) : kind (p.getD 0 0) = 1 ∨ Tail (p.getD 0 0) := by
  by_cases h1 : kind (p.getD 0 0) = 1
  · exact .inl h1
  · unfold wide at hw
    rw [if_neg h1] at hw
    split at hw
    · omega
    · split at hw
      · omega
      · unfold cellsAt cellsOf at hw
        split at hw
        · rename_i h2
          rcases h2 with h2 | h2 | h2 | h2
          · exact absurd h2 h1
          · exact .inr (.inl h2)
          · exact .inr (.inr (.inl h2))
          · exact .inr (.inr (.inr h2))
        · split at hw <;> omega
theorem wide_tail {p : List Int} (ht : Tail (p.getD 0 0)) : wide p = 0 := by
  have h1 : kind (p.getD 0 0) ≠ 1 := by rcases ht with h | h | h <;> omega
  have h6 : kind (p.getD 0 0) ≠ 6 := by rcases ht with h | h | h <;> omega
  have h8 : kind (p.getD 0 0) ≠ 8 := by rcases ht with h | h | h <;> omega
  unfold wide
  rw [if_neg h1]
  have hp : pair p = false := by unfold pair; rw [decide_eq_false h6]; rfl
  have hv : vary p = false := by unfold vary; rw [decide_eq_false h8]; rfl
  rw [if_neg (by rw [hp]; simp), if_neg (by rw [hv]; simp)]
  unfold cellsAt cellsOf
  rw [if_pos (by rcases ht with h | h | h <;> rw [h] <;> simp)]
theorem whole_control {p : List Int} (h : Whole1 p) (hk : kind (p.getD 0 0) = 1) : p = [p.getD 0 0] := by
  have hc := h.2
  unfold count at hc
  rw [if_pos hk] at hc
  match p, h.1 with
  | a :: r, _ =>
    have : r = [] := List.length_eq_zero_iff.1 (by simp only [List.length_cons] at hc; omega)
    subst this
    rfl
def keepP (p : List Int) : Bool := !decide (wide p = 0 ∧ p ≠ [10])
def shownP (p : List Int) : List Int := if p = [10] then [32] else p
def lineP (P : List (List Int)) : List (List Int) := (P.filter keepP).map shownP
theorem mem_line {P : List (List Int)} {q : List Int} (hq : q ∈ lineP P) : ¬ Tail (q.getD 0 0) := by
  unfold lineP at hq
  rw [List.mem_map] at hq
  obtain ⟨p, hp, rfl⟩ := hq
  have hk := (List.mem_filter.1 hp).2
  unfold keepP at hk
  unfold shownP
  split
  · intro h
    rcases h with h | h | h <;> exact absurd (kind_blank.symm.trans h) (by decide)
  · rename_i h10
    intro ht
    rw [wide_tail ht] at hk
    simp [h10] at hk
/-- WHAT IS LEFT STANDS, one behind the other, as it is -/
theorem chn_line : ∀ {P : List (List Int)}, Chn P → (∀ p ∈ P, kind (p.getD 0 0) = 1 → p.getD 0 0 = 10) → Chn (lineP P)
  | [], _, _ => trivial
  | p :: r, h, hok => by
    have ih := chn_line h.2.2 (fun q hq => hok q (List.mem_cons_of_mem _ hq))
    have hw := h.1
    have h10 : p = [10] ∨ kind (p.getD 0 0) ≠ 1 := by
      by_cases hk : kind (p.getD 0 0) = 1
      · left
        rw [whole_control hw hk, hok p (List.mem_cons_self ..) hk]
      · exact .inr hk
    have hnt : ∀ q ∈ lineP r, ¬ Tail (q.getD 0 0) := fun q hq => (mem_line hq)
    by_cases hkp : keepP p = true
    · have e : lineP (p :: r) = shownP p :: lineP r := by
        unfold lineP
        rw [List.filter_cons_of_pos hkp, List.map_cons]
      rw [e]
      have hsw : Whole1 (shownP p) := by
        unfold shownP
        split
        · exact whole_blank
        · exact hw
      refine ⟨hsw, fun q t eq => ?_, ih⟩
      have hq : ¬ Tail (q.getD 0 0) := hnt q (by rw [eq]; exact List.mem_cons_self ..)
      rcases h10 with rfl | hk
      · exact blank_stops hq
      · have hsp : shownP p = p := by
          unfold shownP
          rw [if_neg]
          rintro rfl
          exact hk kind_feed
        rw [hsp]
        cases r with
        | nil => simp [lineP] at eq
        | cons z r' =>
          by_cases hz : keepP z = true
          · have e2 : lineP (z :: r') = shownP z :: lineP r' := by
              unfold lineP
              rw [List.filter_cons_of_pos hz, List.map_cons]
            rw [e2] at eq
            cases eq
            unfold shownP
            split
            · exact stops_blank hw
            · exact h.2.1 z r' rfl
          · have hz2 : wide z = 0 ∧ z ≠ [10] := by
              unfold keepP at hz
              simpa using hz
            have hzw := h.2.2.1
            rcases wide_zeroW hzw hz2.1 with h1 | h1
            · exact absurd (by rw [whole_control hzw h1, hok z (by simp) h1]) hz2.2
            · exact stops_full hw (full_of_tail hw.1 hk (h.2.1 z r' rfl) h1)
    · have e : lineP (p :: r) = lineP r := by
        unfold lineP
        rw [List.filter_cons_of_neg hkp]
      rw [e]
      exact ih
end Go.Proofs.Ytgpgbbbcodnieaa.clu
namespace Go.Proofs.Ytgpgbbbcodnieaa.wrp
open Go.Proofs.Ytgpgbbbcodnieaa.wid Go.Proofs.Ytgpgbbbcodnieaa.utf Go.Proofs.Ytgpgbbbcodnieaa.clu
set_option linter.unusedVariables false
/-- the bytes of clusters -/
def bytesT (Y : List TV) : List Nat := Y.flatMap fun q => bs q.1
theorem bytesT_append (A B : List TV) : bytesT (A ++ B) = bytesT A ++ bytesT B := by unfold bytesT; rw [List.flatMap_append]
theorem bytesT_seen : ∀ l : List (List Int), bytesT (clu.seen l) = text l.flatten
  | [] => rfl
  | p :: t => by
    have e : bytesT (clu.seen (p :: t)) = bs (str (text p)) ++ bytesT (clu.seen t) := rfl
    rw [e, bytesT_seen t, bs_str (text_byte _), List.flatten_cons, text_append]
/-- these are clusters that stand as they are, without controls, and none is nothing wide -/
def Lin (Y : List TV) : Prop := ∃ Y0, Y = clu.seen Y0 ∧ Chn Y0 ∧ (∀ p ∈ Y0, wide p ≠ 0) ∧ ∀ p ∈ Y0, ∀ r ∈ p, isChar r = true ∧ kind r ≠ 1
theorem Lin.nil : Lin [] := ⟨[], rfl, trivial, fun _ h => (by cases h), fun _ h => (by cases h)⟩
theorem Lin.drop {Y : List TV} (h : Lin Y) (a : Nat) : Lin (Y.drop a) := by
  obtain ⟨Y0, rfl, h1, h2, h3⟩ := h
  exact ⟨Y0.drop a, by unfold clu.seen; rw [List.map_drop], chn_drop a h1, fun p hp => h2 p (List.mem_of_mem_drop hp), fun p hp => h3 p (List.mem_of_mem_drop hp)⟩
theorem Lin.take {Y : List TV} (h : Lin Y) (a : Nat) : Lin (Y.take a) := by
  obtain ⟨Y0, rfl, h1, h2, h3⟩ := h
  exact ⟨Y0.take a, by unfold clu.seen; rw [List.map_take], chn_take a h1, fun p hp => h2 p (List.mem_of_mem_take hp), fun p hp => h3 p (List.mem_of_mem_take hp)⟩
theorem kind_nine : kind 9 = 1 := by decide
theorem flat_ok {Y0 : List (List Int)} (h3 : ∀ p ∈ Y0, ∀ r ∈ p, isChar r = true ∧ kind r ≠ 1) : ∀ r ∈ Y0.flatten, isChar r = true ∧ kind r ≠ 1 := by
  intro r hr
  obtain ⟨p, hp, hr⟩ := List.mem_flatten.1 hr
  exact h3 p hp r hr
theorem kept_ok {l : List Int} (h : ∀ r ∈ l, kind r ≠ 1) : (kept l).map blank1 = l := by
  have e : kept l = l := by
    unfold kept
    rw [List.filter_eq_self]
    intro r hr
    unfold del1
    rw [decide_eq_false (fun h2 => h r hr h2.2.2)]
    rfl
  rw [e]
  conv => rhs; rw [← List.map_id l]
  apply List.map_congr_left
  intro r hr
  unfold blank1
  rw [if_neg (by rintro rfl; exact h _ hr kind_nine)]
  rfl
theorem lin_runes {Y0 Z0 : List (List Int)} {s : ByteArray} (h3 : ∀ p ∈ Y0, ∀ r ∈ p, isChar r = true ∧ kind r ≠ 1) (h4 : ∀ p ∈ Z0, ∀ r ∈ p, isChar r = true ∧ kind r ≠ 1) (hs : bs s = bytesT (clu.seen Y0) ++ bytesT (clu.seen Z0)) : runes (bs s) = Y0.flatten ++ Z0.flatten := by
  rw [hs, bytesT_seen, bytesT_seen, runes_text_append, runes_text, map_fix_of_char (fun r hr => (flat_ok h3 r hr).1), map_fix_of_char (fun r hr => (flat_ok h4 r hr).1)]
/-- two lines in one: nothing is struck -/
theorem flowText_lin2 {A B : List TV} (hA : Lin A) (hB : Lin B) {s : ByteArray} (hs : bs s = bytesT A ++ bytesT B) : flowText s = s := by
  obtain ⟨Y0, rfl, -, -, h3⟩ := hA
  obtain ⟨Z0, rfl, -, -, h4⟩ := hB
  have hr := lin_runes h3 h4 hs
  unfold flowText
  rw [hr, kept_ok (fun r hr => by
    rcases List.mem_append.1 hr with hr | hr
    · exact (flat_ok h3 r hr).2
    · exact (flat_ok h4 r hr).2), text_append, ← bytesT_seen, ← bytesT_seen, ← hs, str_bs]
theorem Lin.told {Y : List TV} (h : Lin Y) {s : ByteArray} (hs : bs s = bytesT Y) : told s = Y := by
  obtain ⟨Y0, rfl, h1, h2, h3⟩ := h
  have hr := lin_runes (Z0 := []) (s := s) h3 (fun _ h => (by cases h)) (by rw [hs]; simp [bytesT, clu.seen])
  unfold clu.told
  rw [hr, List.flatten_nil, List.append_nil, cl_chn h1]
theorem Lin.wide {Y : List TV} (h : Lin Y) : ∀ q ∈ Y, 1 ≤ q.2 ∧ 1 ≤ q.1.size ∧ q.1 ≠ nl := by
  obtain ⟨Y0, rfl, h1, h2, h3⟩ := h
  intro q hq
  unfold clu.seen at hq
  obtain ⟨p, hp, rfl⟩ := List.mem_map.1 hq
  have hw := h2 p hp
  have hne := (chn_whole h1 p hp).1
  refine ⟨by show 1 ≤ clu.wide p; omega, ?_, ?_⟩
  · show 1 ≤ (str (text p)).size
    rw [str_size]
    have := (text_length p).1
    have := List.length_pos_iff.2 hne
    omega
  · intro e
    have e2 : bs (str (text p)) = [10] := by
      show bs (str (text p)) = bs nl
      rw [show str (text p) = nl from e]
    rw [bs_str (text_byte _)] at e2
    have e3 := runes_text p
    rw [map_fix_of_char (fun r hr => (h3 p hp r hr).1), e2] at e3
    have e4 : p = [10] := e3.symm.trans (by decide)
    exact (h3 p hp 10 (by rw [e4]; simp)).2 kind_feed
theorem Lin.flow {Y : List TV} (h : Lin Y) {s : ByteArray} (hs : bs s = bytesT Y) : flow s = Y := by
  unfold wrp.flow
  rw [flowText_lin2 h Lin.nil (s := s) (by rw [hs]; simp [bytesT]), h.told hs]
  unfold kept2
  rw [List.filter_eq_self]
  intro q hq
  have := (h.wide q hq).1
  unfold del2
  rw [decide_eq_false (by omega)]
  rfl
/-- a line feed is a blank -/
def shown2 (q : TV) : TV := if q.1 = nl then (sp, 1) else q
/-- the line that a text makes -/
def lineW (s : ByteArray) : List TV := (wrp.flow s).map shown2
theorem Lin.line {Y : List TV} (h : Lin Y) {s : ByteArray} (hs : bs s = bytesT Y) : lineW s = Y := by
  unfold lineW
  rw [h.flow hs]
  conv => rhs; rw [← List.map_id Y]
  apply List.map_congr_left
  intro q hq
  unfold shown2
  rw [if_neg (h.wide q hq).2.2]
  rfl
theorem grow_all (b : Nat) (l : List Int) : ∀ f n i, n ≤ i → i < grow b l f n → takes b (l.getD (i - 1) 0) (l.getD i 0) = true
  | 0, n, i, h1, h2 => by simp only [grow] at h2; omega
  | f + 1, n, i, h1, h2 => by
    simp only [grow] at h2
    split at h2
    · rename_i hc
      by_cases e : i = n
      · subst e; exact hc.2
      · exact grow_all b l f (n + 1) i (by omega) h2
    · omega
theorem takes_control {b : Nat} {a x : Int} (h : takes b a x = true) : kind x ≠ 1 := by
  intro hk
  unfold takes at h
  rw [hk] at h
  simp at h
/-- controls stand alone -/
theorem control_alone {p : List Int} (h : Whole1 p) (hk : kind (p.getD 0 0) ≠ 1) : ∀ r ∈ p, kind r ≠ 1 := by
  intro r hr
  obtain ⟨i, hi, rfl⟩ := List.getElem_of_mem hr
  have e : p[i] = p.getD i 0 := by simp [List.getD_eq_getElem?_getD, hi]
  rw [e]
  by_cases h0 : i = 0
  · rw [h0]; exact hk
  · have hc := h.2
    unfold count at hc
    rw [if_neg hk] at hc
    by_cases hs : clu.start p ≤ i
    · exact takes_control (grow_all _ p _ _ i hs (by rw [show grow _ p (16 - clu.start p) (clu.start p) = p.length from hc]; exact hi))
    · have hst : pair p = true := by
        unfold clu.start at hs
        split at hs
        · assumption
        · omega
      have hb := start_bounds p h.1
      obtain ⟨-, -, h6⟩ := pair_iff.1 hst
      have : i = 1 := by
        unfold clu.start at hs
        rw [hst] at hs
        simp at hs
        omega
      rw [this, h6]
      decide
theorem lin_line (s : ByteArray) : Lin (lineW s) ∧ (bytesT (lineW s)).length ≤ (bs (flowText s)).length := by
  have hR : ∀ r ∈ runes (bs (flowText s)), isChar r = true ∧ (kind r = 1 → r = 10) := by
    intro r hr
    refine ⟨runes_char _ _ (Nat.le_refl _) r hr, ?_⟩
    unfold flowText at hr
    rw [bs_str (text_byte _), runes_text, map_fix_of_char] at hr
    · obtain ⟨r0, h0, rfl⟩ := List.mem_map.1 hr
      have hd := (List.mem_filter.1 h0).2
      intro hk
      unfold blank1 at hk ⊢
      split at hk
      · exact absurd (kind_blank.symm.trans hk) (by decide)
      · rename_i h9
        rw [if_neg h9]
        unfold del1 at hd
        rw [Bool.not_eq_true', decide_eq_false_iff_not] at hd
        by_cases h10 : r0 = 10
        · exact h10
        · exact absurd ⟨h10, h9, hk⟩ hd
    · intro r hr
      obtain ⟨r0, h0, rfl⟩ := List.mem_map.1 hr
      have hc := runes_char _ _ (Nat.le_refl _) r0 (List.mem_filter.1 h0).1
      unfold blank1
      split
      · decide
      · exact hc
  have hP : ∀ p ∈ cl (runes (bs (flowText s))), ∀ r ∈ p, isChar r = true ∧ (kind r = 1 → r = 10) := fun p hp r hr => hR r ((cl_piece _ _ (Nat.le_refl _) p hp).2.2 r hr)
  have hch := chn_cl _ (runes (bs (flowText s))) (Nat.le_refl _)
  have hF := cl_flat _ (runes (bs (flowText s))) (Nat.le_refl _)
  have hB : text (runes (bs (flowText s))) = bs (flowText s) := by
    unfold flowText
    rw [bs_str (text_byte _)]
    exact clean_text _
  have e1 : lineW s = List.map shown2 (((cl (runes (bs (flowText s)))).map fun p => (str (text p), wide p)).filter (fun q => !del2 q)) := rfl
  rw [← hB, ← hF]
  generalize cl (runes (bs (flowText s))) = P at *
  clear hB hF hR
  have hnl : ∀ p, (∀ r ∈ p, isChar r = true ∧ (kind r = 1 → r = 10)) → (str (text p) = nl ↔ p = [10]) := by
    intro p hp
    constructor
    · intro e
      have e2 : bs (str (text p)) = [10] := by rw [e]; rfl
      rw [bs_str (text_byte _)] at e2
      have e3 := runes_text p
      rw [map_fix_of_char (fun r hr => (hp r hr).1), e2] at e3
      exact e3.symm.trans (by decide)
    · rintro rfl
      decide
  have e2 : lineW s = clu.seen (lineP P) := by
    rw [e1]
    clear e1 hch
    induction P with
    | nil => rfl
    | cons p r ih =>
      have hp := hP p (List.mem_cons_self ..)
      have ih := ih (fun q hq => hP q (List.mem_cons_of_mem _ hq))
      have hd : del2 (str (text p), wide p) = !keepP p := by
        unfold del2 keepP
        rw [Bool.not_not, decide_eq_decide]
        show wide p = 0 ∧ str (text p) ≠ nl ↔ _
        rw [ne_eq, hnl p hp]
      rw [List.map_cons]
      unfold lineP
      by_cases hk : keepP p = true
      · rw [List.filter_cons_of_pos (by rw [hd, hk]; rfl), List.filter_cons_of_pos hk, List.map_cons, List.map_cons]
        show _ = (str (text (shownP p)), wide (shownP p)) :: clu.seen (lineP r)
        rw [← ih]
        congr 1
        unfold shown2 shownP
        show (if str (text p) = nl then _ else _) = _
        by_cases h10 : p = [10]
        · rw [if_pos ((hnl p hp).2 h10), if_pos h10]
          decide
        · rw [if_neg (fun h => h10 ((hnl p hp).1 h)), if_neg h10]
      · rw [List.filter_cons_of_neg (by rw [hd]; simp [hk]), List.filter_cons_of_neg hk]
        exact ih
  rw [e2]
  refine ⟨⟨lineP P, rfl, chn_line hch (fun p hp hk => (hP p hp _ ?_).2 hk), ?_, ?_⟩, ?_⟩
  · have := (chn_whole hch p hp).1
    cases p with
    | nil => exact absurd rfl this
    | cons a r => exact List.mem_cons_self ..
  · intro q hq
    obtain ⟨p, hp, rfl⟩ := List.mem_map.1 hq
    have hk := (List.mem_filter.1 hp).2
    unfold shownP
    split
    · decide
    · rename_i h10
      intro h0
      unfold keepP at hk
      simp [h0, h10] at hk
  · intro q hq
    obtain ⟨p, hp, rfl⟩ := List.mem_map.1 hq
    have hpP := (List.mem_filter.1 hp).1
    have hw := chn_whole hch p hpP
    have hc := hP p hpP
    unfold shownP
    split
    · intro r hr
      rw [List.mem_singleton] at hr
      subst hr
      exact ⟨by decide, by rw [kind_blank]; decide⟩
    · rename_i h10
      intro r hr
      refine ⟨(hc r hr).1, ?_⟩
      by_cases hk : kind (p.getD 0 0) = 1
      · exfalso
        apply h10
        rw [whole_control hw hk]
        congr 1
        refine (hc _ ?_).2 hk
        cases p with
        | nil => exact absurd rfl hw.1
        | cons a r => exact List.mem_cons_self ..
      · exact control_alone hw hk r hr
  · rw [bytesT_seen]
    clear e1 e2 hch hP hnl
    induction P with
    | nil => exact Nat.le_refl _
    | cons p r ih =>
      rw [List.flatten_cons, text_append, List.length_append]
      unfold lineP
      by_cases hk : keepP p = true
      · rw [List.filter_cons_of_pos hk, List.map_cons, List.flatten_cons, text_append, List.length_append]
        have : (text (shownP p)).length = (text p).length := by
          unfold shownP
          split
          · rename_i h; rw [h]; decide
          · rfl
        unfold lineP at ih
        omega
      · rw [List.filter_cons_of_neg hk]
        unfold lineP at ih
        omega
/-- a line out of two is no longer -/
theorem line_two {A B : List TV} (hA : Lin A) (hB : Lin B) {s : ByteArray} (hs : bs s = bytesT A ++ bytesT B) : (bytesT (lineW s)).length ≤ (bytesT A).length + (bytesT B).length := by
  have h := (lin_line s).2
  rw [flowText_lin2 hA hB hs, hs, List.length_append] at h
  exact h
end Go.Proofs.Ytgpgbbbcodnieaa.wrp
