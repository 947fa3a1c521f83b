/-
  The editor as plain functions: what stays true of it, whatever is done.
-/
import Derived.Test.YtgfjaegjkklcpaaEdDelete
namespace Go.Proofs.Ytgfjaegjkklcpaa.ed
open Go Go.RowKit Go.Proofs
set_option linter.unusedVariables false
/-! A LINE's BEGINNING HAS NO MORE CLUSTERS THAN THE LINE -/
theorem keep_take {l : List Int} (hl : l ≠ []) {k : Nat} (hk : 1 ≤ k) (h : clu.keepP (l.take k) = true) (hw : clu.Whole1 (l.take k)) : clu.keepP (l.take (clu.count l)) = true := by
  unfold clu.keepP at h ⊢
  rw [Bool.not_eq_true', decide_eq_false_iff_not] at h ⊢
  rintro ⟨h0, h10⟩
  have hb := clu.count_bounds l hl
  have e1 : (l.take (clu.count l)).getD 0 0 = l.getD 0 0 := clu.getD_take1 l (by omega)
  have e2 : (l.take k).getD 0 0 = l.getD 0 0 := clu.getD_take1 l (by omega)
  have hwh : clu.Whole1 (l.take (clu.count l)) := by
    have htl : (l.take (clu.count l)).length = clu.count l := by rw [List.length_take]; omega
    exact ⟨fun e => by rw [e] at htl; simp at htl; omega, by rw [clu.count_take hl (Nat.le_refl _), htl]⟩
  rcases clu.wide_zero hwh h0 with h1 | h1
  · rw [e1] at h1
    have h2 : clu.count l = 1 := by unfold clu.count; rw [if_pos h1]
    have h3 := clu.whole_control hw (by rw [e2]; exact h1)
    refine h ⟨?_, ?_⟩
    · unfold clu.wide
      rw [if_pos (by rw [e2]; exact h1)]
    · rw [h3, e2]
      intro e
      apply h10
      have := clu.whole_control hwh (by rw [e1]; exact h1)
      rw [this, e1]
      exact e
  · rw [e1] at h1
    refine h ⟨clu.wide_tail (by rw [e2]; exact h1), ?_⟩
    intro e
    rw [e] at e2
    have e3 : l.getD 0 0 = 10 := e2.symm
    rw [e3] at h1
    rcases h1 with h1 | h1 | h1 <;> exact absurd (clu.kind_feed.symm.trans h1) (by decide)
theorem count_keep : ∀ (n : Nat) (l : List Int) (k : Nat), l.length ≤ n → ((clu.cl (l.take k)).filter clu.keepP).length ≤ ((clu.cl l).filter clu.keepP).length
  | 0, l, k, h => by
    have : l = [] := List.length_eq_zero_iff.1 (by omega)
    subst this
    rw [List.take_nil]
    exact Nat.le_refl _
  | n + 1, l, k, h => by
    by_cases hl : l = []
    · subst hl
      rw [List.take_nil]
      exact Nat.le_refl _
    · rcases Nat.lt_or_ge 0 k with hk | hk
      · have hb := clu.count_bounds l hl
        have hc := clu.count_take_min hl (k := k) hk
        have hne : l.take k ≠ [] := by
          intro e
          have := congrArg List.length e
          rw [List.length_take, List.length_nil] at this
          omega
        have hd := clu.drop_lt hl
        rw [clu.cl_step l hl, clu.cl_step _ hne, hc]
        rcases Nat.lt_or_ge k (clu.count l) with h1 | h1
        · rw [Nat.min_eq_left (by omega), List.take_take, Nat.min_self, List.drop_of_length_le (by rw [List.length_take]; omega), clu.cl_nil]
          by_cases hkp : clu.keepP (l.take k) = true
          · have hw : clu.Whole1 (l.take k) := ⟨hne, by rw [hc, List.length_take]; omega⟩
            rw [List.filter_cons_of_pos hkp, List.filter_cons_of_pos (keep_take hl hk hkp hw), List.length_cons, List.length_cons]
            simp
          · rw [List.filter_cons_of_neg hkp]
            simp
        · rw [Nat.min_eq_right h1, List.take_take, Nat.min_eq_left h1, List.drop_take]
          have ih := count_keep n (l.drop (clu.count l)) (k - clu.count l) (by omega)
          by_cases hkp : clu.keepP (l.take (clu.count l)) = true
          · rw [List.filter_cons_of_pos hkp, List.filter_cons_of_pos hkp, List.length_cons, List.length_cons]
            omega
          · rw [List.filter_cons_of_neg hkp, List.filter_cons_of_neg hkp]
            exact ih
      · obtain rfl : k = 0 := by omega
        rw [List.take_zero]
        exact Nat.zero_le _
/-- how many clusters a line has -/
theorem line_count (s : ByteArray) : (lineT s).length = ((clu.cl (utf.runes (utf.bs (wrp.flowText s)))).filter clu.keepP).length := by
  rw [lineT_len]
  unfold Go.Proofs.Ytgfjaegjkklcpaa.wrp.flow wrp.kept2 clu.told
  have hP : ∀ p ∈ clu.cl (utf.runes (utf.bs (wrp.flowText s))), ∀ r ∈ p, utf.isChar r = true := fun p hp r hr => utf.runes_char _ _ (Nat.le_refl _) r ((clu.cl_piece _ _ (Nat.le_refl _) p hp).2.2 r hr)
  generalize clu.cl (utf.runes (utf.bs (wrp.flowText s))) = P at *
  induction P with
  | nil => rfl
  | cons p r ih =>
    have ih := ih (fun q hq => hP q (List.mem_cons_of_mem _ hq))
    have hp := hP p (List.mem_cons_self ..)
    have hnl : utf.str (utf.text p) = wrp.nl ↔ p = [10] := by
      constructor
      · intro e
        have e2 : utf.bs (utf.str (utf.text p)) = [10] := by rw [e]; rfl
        rw [utf.bs_str (utf.text_byte _)] at e2
        have e3 := utf.runes_text p
        rw [utf.map_fix_of_char hp, e2] at e3
        exact e3.symm.trans (by decide)
      · rintro rfl
        decide
    have hd : (!wrp.del2 (utf.str (utf.text p), clu.wide p)) = clu.keepP p := by
      unfold wrp.del2 clu.keepP
      congr 1
      rw [decide_eq_decide]
      show clu.wide p = 0 ∧ utf.str (utf.text p) ≠ wrp.nl ↔ _
      rw [ne_eq, hnl]
    show (List.filter (fun q => !wrp.del2 q) ((utf.str (utf.text p), clu.wide p) :: clu.seen r)).length = _
    by_cases hk : clu.keepP p = true
    · rw [List.filter_cons_of_pos (by rw [hd]; exact hk), List.filter_cons_of_pos hk, List.length_cons, List.length_cons, ih]
    · rw [List.filter_cons_of_neg (by rw [hd]; exact hk), List.filter_cons_of_neg hk]
      exact ih
/-- what stands ahead has no more clusters than all -/
theorem line_ahead {A B : ByteArray} {l : List Int} (hA : utf.bs A = utf.text l) : (lineT A).length ≤ (lineT (A ++ B)).length := by
  rw [line_count, line_count]
  have hR : ∀ s, utf.runes (utf.bs (wrp.flowText s)) = (wrp.kept (utf.runes (utf.bs s))).map wrp.blank1 := by
    intro s
    unfold wrp.flowText
    rw [utf.bs_str (utf.text_byte _), utf.runes_text, utf.map_fix_of_char]
    intro r hr
    obtain ⟨r0, h0, rfl⟩ := List.mem_map.1 hr
    have hc := utf.runes_char _ _ (Nat.le_refl _) r0 (List.mem_filter.1 h0).1
    unfold wrp.blank1
    split
    · decide
    · exact hc
  rw [hR, hR, bs_app, hA, utf.runes_text_append, utf.runes_text]
  have e : (wrp.kept (l.map utf.fix ++ utf.runes (utf.bs B))).map wrp.blank1 = (wrp.kept (l.map utf.fix)).map wrp.blank1 ++ (wrp.kept (utf.runes (utf.bs B))).map wrp.blank1 := by
    unfold wrp.kept
    rw [List.filter_append, List.map_append]
  rw [e]
  have := count_keep _ ((wrp.kept (l.map utf.fix)).map wrp.blank1 ++ (wrp.kept (utf.runes (utf.bs B))).map wrp.blank1) ((wrp.kept (l.map utf.fix)).map wrp.blank1).length (Nat.le_refl _)
  rw [List.take_left] at this
  exact this
theorem lin_text {F : List TV} (h : wrp.Lin F) : ∃ l, wrp.bytesT F = utf.text l := by
  obtain ⟨Y0, rfl, -⟩ := h
  exact ⟨_, wrp.bytesT_seen Y0⟩
/-! WHAT STAYS TRUE -/
/-- a line that an editor may hold, and a caret in it -/
structure Held (F : List TV) (ca : Nat) : Prop where
  lin : wrp.Lin F
  size : sizeL F ≤ 65536
  ca : ca ≤ F.length
theorem Held.len {F : List TV} {ca : Nat} (h : Held F ca) : F.length ≤ 65536 := Nat.le_trans (lin_len h.lin) h.size
structure EdOk (s : Sta) : Prop where
  h : Held s.F s.ca
  an : -1 ≤ s.an ∧ s.an ≤ s.F.length
  dn : s.dn ≤ s.L.length
  ln : s.L.length ≤ 256
  st : ∀ (n : Nat) (x : St), s.L[n]? = some x → Held x.bef x.ahead ∧ Held x.aft x.after
  back : ∀ (n : Nat) (x : St), s.dn = n + 1 → s.L[n]? = some x → s.F = x.aft
  fore : ∀ (x : St), s.L[s.dn]? = some x → s.F = x.bef
  chain : ∀ (n : Nat) (x y : St), s.L[n]? = some x → s.L[n + 1]? = some y → x.aft = y.bef
theorem ok_go {s : Sta} (h : EdOk s) (way : Int) (m : Bool) : EdOk (goT s way m).2 := by
  unfold goT
  split
  · exact h
  · rename_i tt ht
    have hl := leads_le ht h.h.ca
    refine ⟨⟨h.h.lin, h.h.size, hl⟩, ?_, h.dn, h.ln, h.st, h.back, h.fore, h.chain⟩
    have h1 := h.h.ca
    have h2 := h.an
    show -1 ≤ anT s.an s.ca m ∧ anT s.an s.ca m ≤ (s.F.length : Int)
    unfold anT
    split
    · split <;> omega
    · omega
theorem ok_become {s : Sta} (h : EdOk s) {B : List TV} {caret : Nat} (hB : Held B caret) (al : Bool) : EdOk (becomeT s B caret al).2 := by
  unfold becomeT
  split
  · exact h
  · have hdn := h.dn
    have hln := h.ln
    have hlen : (s.L.take s.dn ++ [(⟨s.F, s.ca, B, caret⟩ : St)]).length = s.dn + 1 := by rw [List.length_append, List.length_take]; simp; omega
    have hget : ∀ (n : Nat) (x : St), (s.L.take s.dn ++ [(⟨s.F, s.ca, B, caret⟩ : St)])[n]? = some x → (n < s.dn ∧ s.L[n]? = some x) ∨ (n = s.dn ∧ x = ⟨s.F, s.ca, B, caret⟩) := by
      intro n x hx
      rcases Nat.lt_or_ge n s.dn with h1 | h1
      · rw [List.getElem?_append_left (by rw [List.length_take]; omega), List.getElem?_take_of_lt h1] at hx
        exact .inl ⟨h1, hx⟩
      · have h2 := (List.getElem?_eq_some_iff.1 hx).1
        rw [hlen] at h2
        have h3 : n = s.dn := by omega
        subst h3
        have hl : (s.L.take s.dn).length = s.dn := by rw [List.length_take]; omega
        rw [List.getElem?_append_right (by rw [hl]; exact Nat.le_refl _), hl, Nat.sub_self] at hx
        simp only [List.getElem?_cons_zero, Option.some.injEq] at hx
        exact .inr ⟨rfl, hx.symm⟩
    have hst : ∀ (n : Nat) (x : St), (s.L.take s.dn ++ [(⟨s.F, s.ca, B, caret⟩ : St)])[n]? = some x → Held x.bef x.ahead ∧ Held x.aft x.after := by
      intro n x hx
      rcases hget n x hx with ⟨-, h1⟩ | ⟨-, rfl⟩
      · exact h.st n x h1
      · exact ⟨h.h, hB⟩
    have hch : ∀ (n : Nat) (x y : St), (s.L.take s.dn ++ [(⟨s.F, s.ca, B, caret⟩ : St)])[n]? = some x → (s.L.take s.dn ++ [(⟨s.F, s.ca, B, caret⟩ : St)])[n + 1]? = some y → x.aft = y.bef := by
      intro n x y hx hy
      rcases hget _ _ hx with ⟨h1, h2⟩ | ⟨h1, rfl⟩
      · rcases hget _ _ hy with ⟨h3, h4⟩ | ⟨h3, rfl⟩
        · exact h.chain n x y h2 h4
        · exact (h.back n x h3.symm h2).symm
      · rcases hget _ _ hy with ⟨h3, h4⟩ | ⟨h3, -⟩ <;> omega
    have hlast : ∀ (n : Nat) (x : St), s.dn + 1 = n + 1 → (s.L.take s.dn ++ [(⟨s.F, s.ca, B, caret⟩ : St)])[n]? = some x → B = x.aft := by
      intro n x e hx
      rcases hget _ _ hx with ⟨h1, -⟩ | ⟨-, rfl⟩
      · omega
      · rfl
    generalize s.L.take s.dn ++ [(⟨s.F, s.ca, B, caret⟩ : St)] = L at *
    unfold lim
    by_cases h256 : 256 < L.length
    · rw [if_pos h256]
      refine ⟨hB, ⟨by dsimp only; omega, by dsimp only; omega⟩, by dsimp only; omega, by dsimp only; rw [List.length_drop]; omega, ?_, ?_, ?_, ?_⟩
      · intro n x hx
        dsimp only at hx
        rw [List.getElem?_drop] at hx
        exact hst _ x hx
      · intro n x e hx
        dsimp only at e hx
        rw [List.getElem?_drop] at hx
        rw [List.length_drop] at e
        exact hlast (1 + n) x (by omega) hx
      · intro x hx
        dsimp only at hx
        have := (List.getElem?_eq_some_iff.1 hx).1
        omega
      · intro n x y hx hy
        dsimp only at hx hy
        rw [List.getElem?_drop] at hx hy
        exact hch _ x y hx (by rw [show 1 + n + 1 = 1 + (n + 1) by omega]; exact hy)
    · rw [if_neg h256]
      refine ⟨hB, ⟨by dsimp only; omega, by dsimp only; omega⟩, by dsimp only; omega, by dsimp only; omega, hst, ?_, ?_, hch⟩
      · intro n x e hx
        dsimp only at e hx
        exact hlast n x (by omega) hx
      · intro x hx
        dsimp only at hx
        have := (List.getElem?_eq_some_iff.1 hx).1
        omega
theorem held_line {s : ByteArray} {c : Nat} (h : sizeL (lineT s) ≤ 65536) (hc : c ≤ (lineT s).length) : Held (lineT s) c := ⟨(wrp.lin_line s).1, h, hc⟩
theorem bs_typed (t : ByteArray) : utf.bs (typedB t) = utf.text (typedT (utf.runes (utf.bs t))) := by
  unfold typedB
  rw [utf.bs_str (utf.text_byte _)]
theorem ok_ins {s : Sta} (h : EdOk s) (t : ByteArray) : EdOk (insT s t).2 := by
  unfold insT
  split
  · exact h
  · rename_i hs
    refine ok_become h ⟨(wrp.lin_line _).1, (by show sizeL (insL s t) ≤ 65536; omega), ?_⟩ _
    obtain ⟨l, hl⟩ := lin_text (h.h.lin.take (mkT s.an s.ca).1)
    exact line_ahead (l := l ++ typedT (utf.runes (utf.bs t))) (by
      show utf.bs (textB (s.F.take (mkT s.an s.ca).1) ++ typedB t) = _
      rw [bs_app, bs_textB, bs_typed, hl, utf.text_append])
theorem del_held {F : List TV} {a b : Nat} (h : wrp.Lin F) (hs : sizeL F ≤ 65536) (hab : a ≤ b) : Held (delL F a b) (lineT (textB (F.take a))).length := by
  have hLA := h.take a
  have hLB := h.drop b
  refine ⟨(wrp.lin_line _).1, ?_, ?_⟩
  · have hsplit : sizeL F = sizeL (F.take b) + sizeL (F.drop b) := by
      unfold sizeL
      rw [← List.length_append]
      congr 1
      unfold textL
      rw [← List.flatMap_append, List.take_append_drop]
    have h1 : sizeL (F.take a) ≤ sizeL (F.take b) := by
      have : F.take a = (F.take b).take a := by rw [List.take_take, Nat.min_eq_left hab]
      rw [this]
      exact textL_le _ _
    rw [size_bytes, show delL F a b = wrp.lineW (textB (F.take a) ++ textB (F.drop b)) from rfl]
    have := wrp.line_two hLA hLB (s := textB (F.take a) ++ textB (F.drop b)) (by rw [bs_app, bs_textB, bs_textB])
    rw [← size_bytes (F.take a), ← size_bytes (F.drop b)] at this
    omega
  · obtain ⟨l, hl⟩ := lin_text hLA
    exact line_ahead (l := l) (by rw [bs_textB, hl])
theorem ok_del2 {s : Sta} (h : EdOk s) {a b : Nat} (hab : a ≤ b) : EdOk (del2 s a b).2 := ok_become h (del_held h.h.lin h.h.size hab) _
theorem ok_del {s : Sta} (h : EdOk s) (way : Int) : EdOk (delT s way).2 := by
  have hm := mk_le (an := s.an) h.h.ca h.an.2
  unfold delT
  split
  · split
    · exact h
    · split
      · exact h
      · exact ok_del2 h (by omega)
  · exact ok_del2 h hm.1
/-- back, and again -/
def undoT (s : Sta) : Bool × Sta := match s.dn with
  | 0 => (false, s)
  | n + 1 => match s.L[n]? with
    | some x => (true, ⟨x.bef, x.ahead, -1, s.L, n⟩)
    | none => (false, s)
def redoT (s : Sta) : Bool × Sta := match s.L[s.dn]? with
  | some x => (true, ⟨x.aft, x.after, -1, s.L, s.dn + 1⟩)
  | none => (false, s)
theorem ok_undo {s : Sta} (h : EdOk s) : EdOk (undoT s).2 := by
  unfold undoT
  split
  · exact h
  · rename_i n hn
    split
    · rename_i x hx
      have hs := h.st n x hx
      have hlt := (List.getElem?_eq_some_iff.1 hx).1
      refine ⟨hs.1, ⟨by dsimp only; omega, by dsimp only; omega⟩, by dsimp only; omega, h.ln, h.st, ?_, ?_, h.chain⟩
      · intro m y e hy
        dsimp only at e hy
        subst e
        exact (h.chain m y x hy hx).symm
      · intro y hy
        dsimp only at hy
        rw [hx] at hy
        cases hy
        rfl
    · exact h
theorem ok_redo {s : Sta} (h : EdOk s) : EdOk (redoT s).2 := by
  unfold redoT
  split
  · rename_i x hx
    have hs := h.st s.dn x hx
    have hlt := (List.getElem?_eq_some_iff.1 hx).1
    refine ⟨hs.2, ⟨by dsimp only; omega, by dsimp only; omega⟩, by dsimp only; omega, h.ln, h.st, ?_, ?_, h.chain⟩
    · intro m y e hy
      dsimp only at e hy
      have : m = s.dn := by omega
      subst this
      rw [hx] at hy
      cases hy
      rfl
    · intro y hy
      dsimp only at hy
      exact h.chain s.dn x y hx hy
  · exact h
theorem cutL_take : ∀ (F : List TV) (n : Nat), (∃ k, cutL F n = F.take k) ∧ (n ≤ 65536 → n + sizeL (cutL F n) ≤ 65536)
  | [], n => ⟨⟨0, rfl⟩, fun h => by show n + 0 ≤ 65536; omega⟩
  | q :: F, n => by
    unfold cutL
    split
    · exact ⟨⟨0, rfl⟩, fun h => by show n + 0 ≤ 65536; omega⟩
    · rename_i hq
      obtain ⟨⟨k, hk⟩, hs⟩ := cutL_take F (n + q.1.size)
      refine ⟨⟨k + 1, by rw [hk, List.take_succ_cons]⟩, fun _ => ?_⟩
      have e : sizeL (q :: cutL F (n + q.1.size)) = q.1.size + sizeL (cutL F (n + q.1.size)) := by
        unfold sizeL textL
        rw [List.flatMap_cons, List.length_append]
        rfl
      rw [e]
      have := hs (by omega)
      omega
theorem held_new (t : ByteArray) : Held (newT t) (newT t).length := by
  obtain ⟨⟨k, hk⟩, hs⟩ := cutL_take (lineT t) 0
  have h2 := hs (by omega)
  refine ⟨?_, by unfold newT; omega, Nat.le_refl _⟩
  unfold newT
  rw [hk]
  exact (wrp.lin_line t).1.take k
/-- a new editor -/
def newE (t : ByteArray) : Sta := ⟨newT t, (newT t).length, -1, [], 0⟩
theorem ok_zero {F : List TV} (h : Held F F.length) : EdOk ⟨F, F.length, -1, [], 0⟩ :=
  ⟨h, ⟨by dsimp only; omega, by dsimp only; omega⟩, Nat.le_refl _, Nat.zero_le _, fun n x h => by simp at h, fun n x h => by simp at h, fun x h => by simp at h, fun n x y h => by simp at h⟩
theorem ok_new (t : ByteArray) : EdOk (newE t) := ok_zero (held_new t)
end Go.Proofs.Ytgfjaegjkklcpaa.ed
