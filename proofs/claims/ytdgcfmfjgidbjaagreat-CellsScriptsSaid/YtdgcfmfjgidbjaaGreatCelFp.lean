/-
  A row mended, in plain words; cells owned and stored.
-/
import Derived.Test.YtdgcfmfjgidbjaaGreatCelD
namespace Go.Proofs.YtdgcfmfjgidbjaaGreat.cel
open Go Go.RowKit Go.Proofs
set_option linter.unusedVariables false
def mendF : Nat → List CV → List CV
  | _, [] => []
  | 0, c :: t => c :: t
  | f + 1, c :: t => if unitT (c :: t) = 0 then blankT c.sty :: mendF f t else (c :: t).take (unitT (c :: t)) ++ mendF f ((c :: t).drop (unitT (c :: t)))
/-- a row whose halves have become blanks -/
def mendT (L : List CV) : List CV := mendF L.length L
theorem mendF_any : ∀ (n m : Nat) (L : List CV), L.length ≤ n → L.length ≤ m → mendF n L = mendF m L
  | _, _, [], _, _ => by simp [mendF]
  | n + 1, m + 1, c :: t, hn, hm => by
    simp only [List.length_cons] at hn hm
    simp only [mendF]
    split
    · rw [mendF_any n m t (by omega) (by omega)]
    · rename_i h
      have : ((c :: t).drop (unitT (c :: t))).length ≤ t.length := by rw [List.length_drop, List.length_cons]; omega
      rw [mendF_any n m _ (by omega) (by omega)]
  | 0, _, c :: t, hn, _ => by simp at hn
  | _, 0, c :: t, _, hm => by simp at hm
theorem mendT_step {L : List CV} {i : Nat} (h : i < L.length) : mendT (L.drop i) = (if unitT (L.drop i) = 0 then [blankT (L.getD i z0).sty] else (L.drop i).take (unitT (L.drop i))) ++ mendT (L.drop (i + max (unitT (L.drop i)) 1)) := by
  have hd : L.drop i = L.getD i z0 :: L.drop (i + 1) := by
    rw [List.drop_eq_getElem_cons h]
    simp [List.getD_eq_getElem?_getD, h]
  have h1 : ∀ R : List CV, R = L.getD i z0 :: L.drop (i + 1) → mendT R = (if unitT R = 0 then [blankT (L.getD i z0).sty] else R.take (unitT R)) ++ mendT (R.drop (max (unitT R) 1)) := by
    rintro R rfl
    unfold mendT
    show mendF (L.drop (i + 1)).length.succ _ = _
    simp only [mendF]
    split
    · rename_i h0
      rw [h0]
      show _ = [_] ++ mendF _ (L.drop (i + 1))
      rfl
    · rename_i h0
      rw [show max (unitT (L.getD i z0 :: L.drop (i + 1))) 1 = unitT (L.getD i z0 :: L.drop (i + 1)) by omega]
      congr 1
      refine mendF_any _ _ _ ?_ (Nat.le_refl _)
      rw [List.length_drop, List.length_cons]
      omega
  rw [h1 _ hd, List.drop_drop]
theorem mendT_end (L : List CV) : mendT (L.drop L.length) = [] := by rw [List.drop_length]; rfl

theorem cells5_set (L : List CV) (k : Nat) (c : CV) (h : k < L.length) : ((((((cells5 L).set (k * 5) (.string c.text)).set (k * 5 + 1) (.int .i8 c.wide)).set (k * 5 + 2) (.int .i32 c.sty.fg)).set (k * 5 + 3) (.int .i32 c.sty.bg)).set (k * 5 + 4) (.int .u8 c.sty.att)) = cells5 (L.set k c) := by
  induction L generalizing k with
  | nil => simp at h
  | cons d L ih =>
    cases k with
    | zero => rfl
    | succ k =>
      rw [show (k + 1) * 5 = k * 5 + 1 + 1 + 1 + 1 + 1 by omega, List.set_cons_succ, cells5_cons, cells5_cons]
      simp only [List.length_cons] at h
      have := ih k (by omega)
      simp only [List.set_cons_succ]
      rw [this]
theorem own_setC {w : World} {B g N cap k : Nat} {X : List CV} (h : w.ownsRow B 59 5 (.slice (some ⟨g, 0, none⟩) N cap) N (cells5 X)) (hk : k < X.length) (c : CV) :
    (setC w g k c).ownsRow B 59 5 (.slice (some ⟨g, 0, none⟩) N cap) N (cells5 (X.set k c)) := by
  rw [← cells5_set X k c hk]
  exact (((((h.stored (k * 5) (.string c.text)).1.stored (k * 5 + 1) (.int .i8 c.wide)).1.stored (k * 5 + 2) (.int .i32 c.sty.fg)).1.stored (k * 5 + 3) (.int .i32 c.sty.bg)).1.stored (k * 5 + 4) (.int .u8 c.sty.att)).1
theorem grid_own {w : World} {B g N cap : Nat} {X : List CV} (h : w.ownsRow B 59 5 (.slice (some ⟨g, 0, none⟩) N cap) N (cells5 X)) : Grid w g X := by
  intro k c hk
  have hk2 : k < X.length := (List.getElem?_eq_some_iff.1 hk).1
  have e : X.getD k z0 = c := by simp [List.getD_eq_getElem?_getD, hk]
  have hc : ∀ j u, (cells5 X)[j]? = some u → w.cell? ⟨g, j, none⟩ = some u := fun j u hj => by
    have := h.cells (g := g) rfl j u hj
    rwa [run.add_none, Nat.zero_add] at this
  obtain ⟨g0, g1, g2, g3, g4⟩ := cells5_get X k hk2
  rw [e] at g0 g1 g2 g3 g4
  exact ⟨hc _ _ g0, hc _ _ g1, hc _ _ g2, hc _ _ g3, hc _ _ g4⟩
/-- one cell of an owned row stored -/
theorem run_storeO {o : Oper} {ρ : Operand → Value} {w : World} {p q : Operand} {B g N cap k : Nat} {X : List CV} {c : CV} (h : w.ownsRow B 59 5 (.slice (some ⟨g, 0, none⟩) N cap) N (cells5 X)) (hk : k < X.length) (ho : o.op = .store 59 p q) (hx : ρ p = .pointer (some ⟨g, k * 5, none⟩)) (hq : ρ q = c.val) : (execOp ρ o).run Tryz.prog w = .ok .skip (setC w g k c) := by
  obtain ⟨c0, c1, c2, c3, c4⟩ := (grid_own h).at hk
  have f0 := h.frozenAt (k * 5)
  have f1 := h.frozenAt (k * 5 + 1)
  have f2 := h.frozenAt (k * 5 + 2)
  have f3 := h.frozenAt (k * 5 + 3)
  have f4 := h.frozenAt (k * 5 + 4)
  unfold execOp
  simp only [ho, hx, hq]
  unfold setC CV.val
  simp [go_sem, c0, c1, c2, c3, c4, f0, f1, f2, f3, f4]

/-- where Mend stands: the row's box at w0's end, its own row's at nb -/
structure MendSt (w0 : World) (N : Nat) (ra : Option Addr) (rc nb : Nat) (v : Value) (O : List CV) (w : World) : Prop where
  kr : w.heap[w0.heap.size]? = some (.cells #[.slice ra N rc] 35 (0, 0))
  ko : w.heap[nb]? = some (.cells #[v] 35 (0, 0))
  row : w.ownsRow w0.heap.size 59 5 v N (cells5 O)
  below : Below w0.heap.size w0 w
  len : O.length = N
theorem MendSt.next {w0 w w' : World} {N rc nb : Nat} {ra : Option Addr} {v : Value} {O : List CV} (h : MendSt w0 N ra rc nb v O w) (hb : Below w.heap.size w w') : MendSt w0 N ra rc nb v O w' :=
  ⟨(hb.block _ (Array.getElem?_eq_some_iff.1 h.kr).1).trans h.kr, (hb.block _ (Array.getElem?_eq_some_iff.1 h.ko).1).trans h.ko, run.own_below h.row hb, h.below.trans (hb.mono h.below.size), h.len⟩
theorem MendSt.put {w0 w : World} {N rc nb g cap k : Nat} {ra : Option Addr} {O : List CV} (h : MendSt w0 N ra rc nb (.slice (some ⟨g, 0, none⟩) N cap) O w) (hk : k < N) (c : CV) : MendSt w0 N ra rc nb (.slice (some ⟨g, 0, none⟩) N cap) (O.set k c) (setC w g k c) := by
  have hg : ∃ cur, w.heap[g]? = some (.cells cur 59 (0, 0)) ∧ w0.heap.size ≤ g := by
    rcases h.row.2 with ⟨he, -⟩ | ⟨g', c', cur, e, hb, hg, -⟩
    · cases he
    · simp only [Value.slice.injEq, Option.some.injEq, Addr.mk.injEq, and_true] at e
      obtain ⟨⟨rfl⟩, -⟩ := e
      exact ⟨cur, hg, hb⟩
  obtain ⟨cur, hg, hB⟩ := hg
  have h1 : w0.heap.size ≠ g := by
    intro e
    have := h.kr
    rw [e, hg] at this
    simp at this
  have h2 : nb ≠ g := by
    intro e
    have := h.ko
    rw [e, hg] at this
    simp at this
  have hlen := h.len
  refine ⟨(setC_other_block h1).trans h.kr, (setC_other_block h2).trans h.ko, own_setC h.row (by omega) c, ?_, by rw [List.length_set, hlen]⟩
  exact h.below.grown (setC_grown _ _ _ _) h.below.size (by rintro k ⟨⟩; exact hB)

theorem run_sty3 {o : Oper} {ρ : Operand → Value} {w : World} {p : Operand} {b n : Nat} {c : CV} (ho : o.op = .load 32 p) (hx : ρ p = .pointer (some ⟨b, n + 2, none⟩)) (h : Cell5 w b n c) : (execOp ρ o).run Tryz.prog w = .ok (.value c.sty.val) w := by
  obtain ⟨-, -, c2, c3, c4⟩ := h
  unfold execOp
  simp only [ho, hx]
  simp [go_sem, c2, c3, c4, SV.val]

end Go.Proofs.YtdgcfmfjgidbjaaGreat.cel
namespace Go.Proofs.YtdgcfmfjgidbjaaGreat.cel
open Go Go.RowKit Go.Proofs
set_option linter.unusedVariables false
theorem plainC_idem (c : Int) : plainC (plainC c) = plainC c := by
  unfold plainC
  by_cases h : c = 1
  · rw [if_pos h]; decide
  · rw [if_neg h]
    by_cases h2 : rightC c = true
    · rw [if_pos h2, if_neg h, if_pos h2]
    · rw [if_neg h2]; decide
theorem overS_idem (s : SV) : overS (overS s) = overS s := by
  unfold overS
  simp only [plainC_idem]
theorem unit1_blank (s : SV) : unit1 (blankT s) = 1 := by
  have h1 : clu.oneOk ⟨#[32]⟩ := by unfold clu.oneOk; decide +kernel
  have h2 : wdT ⟨#[32]⟩ = 1 := by decide +kernel
  unfold unit1 blankT
  simp only [h2]
  rw [if_pos ⟨h1, by omega, rfl, overS_idem s⟩]
theorem unitT_cons (c : CV) (t : List CV) : unitT (c :: t) = if unit1 c = 2 ∧ t.head? ≠ some (restT c.sty) then 0 else unit1 c := rfl
theorem unitT_one {c : CV} (h : unit1 c = 1) (t : List CV) : unitT (c :: t) = 1 := by rw [unitT_cons, if_neg (by omega), h]
theorem unitT_two {c : CV} (h : unit1 c = 2) (t : List CV) : unitT (c :: restT c.sty :: t) = 2 := by rw [unitT_cons, if_neg (fun k => k.2 rfl), h]
/-- the three ways in which a row begins -/
theorem unit_cases (c : CV) (t : List CV) : unitT (c :: t) = 0 ∨ (unitT (c :: t) = 1 ∧ unit1 c = 1) ∨ (unitT (c :: t) = 2 ∧ unit1 c = 2 ∧ ∃ t', t = restT c.sty :: t') := by
  have h2 := unit1_le c
  rw [unitT_cons]
  by_cases h : unit1 c = 2 ∧ t.head? ≠ some (restT c.sty)
  · rw [if_pos h]; exact .inl rfl
  · rw [if_neg h]
    rcases (show unit1 c = 0 ∨ unit1 c = 1 ∨ unit1 c = 2 by omega) with h1 | h1 | h1
    · exact .inl h1
    · exact .inr (.inl ⟨h1, h1⟩)
    · refine .inr (.inr ⟨h1, h1, ?_⟩)
      have h3 : t.head? = some (restT c.sty) := Classical.byContradiction fun k => h ⟨h1, k⟩
      cases t with
      | nil => simp at h3
      | cons d t' => simp at h3; subst h3; exact ⟨t', rfl⟩
theorem mendT_cons (c : CV) (t : List CV) : mendT (c :: t) = if unitT (c :: t) = 0 then blankT c.sty :: mendT t else (c :: t).take (unitT (c :: t)) ++ mendT ((c :: t).drop (unitT (c :: t))) := by
  show mendF (t.length + 1) (c :: t) = _
  simp only [mendF]
  split
  · rfl
  · rename_i h
    congr 1
    refine mendF_any _ _ _ ?_ (Nat.le_refl _)
    rw [List.length_drop, List.length_cons]
    omega
theorem wholeT_cons (c : CV) (t : List CV) : wholeT (c :: t) = (decide (0 < unitT (c :: t)) && wholeT ((c :: t).drop (max (unitT (c :: t)) 1))) := by
  have := wholeT_step (L := c :: t) (i := 0) (by simp)
  simpa using this
theorem mend_len : ∀ (n : Nat) (L : List CV), L.length ≤ n → (mendT L).length = L.length
  | _, [], _ => rfl
  | n + 1, c :: t, h => by
    simp only [List.length_cons] at h
    rw [mendT_cons]
    rcases unit_cases c t with h0 | ⟨h0, h1⟩ | ⟨h0, h1, t', rfl⟩
    · rw [if_pos h0]; simp only [List.length_cons]; rw [mend_len n t (by omega)]
    · rw [h0, if_neg (by decide)]
      show (c :: mendT t).length = _
      simp only [List.length_cons]; rw [mend_len n t (by omega)]
    · rw [h0, if_neg (by decide)]
      show (c :: restT c.sty :: mendT t').length = _
      simp only [List.length_cons] at h ⊢; rw [mend_len n t' (by omega)]
theorem mend_whole : ∀ (n : Nat) (L : List CV), L.length ≤ n → wholeT (mendT L) = true
  | _, [], _ => rfl
  | n + 1, c :: t, h => by
    simp only [List.length_cons] at h
    rw [mendT_cons]
    rcases unit_cases c t with h0 | ⟨h0, h1⟩ | ⟨h0, h1, t', rfl⟩
    · rw [if_pos h0, wholeT_cons, unitT_one (unit1_blank _)]
      show (true && wholeT (mendT t)) = true
      rw [mend_whole n t (by omega)]; rfl
    · rw [h0, if_neg (by decide)]
      show wholeT (c :: mendT t) = true
      rw [wholeT_cons, unitT_one h1]
      show (true && wholeT (mendT t)) = true
      rw [mend_whole n t (by omega)]; rfl
    · rw [h0, if_neg (by decide)]
      show wholeT (c :: restT c.sty :: mendT t') = true
      rw [wholeT_cons, unitT_two h1]
      show (true && wholeT (mendT t')) = true
      simp only [List.length_cons] at h
      rw [mend_whole n t' (by omega)]; rfl
theorem mend_stays : ∀ (n : Nat) (L : List CV), L.length ≤ n → wholeT L = true → mendT L = L
  | _, [], _, _ => rfl
  | n + 1, c :: t, h, hw => by
    simp only [List.length_cons] at h
    rw [wholeT_cons, Bool.and_eq_true, decide_eq_true_eq] at hw
    obtain ⟨hp, hw⟩ := hw
    rw [mendT_cons]
    rcases unit_cases c t with h0 | ⟨h0, h1⟩ | ⟨h0, h1, t', rfl⟩
    · omega
    · rw [h0] at hw ⊢
      rw [if_neg (by decide)]
      show c :: mendT t = _
      rw [mend_stays n t (by omega) hw]
    · rw [h0] at hw ⊢
      rw [if_neg (by decide)]
      show c :: restT c.sty :: mendT t' = _
      simp only [List.length_cons] at h
      rw [mend_stays n t' (by omega) hw]
theorem mend_each : ∀ (n : Nat) (L : List CV), L.length ≤ n → ∀ i, i < L.length → (mendT L).getD i z0 = L.getD i z0 ∨ (mendT L).getD i z0 = blankT (L.getD i z0).sty
  | 0, L, h, i, hi => by omega
  | n + 1, [], h, i, hi => by simp at hi
  | n + 1, c :: t, h, i, hi => by
    simp only [List.length_cons] at h hi
    rw [mendT_cons]
    rcases unit_cases c t with h0 | ⟨h0, h1⟩ | ⟨h0, h1, t', rfl⟩
    · rw [if_pos h0]
      cases i with
      | zero => exact .inr rfl
      | succ i => simpa using mend_each n t (by omega) i (by omega)
    · rw [h0, if_neg (by decide)]
      show (c :: mendT t).getD i z0 = _ ∨ (c :: mendT t).getD i z0 = _
      cases i with
      | zero => exact .inl rfl
      | succ i => simpa using mend_each n t (by omega) i (by omega)
    · rw [h0, if_neg (by decide)]
      show (c :: restT c.sty :: mendT t').getD i z0 = _ ∨ (c :: restT c.sty :: mendT t').getD i z0 = _
      simp only [List.length_cons] at h hi
      cases i with
      | zero => exact .inl rfl
      | succ i =>
        cases i with
        | zero => exact .inl rfl
        | succ i => simpa using mend_each n t' (by omega) i (by omega)
end Go.Proofs.YtdgcfmfjgidbjaaGreat.cel
