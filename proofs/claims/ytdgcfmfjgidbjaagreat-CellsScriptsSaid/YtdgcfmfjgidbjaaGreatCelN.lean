/-
  Plain laws of a buffer (merged: CelTherePlain, CelStrong, CelNice, CelMeth): what is put is there; no halves; nothing else is changed
-/
import Derived.Test.YtdgcfmfjgidbjaaGreatCelG
import Derived.Test.YtdgcfmfjgidbjaaGreatCelWakes
namespace Go.Proofs.YtdgcfmfjgidbjaaGreat.cel
open Go Go.RowKit Go.Proofs
open Go.Proofs.YtdgcfmfjgidbjaaGreat.wrp (TV t0 flow nl sp flow_any flow_len kept2 del2 sp_eq nl_eq)
open Go.Proofs.YtdgcfmfjgidbjaaGreat.clu (cells2 told)
set_option linter.unusedVariables false

def wantStep (s : SV) (l : List CV) (q : TV) : List CV := if 60 ≤ l.length then l else if (shownQ q).2 = 2 then l ++ [cellQ s q] ++ [⟨⟨#[]⟩, 0, s⟩] else l ++ [cellQ s q]
def wantT (s : SV) (F : List TV) : List CV := F.foldl (wantStep s) []
theorem wantT_snoc (s : SV) {F : List TV} {k : Nat} (h : k < F.length) : wantT s (F.take (k + 1)) = wantStep s (wantT s (F.take k)) (F.getD k t0) := by
  unfold wantT
  rw [List.take_succ_eq_append_getElem h, List.foldl_append]
  simp [List.getD_eq_getElem?_getD, h]
theorem setT_one {L : List CV} {i : Nat} (h : wd L i = 1) (c : CV) : setT L i c = L.set i c := by
  unfold setT brokenT
  have h' : (L.getD i z0).wide = 1 := h
  rw [if_neg (by rw [h']; omega)]
theorem getD_set {L : List CV} {i j : Nat} {c : CV} (hi : i < L.length) : (L.set i c).getD j z0 = if j = i then c else L.getD j z0 := by
  simp only [List.getD_eq_getElem?_getD, List.getElem?_set]
  by_cases e : i = j
  · subst e; simp [hi]
  · rw [if_neg e, if_neg (fun h => e h.symm)]
theorem lay_end {L : List CV} (hl : L.length = 192) {x : Nat} (hb : ∀ j, x ≤ j → j < 64 → wd L (64 + j) = 1) {c : CV} (hc : c.wide = 1 ∨ c.wide = 2) :
    (layT 64 L (x : Nat) 1 c (decide (x < 64)) (decide (x + 1 < 64))).length = 192 ∧ (∀ j, j < 64 + x → (layT 64 L (x : Nat) 1 c (decide (x < 64)) (decide (x + 1 < 64))).getD j z0 = L.getD j z0) ∧
    (∀ j, x + c.wide.toNat ≤ j → j < 64 → wd (layT 64 L (x : Nat) 1 c (decide (x < 64)) (decide (x + 1 < 64))) (64 + j) = 1) ∧
    (x + 1 < 64 → (layT 64 L (x : Nat) 1 c (decide (x < 64)) (decide (x + 1 < 64))).getD (64 + x) z0 = c ∧ (c.wide = 2 → (layT 64 L (x : Nat) 1 c (decide (x < 64)) (decide (x + 1 < 64))).getD (64 + x + 1) z0 = ⟨⟨#[]⟩, 0, c.sty⟩)) := by
  have e1 : ((1 : Int) * ((64 : Nat) : Int) + ((x : Nat) : Int)).toNat = 64 + x := by omega
  have e2 : ((1 : Int) * ((64 : Nat) : Int) + ((x : Nat) : Int) + 1).toNat = 64 + x + 1 := by omega
  unfold layT
  rw [e1, e2]
  by_cases hx : x < 64
  · rw [decide_eq_true hx]
    have w0 := hb x (Nat.le_refl _) hx
    rcases hc with h1 | h2
    · rw [if_pos h1]
      simp only [if_true]
      rw [setT_one w0]
      refine ⟨by rw [List.length_set, hl], fun j hj => ?_, fun j h3 h4 => ?_, fun _ => ⟨?_, fun h => by omega⟩⟩
      · rw [getD_set (by omega), if_neg (by omega)]
      · rw [wd_set _ _ _ (by omega), if_neg (by omega)]; exact hb j (by omega) h4
      · rw [getD_set (by omega), if_pos rfl]
    · rw [if_neg (by omega)]
      simp only [if_true]
      rw [setT_one w0]
      by_cases hx1 : x + 1 < 64
      · rw [decide_eq_true hx1]
        have w1 : wd (L.set (64 + x) (blankT c.sty)) (64 + x + 1) = 1 := by
          rw [wd_set _ _ _ (by omega), if_neg (by omega)]
          exact hb (x + 1) (by omega) hx1
        simp only [if_true, Bool.and_self]
        rw [setT_one w1]
        have l1 : (L.set (64 + x) (blankT c.sty)).length = 192 := by rw [List.length_set, hl]
        have l2 : ((L.set (64 + x) (blankT c.sty)).set (64 + x + 1) (blankT c.sty)).length = 192 := by rw [List.length_set, l1]
        have l3 : (((L.set (64 + x) (blankT c.sty)).set (64 + x + 1) (blankT c.sty)).set (64 + x) c).length = 192 := by rw [List.length_set, l2]
        refine ⟨by rw [List.length_set, l3], fun j hj => ?_, fun j h3 h4 => ?_, fun _ => ⟨?_, fun _ => ?_⟩⟩
        · rw [getD_set (by omega), if_neg (by omega), getD_set (by omega), if_neg (by omega), getD_set (by omega), if_neg (by omega), getD_set (by omega), if_neg (by omega)]
        · rw [wd_set _ _ _ (by omega), if_neg (by omega), wd_set _ _ _ (by omega), if_neg (by omega), wd_set _ _ _ (by omega), if_neg (by omega), wd_set _ _ _ (by omega), if_neg (by omega)]
          exact hb j (by omega) h4
        · rw [getD_set (by omega), if_neg (by omega), getD_set (by omega), if_pos rfl]
        · rw [getD_set (by omega), if_pos rfl]
      · rw [decide_eq_false hx1]
        simp only [Bool.and_false, Bool.false_eq_true, if_false]
        refine ⟨by rw [List.length_set, hl], fun j hj => ?_, fun j h3 h4 => by omega, fun h => by omega⟩
        rw [getD_set (by omega), if_neg (by omega)]
  · rw [decide_eq_false hx, decide_eq_false (by omega)]
    simp only [Bool.and_false, Bool.false_eq_true, if_false]
    split
    · exact ⟨hl, fun _ _ => rfl, fun j h3 h4 => by omega, fun h => by omega⟩
    · exact ⟨hl, fun _ _ => rfl, fun j h3 h4 => by omega, fun h => by omega⟩
theorem let_all : letIn allR 64 3 = ⟨0, 0, 64, 3⟩ := by decide
theorem has_all (x : Nat) : hasT ⟨0, 0, 64, 3⟩ (x : Nat) 1 = decide (x < 64) := by
  unfold hasT
  rw [show endsT ⟨0, 0, 64, 3⟩ = ⟨0, 0, 64, 3⟩ from by decide, show okB ⟨0, 0, 64, 3⟩ = true from by decide]
  by_cases h : x < 64
  · rw [decide_eq_true h]
    simp
    omega
  · rw [decide_eq_false h]
    simp
    omega
theorem cellQ_wide (s : SV) (q : TV) : (cellQ s q).wide = ((shownQ q).2 : Nat) := rfl

/-- what is put there, and read there -/
theorem there_put (s : SV) {F : List TV} (hF : ∀ k, k < F.length → (shownQ (F.getD k t0)).2 = 1 ∨ (shownQ (F.getD k t0)).2 = 2) {L : List CV} (hl : L.length = 192) (hb : ∀ j, j < 64 → wd L (64 + j) = 1) : ∀ k, k ≤ F.length →
    (putT 64 ⟨0, 0, 64, 3⟩ 1 s 1 L (F.take k)).2.length = 192 ∧ (∀ j, 1 + putW (F.take k) ≤ j → j < 64 → wd (putT 64 ⟨0, 0, 64, 3⟩ 1 s 1 L (F.take k)).2 (64 + j) = 1) ∧
    (wantT s (F.take k)).length ≤ putW (F.take k) ∧ (wantT s (F.take k)).length ≤ 61 ∧ ((wantT s (F.take k)).length < 60 → (wantT s (F.take k)).length = putW (F.take k)) ∧
    ∀ i, i < (wantT s (F.take k)).length → (putT 64 ⟨0, 0, 64, 3⟩ 1 s 1 L (F.take k)).2.getD (65 + i) z0 = (wantT s (F.take k)).getD i z0 := by
  intro k
  induction k with
  | zero => intro _; exact ⟨hl, fun j _ h => hb j h, by simp [wantT, putW], by simp [wantT], fun _ => by simp [wantT, putW], fun i hi => by simp [wantT] at hi⟩
  | succ k ih =>
    intro hk
    obtain ⟨h1, h2, h3, h4, h5, h6⟩ := ih (by omega)
    have hw := hF k (by omega)
    rw [putT_snoc 64 _ 1 s 1 L (show k < F.length by omega), putW_snoc (show k < F.length by omega), wantT_snoc s (show k < F.length by omega)]
    have hx := putT_x 64 ⟨0, 0, 64, 3⟩ 1 s (F.take k) 1 L
    have hx' : (putT 64 ⟨0, 0, 64, 3⟩ 1 s 1 L (F.take k)).1 = ((1 + putW (F.take k) : Nat) : Int) := by rw [hx]; push_cast; rfl
    unfold putStep
    rw [hx', has_all, show (((1 + putW (F.take k) : Nat) : Int) + 1) = ((1 + putW (F.take k) + 1 : Nat) : Int) by push_cast; rfl, has_all]
    have hcw := cellQ_wide s (F.getD k t0)
    generalize (putT 64 ⟨0, 0, 64, 3⟩ 1 s 1 L (F.take k)).2 = M at *
    generalize wantT s (F.take k) = Wn at *
    generalize putW (F.take k) = n at *
    generalize F.getD k t0 = q at *
    obtain ⟨g1, g2, g3, g4⟩ := lay_end h1 (x := 1 + n) h2 (c := cellQ s q) (by rw [hcw]; omega)
    refine ⟨g1, fun j h7 h8 => g3 j (by rw [hcw]; omega) h8, ?_⟩
    unfold wantStep
    by_cases h60 : 60 ≤ Wn.length
    · rw [if_pos h60]
      refine ⟨by omega, h4, fun h => by omega, fun i hi => ?_⟩
      show List.getD _ _ _ = _
      rw [g2 (65 + i) (by omega)]
      exact h6 i hi
    · rw [if_neg h60]
      have hn := h5 (by omega)
      obtain ⟨g5, g6⟩ := g4 (by omega)
      have hlow : ∀ i, i < Wn.length → (layT 64 M ((1 + n : Nat) : Int) 1 (cellQ s q) (decide (1 + n < 64)) (decide (1 + n + 1 < 64))).getD (65 + i) z0 = Wn.getD i z0 := fun i hi => by rw [g2 (65 + i) (by omega)]; exact h6 i hi
      by_cases hq2 : (shownQ q).2 = 2
      · rw [if_pos hq2]
        have hlen : (Wn ++ [cellQ s q] ++ [(⟨⟨#[]⟩, 0, s⟩ : CV)]).length = Wn.length + 2 := by simp
        refine ⟨by omega, by omega, fun h => by omega, fun i hi => ?_⟩
        rw [hlen] at hi
        show List.getD _ _ _ = _
        rcases (show i < Wn.length ∨ i = Wn.length ∨ i = Wn.length + 1 by omega) with h | rfl | rfl
        · rw [hlow i h]
          simp only [List.getD_eq_getElem?_getD]
          rw [List.append_assoc, List.getElem?_append_left h]
        · rw [hn, show 65 + n = 64 + (1 + n) by omega, g5]
          simp only [List.getD_eq_getElem?_getD]
          rw [← hn, List.append_assoc, List.getElem?_append_right (Nat.le_refl _)]
          simp
        · rw [hn, show 65 + (n + 1) = 64 + (1 + n) + 1 by omega, g6 (by rw [hcw, hq2]; rfl)]
          simp only [List.getD_eq_getElem?_getD]
          rw [← hn, List.append_assoc, List.getElem?_append_right (by omega), show Wn.length + 1 - Wn.length = 1 by omega]
          rfl
      · rw [if_neg hq2]
        have hlen : (Wn ++ [cellQ s q]).length = Wn.length + 1 := by simp
        refine ⟨by omega, by omega, fun h => by omega, fun i hi => ?_⟩
        rw [hlen] at hi
        show List.getD _ _ _ = _
        rcases (show i < Wn.length ∨ i = Wn.length by omega) with h | rfl
        · rw [hlow i h]
          simp only [List.getD_eq_getElem?_getD]
          rw [List.getElem?_append_left h]
        · rw [hn, show 65 + n = 64 + (1 + n) by omega, g5]
          simp only [List.getD_eq_getElem?_getD]
          rw [← hn, List.getElem?_append_right (Nat.le_refl _)]
          simp
theorem fillRow_get (W y X : Nat) (c : CV) (L : List CV) (i : Nat) : ∀ k, y * W + X + k ≤ L.length → (fillRow W y X c k L)[i]? = if y * W + X ≤ i ∧ i < y * W + X + k then some c else L[i]?
  | 0, _ => by rw [if_neg (by omega)]; rfl
  | k + 1, hk => by
    unfold fillRow
    rw [List.getElem?_set, fillRow_len, fillRow_get W y X c L i k (by omega)]
    by_cases e : y * W + (X + k) = i
    · rw [if_pos e, if_pos (by omega), if_pos (by omega)]
    · rw [if_neg e]
      by_cases h : y * W + X ≤ i ∧ i < y * W + X + k
      · rw [if_pos h, if_pos (by omega)]
      · rw [if_neg h, if_neg (by omega)]
theorem fillRect_len (W X Y RW : Nat) (c : CV) (L : List CV) : ∀ k, (fillRect W X Y RW c k L).length = L.length
  | 0 => rfl
  | k + 1 => by unfold fillRect; rw [fillRow_len, fillRect_len]
/-- all of a buffer, filled -/
theorem fill_all (c : CV) {L : List CV} (hl : L.length = 192) : fillRect 64 0 0 64 c 3 L = List.replicate 192 c := by
  apply List.ext_getElem?
  intro i
  show (fillRow 64 (0 + 2) 0 c 64 (fillRow 64 (0 + 1) 0 c 64 (fillRow 64 (0 + 0) 0 c 64 L)))[i]? = _
  rw [fillRow_get _ _ _ _ _ _ _ (by rw [fillRow_len, fillRow_len]; omega), fillRow_get _ _ _ _ _ _ _ (by rw [fillRow_len]; omega), fillRow_get _ _ _ _ _ _ _ (by omega), List.getElem?_replicate]
  by_cases h : i < 192
  · rw [if_pos h]
    by_cases a : (0 + 2) * 64 + 0 ≤ i ∧ i < (0 + 2) * 64 + 0 + 64
    · rw [if_pos a]
    · rw [if_neg a]
      by_cases b : (0 + 1) * 64 + 0 ≤ i ∧ i < (0 + 1) * 64 + 0 + 64
      · rw [if_pos b]
      · rw [if_neg b, if_pos (by omega)]
  · rw [if_neg h, if_neg (by omega), if_neg (by omega), if_neg (by omega)]
    exact List.getElem?_eq_none (by omega)
/-- all of a buffer, shifted away -/
theorem shift_all (c : CV) {D : Int} (hD : D ≤ -3 ∨ 3 ≤ D) (O : List CV) {L : List CV} (hl : L.length = 192) : shiftT 64 0 0 64 3 D c O 3 L = List.replicate 192 c := by
  rw [← fill_all c hl]
  have h : ∀ y M, y < 3 → shiftRow 64 0 0 64 3 D c O y M = fillRow 64 y 0 c 64 M := fun y M hy => if_neg (by omega)
  show shiftRow 64 0 0 64 3 D c O (0 + 2) (shiftRow 64 0 0 64 3 D c O (0 + 1) (shiftRow 64 0 0 64 3 D c O (0 + 0) L)) = _
  rw [h _ _ (by omega), h _ _ (by omega), h _ _ (by omega)]
  rfl
end Go.Proofs.YtdgcfmfjgidbjaaGreat.cel
namespace Go.Proofs.YtdgcfmfjgidbjaaGreat.cel
open Go Go.RowKit Go.Proofs
open Go.Proofs.YtdgcfmfjgidbjaaGreat.wrp (TV t0 flow nl sp flow_any flow_len kept2 del2 sp_eq nl_eq)
open Go.Proofs.YtdgcfmfjgidbjaaGreat.clu (cells2 told oneOk)
open Go.Proofs.YtdgcfmfjgidbjaaGreat.utf (bs runes str)
set_option linter.unusedVariables false

def gf (L : List CV) (i : Nat) : CV := L.getD i z0
/-- singles and pairs alone -/
def SF (W n : Nat) (f : Nat → CV) : Prop := ∀ i, i < n → unit1 (f i) = 1 ∨ (unit1 (f i) = 2 ∧ i % W + 1 < W ∧ f (i + 1) = restT (f i).sty) ∨ (0 < i % W ∧ unit1 (f (i - 1)) = 2 ∧ f i = restT (f (i - 1)).sty)
def other (f : Nat → CV) (k : Nat) : Nat := if (f k).wide = 0 then k - 1 else if (f k).wide = 2 then k + 1 else k
/-- what is changed beside what is let in: halves, that are blanks now -/
def Chg (n : Nat) (inR : Nat → Prop) (f0 f : Nat → CV) : Prop := ∀ k, k < n → ¬ inR k → f k = f0 k ∨ (other f0 k ≠ k ∧ other f0 k < n ∧ inR (other f0 k) ∧ f k = blankT (f0 k).sty)
theorem unit1_wide {c : CV} {n : Nat} (h : unit1 c = n) (hn : 0 < n) : c.wide = n := by
  unfold unit1 at h
  split at h
  · rename_i hc
    rw [← h]
    exact hc.2.2.1.symm
  · omega
theorem unit1_w1 {c : CV} (h : unit1 c = 1) : c.wide = 1 := unit1_wide (n := 1) h (by decide)
theorem unit1_w2 {c : CV} (h : unit1 c = 2) : c.wide = 2 := unit1_wide (n := 2) h (by decide)
theorem Chg.refl (n : Nat) (inR : Nat → Prop) (f : Nat → CV) : Chg n inR f f := fun _ _ _ => .inl rfl
/-- one place written, and the pair that stood there broken -/
structure Put1 (i : Nat) (c : CV) (a b : Nat) (f g : Nat → CV) : Prop where
  ab : (a = b ∧ (f a).wide = 1) ∨ (b = a + 1 ∧ (f a).wide = 2 ∧ (f b).wide = 0)
  i_ab : i = a ∨ i = b
  g_eq : ∀ j, g j = if j = i then c else if j = a ∨ j = b then blankT (f a).sty else f j
theorem Put1.at_ab {i : Nat} {c : CV} {a b : Nat} {f g : Nat → CV} (h : Put1 i c a b f g) (hc : unit1 c = 1) {j : Nat} (hj : j = a ∨ j = b) : unit1 (g j) = 1 := by
  rw [h.g_eq]
  by_cases e : j = i
  · rw [if_pos e]; exact hc
  · rw [if_neg e, if_pos hj]; exact unit1_blank _
theorem Put1.off {i : Nat} {c : CV} {a b : Nat} {f g : Nat → CV} (h : Put1 i c a b f g) {j : Nat} (hj : ¬ (j = a ∨ j = b)) : g j = f j := by
  have := h.i_ab
  rw [h.g_eq, if_neg (fun e => hj (by omega)), if_neg hj]
theorem sf_one {W n i : Nat} {c : CV} {a b : Nat} {f g : Nat → CV} (h : SF W n f) (hp : Put1 i c a b f g) (hc : unit1 c = 1) : SF W n g := by
  intro k hk
  have hab := hp.ab
  by_cases e : k = a ∨ k = b
  · exact .inl (hp.at_ab hc e)
  · rw [hp.off e]
    rcases h k hk with h1 | ⟨h1, h2, h3⟩ | ⟨h1, h2, h3⟩
    · exact .inl h1
    · refine .inr (.inl ⟨h1, h2, ?_⟩)
      have hw : (f (k + 1)).wide = 0 := by rw [h3]; rfl
      rw [hp.off (j := k + 1)]
      · exact h3
      · rintro (e2 | e2)
        · rw [← e2] at hab; rcases hab with ⟨-, h4⟩ | ⟨-, h4, -⟩ <;> omega
        · rcases hab with ⟨h5, h4⟩ | ⟨h5, h4, h6⟩
          · rw [h5, ← e2] at h4; omega
          · exact e (.inl (by omega))
    · have hw := unit1_w2 h2
      have hk0 : 0 < k := by
        rcases Nat.eq_zero_or_pos k with h0 | h0
        · subst h0; simp at h1
        · exact h0
      have e3 : g (k - 1) = f (k - 1) := by
        refine hp.off ?_
        rintro (e2 | e2)
        · rcases hab with ⟨h5, h4⟩ | ⟨h5, h4, h6⟩
          · rw [← e2] at h4; omega
          · exact e (.inr (by omega))
        · rcases hab with ⟨h5, h4⟩ | ⟨h5, h4, h6⟩
          · rw [h5, ← e2] at h4; omega
          · rw [← e2] at h6; omega
      rw [e3]
      exact .inr (.inr ⟨h1, h2, h3⟩)
theorem mod_at {W y c : Nat} (h : c < W) : (y * W + c) % W = c := by
  rw [Nat.add_comm, Nat.add_mul_mod_self_right, Nat.mod_eq_of_lt h]
theorem div_at {W y c : Nat} (h : c < W) : (y * W + c) / W = y := by
  rw [Nat.add_comm, Nat.add_mul_div_right _ _ (by omega), Nat.div_eq_of_lt h, Nat.zero_add]
theorem at_lt {W H y c : Nat} (h : c < W) (hy : y < H) : y * W + c < W * H := by
  have := Nat.mul_le_mul_right W (show y + 1 ≤ H from hy)
  rw [Nat.add_mul, Nat.one_mul, Nat.mul_comm H W] at this
  omega
/-- a pair where two singles were -/
theorem sf_pair {W n a : Nat} {c : CV} {f g : Nat → CV} (h : SF W n f) (hW : a % W + 1 < W) (hg : ∀ j, g j = if j = a then c else if j = a + 1 then restT c.sty else f j) (hc : unit1 c = 2) (h1 : (f a).wide = 1) (h2 : (f (a + 1)).wide = 1) : SF W n g := by
  intro k hk
  have ga : g a = c := by rw [hg, if_pos rfl]
  have gb : g (a + 1) = restT c.sty := by rw [hg, if_neg (by omega), if_pos rfl]
  by_cases e : k = a
  · subst e
    rw [ga]
    exact .inr (.inl ⟨hc, hW, gb⟩)
  · by_cases e2 : k = a + 1
    · subst e2
      rw [gb, Nat.add_sub_cancel, ga]
      refine .inr (.inr ⟨?_, hc, rfl⟩)
      rw [mod_next hW]; omega
    · have off : ∀ j, j ≠ a → j ≠ a + 1 → g j = f j := fun j n1 n2 => by rw [hg, if_neg n1, if_neg n2]
      rw [off k e e2]
      rcases h k hk with k1 | ⟨k1, k2, k3⟩ | ⟨k1, k2, k3⟩
      · exact .inl k1
      · have hw : (f (k + 1)).wide = 0 := by rw [k3]; rfl
        refine .inr (.inl ⟨k1, k2, ?_⟩)
        rw [off (k + 1) (fun e3 => by rw [e3] at hw; omega) (by omega)]
        exact k3
      · have hw := unit1_w2 k2
        rw [off (k - 1) (fun e3 => by rw [e3] at hw; omega) (fun e3 => by rw [e3] at hw; omega)]
        exact .inr (.inr ⟨k1, k2, k3⟩)
/-- no pair goes through a stretch's sides -/
def NB (W X RW : Nat) (f : Nat → CV) (y : Nat) : Prop := (X < W → (f (y * W + X)).wide ≠ 0) ∧ (X + RW < W → (f (y * W + (X + RW))).wide ≠ 0)
/-- a stretch of a row, out of one like it -/
theorem sf_splice {W H X RW y z : Nat} {f o g : Nat → CV} (hf : SF W (W * H) f) (ho : SF W (W * H) o) (hX : X + RW ≤ W) (hz : z < H) (nf : NB W X RW f y) (no : NB W X RW o z)
    (hg : ∀ j, g j = if y * W + X ≤ j ∧ j < y * W + X + RW then o (z * W + X + (j - (y * W + X))) else f j) : SF W (W * H) g := by
  have off : ∀ j, ¬ (y * W + X ≤ j ∧ j < y * W + X + RW) → g j = f j := fun j hj => by rw [hg, if_neg hj]
  have on : ∀ t, t < RW → g (y * W + X + t) = o (z * W + X + t) := fun t ht => by rw [hg, if_pos (by omega)]; congr 1; omega
  intro i hi
  by_cases hs : y * W + X ≤ i ∧ i < y * W + X + RW
  · obtain ⟨t, rfl⟩ : ∃ t, i = y * W + X + t := ⟨i - (y * W + X), by omega⟩
    have ht : t < RW := by omega
    have m1 : (y * W + X + t) % W = X + t := by rw [Nat.add_assoc]; exact mod_at (by omega)
    have m2 : (z * W + X + t) % W = X + t := by rw [Nat.add_assoc]; exact mod_at (by omega)
    have hlt : z * W + X + t < W * H := by rw [Nat.add_assoc]; exact at_lt (by omega) hz
    rw [on t ht, m1]
    rcases ho _ hlt with h1 | ⟨h1, h2, h3⟩ | ⟨h1, h2, h3⟩
    · exact .inl h1
    · rw [m2] at h2
      refine .inr (.inl ⟨h1, h2, ?_⟩)
      by_cases ht1 : t + 1 < RW
      · rw [Nat.add_assoc (y * W + X), on (t + 1) ht1, ← Nat.add_assoc]; exact h3
      · exfalso
        refine no.2 (by omega) ?_
        have e : z * W + (X + RW) = z * W + X + t + 1 := by omega
        rw [e, h3]; rfl
    · rw [m2] at h1
      by_cases ht0 : t = 0
      · subst ht0
        exfalso
        refine no.1 (by omega) ?_
        rw [Nat.add_zero] at h3
        rw [h3]; rfl
      · obtain ⟨u, rfl⟩ : ∃ u, t = u + 1 := ⟨t - 1, by omega⟩
        rw [show y * W + X + (u + 1) - 1 = y * W + X + u by omega, on u (by omega)]
        rw [show z * W + X + (u + 1) - 1 = z * W + X + u by omega] at h2 h3
        exact .inr (.inr ⟨h1, h2, h3⟩)
  · rw [off i hs]
    rcases hf i hi with h1 | ⟨h1, h2, h3⟩ | ⟨h1, h2, h3⟩
    · exact .inl h1
    · refine .inr (.inl ⟨h1, h2, ?_⟩)
      rw [off (i + 1)]
      · exact h3
      · intro hs1
        have e : i + 1 = y * W + X := by omega
        rw [e] at h3
        exact nf.1 (by omega) (by rw [h3]; rfl)
    · have e : g (i - 1) = f (i - 1) := by
        refine off _ ?_
        intro hs1
        have hi0 : 0 < i := by
          rcases Nat.eq_zero_or_pos i with h0 | h0
          · subst h0; simp at h1
          · exact h0
        have e : i = y * W + (X + RW) := by omega
        by_cases hx : X + RW < W
        · exact nf.2 hx (by rw [← e, h3]; rfl)
        · have : X + RW = W := by omega
          rw [e, this, show y * W + W = (y + 1) * W by rw [Nat.add_mul, Nat.one_mul], Nat.mul_mod_left] at h1
          omega
      rw [e]
      exact .inr (.inr ⟨h1, h2, h3⟩)
theorem nb_splice {W X RW y z y' : Nat} {f o g : Nat → CV} (hX : X + RW ≤ W) (nf : NB W X RW f y') (no : NB W X RW o z) 
    (hg : ∀ j, g j = if y * W + X ≤ j ∧ j < y * W + X + RW then o (z * W + X + (j - (y * W + X))) else f j) : NB W X RW g y' := by
  have off : ∀ j, ¬ (y * W + X ≤ j ∧ j < y * W + X + RW) → g j = f j := fun j hj => by rw [hg, if_neg hj]
  have key : ∀ c, c < W → (y * W + X ≤ y' * W + c ∧ y' * W + c < y * W + X + RW) → y' = y ∧ X ≤ c ∧ c < X + RW := by
    intro c hc h
    have h1 : (y' * W + c) / W = y' := div_at hc
    have h2 : (y' * W + c) / W = y := by
      obtain ⟨t, ht⟩ : ∃ t, y' * W + c = y * W + (X + t) := ⟨y' * W + c - (y * W + X), by omega⟩
      rw [ht]; exact div_at (by omega)
    have h3 : y' = y := h1.symm.trans h2
    subst h3
    exact ⟨rfl, by omega, by omega⟩
  refine ⟨fun hx => ?_, fun hx => ?_⟩
  · by_cases hs : y * W + X ≤ y' * W + X ∧ y' * W + X < y * W + X + RW
    · obtain ⟨rfl, -, -⟩ := key X hx hs
      rw [hg, if_pos hs, Nat.sub_self, Nat.add_zero]
      exact no.1 hx
    · rw [off _ hs]; exact nf.1 hx
  · rw [off _ (fun hs => by have := key _ hx hs; omega)]
    exact nf.2 hx

/-- behind a place written -/
theorem chg_one {W n i : Nat} {c : CV} {a b : Nat} {inR : Nat → Prop} {f0 f g : Nat → CV} (h : SF W n f) (hC : Chg n inR f0 f) (hp : Put1 i c a b f g) (hb : b < n)
    (hin : inR i ∨ (i = b ∧ a ≠ b ∧ inR a ∧ c = blankT (f b).sty)) : Chg n inR f0 g := by
  intro k hk hkR
  have hab := hp.ab
  have hi := hp.i_ab
  have oth : ∀ q, f q = f0 q → other f0 q = other f q := fun q hq => by unfold other; rw [hq]
  have tail : b = a + 1 → (f a).wide = 2 → (f b).sty = (f a).sty := by
    intro e1 e2
    rcases h a (by omega) with h1 | ⟨h1, h2, h3⟩ | ⟨h1, h2, h3⟩
    · have := unit1_w1 h1; omega
    · rw [e1, h3]; rfl
    · rw [h3] at e2; cases e2
  by_cases e : k = a ∨ k = b
  · by_cases hki : k = i
    · rcases hin with h1 | ⟨h1, h2, h3, h4⟩
      · exact (hkR (hki ▸ h1)).elim
      · have hkb : k = b := hki.trans h1
        subst hkb
        have hp2 : k = a + 1 ∧ (f a).wide = 2 ∧ (f k).wide = 0 := hab.resolve_left (fun h => h2 h.1)
        have hf : f k = f0 k := by
          rcases hC k hk hkR with h5 | ⟨-, -, -, h5⟩
          · exact h5
          · rw [h5] at hp2; exact absurd hp2.2.2 (by rw [blank_wide]; omega)
        have ho : other f0 k = a := by rw [oth k hf]; unfold other; rw [if_pos hp2.2.2]; omega
        rw [ho]
        refine .inr ⟨by omega, by omega, h3, ?_⟩
        rw [hp.g_eq, if_pos hki, h4, hf]
    · have hp2 : b = a + 1 ∧ (f a).wide = 2 ∧ (f b).wide = 0 := by
        rcases hab with ⟨h1, -⟩ | h1
        · exfalso; omega
        · exact h1
      have hiR : inR i := by
        rcases hin with h1 | ⟨h1, h2, h3, h4⟩
        · exact h1
        · exfalso
          have : k = a := by omega
          exact hkR (this ▸ h3)
      have hf : f k = f0 k := by
        rcases hC k hk hkR with h5 | ⟨-, -, -, h5⟩
        · exact h5
        · exfalso
          have hw : (f k).wide = 1 := by rw [h5]; rfl
          rcases e with e | e <;> rw [e] at hw <;> omega
      have ho : other f0 k = i := by
        rw [oth k hf]
        unfold other
        rcases e with e | e
        · rw [if_neg (by rw [e]; omega), if_pos (by rw [e]; omega)]; omega
        · rw [if_pos (by rw [e]; omega)]; omega
      rw [ho]
      refine .inr ⟨fun h => hki h.symm, by omega, hiR, ?_⟩
      rw [hp.g_eq, if_neg hki, if_pos e, ← hf]
      rcases e with e | e
      · rw [e]
      · rw [e, tail hp2.1 hp2.2.1]
  · rw [hp.off e]; exact hC k hk hkR
theorem chg_in {n : Nat} {inR : Nat → Prop} {f0 f g : Nat → CV} (hC : Chg n inR f0 f) (hg : ∀ k, k < n → ¬ inR k → g k = f k) : Chg n inR f0 g := by
  intro k hk hkR
  rw [hg k hk hkR]
  exact hC k hk hkR

theorem gf_set {L : List CV} {i : Nat} {c : CV} (hi : i < L.length) (j : Nat) : gf (L.set i c) j = if j = i then c else gf L j := getD_set hi
/-- the cells behind a write -/
theorem setT_put1 {W H : Nat} {L : List CV} (h : Good W H L) {i : Nat} (hi : i < W * H) (c : CV) : ∃ a b, b < W * H ∧ Put1 i c a b (gf L) (gf (setT L i c)) := by
  obtain ⟨hl, hf⟩ := h
  have hWi : wd L i = (L.getD i z0).wide := rfl
  rcases hf i hi with h1 | ⟨h1, h2, h3⟩ | ⟨h1, h2, h3⟩
  · refine ⟨i, i, hi, .inl ⟨rfl, h1⟩, .inl rfl, fun j => ?_⟩
    unfold setT brokenT
    rw [if_neg (by rw [← hWi]; omega), gf_set (by omega)]
    by_cases e : j = i
    · rw [if_pos e, if_pos e]
    · rw [if_neg e, if_neg e, if_neg (by omega)]
  · have hn := next_lt hi h2
    refine ⟨i, i + 1, hn, .inr ⟨rfl, h1, h3⟩, .inl rfl, fun j => ?_⟩
    have hh : headOf L i = i := by unfold headOf; rw [if_neg (by rw [← hWi]; omega)]
    unfold setT brokenT
    rw [if_pos (by rw [← hWi]; omega), hh, gf_set (by simp; omega), gf_set (by simp; omega), gf_set (by omega)]
    by_cases e : j = i
    · rw [if_pos e, if_pos e]
    · simp only [if_neg e]
      by_cases e2 : j = i + 1
      · rw [if_pos e2, if_pos (Or.inr e2)]; rfl
      · rw [if_neg e2, if_neg (by omega)]
  · have hi0 : 0 < i := by
      rcases Nat.eq_zero_or_pos i with h0 | h0
      · subst h0; simp at h2
      · exact h0
    refine ⟨i - 1, i, hi, .inr ⟨by omega, h3, h1⟩, .inr rfl, fun j => ?_⟩
    have hh : headOf L i = i - 1 := by unfold headOf; rw [if_pos (by rw [← hWi]; omega)]
    unfold setT brokenT
    rw [if_pos (by rw [← hWi]; omega), hh, gf_set (by simp; omega), gf_set (by simp; omega), gf_set (by omega)]
    by_cases e : j = i
    · rw [if_pos e, if_pos e]
    · rw [if_neg e, if_neg e, if_neg (by omega)]
      by_cases e2 : j = i - 1
      · rw [if_pos e2, if_pos (.inl e2)]; rfl
      · rw [if_neg e2, if_neg (by omega)]
structure Nice (W H : Nat) (inR : Nat → Prop) (f0 : Nat → CV) (L : List CV) : Prop where
  len : L.length = W * H
  sf : SF W (W * H) (gf L)
  chg : Chg (W * H) inR f0 (gf L)
theorem Nice.good {W H : Nat} {inR : Nat → Prop} {f0 : Nat → CV} {L : List CV} (h : Nice W H inR f0 L) : Good W H L := by
  refine ⟨h.len, fun i hi => ?_⟩
  rcases h.sf i hi with h1 | ⟨h1, h2, h3⟩ | ⟨h1, h2, h3⟩
  · exact .inl (unit1_w1 h1)
  · exact .inr (.inl ⟨unit1_w2 h1, h2, by show (gf L (i + 1)).wide = 0; rw [h3]; rfl⟩)
  · exact .inr (.inr ⟨by show (gf L i).wide = 0; rw [h3]; rfl, h1, unit1_w2 h2⟩)
theorem Nice.set {W H : Nat} {inR : Nat → Prop} {f0 : Nat → CV} {L : List CV} (h : Nice W H inR f0 L) {i : Nat} (hi : i < W * H) {c : CV} (hc : unit1 c = 1) (hin : inR i ∨ (wd L i = 0 ∧ inR (i - 1) ∧ c = blankT (gf L i).sty)) : Nice W H inR f0 (setT L i c) := by
  obtain ⟨a, b, hb, hp⟩ := setT_put1 h.good hi c
  refine ⟨by rw [set_length, h.len], sf_one h.sf hp hc, chg_one h.sf h.chg hp hb ?_⟩
  rcases hin with h1 | ⟨h1, h2, h3⟩
  · exact .inl h1
  · have hab := hp.ab
    have hia := hp.i_ab
    have hw : (gf L i).wide = 0 := h1
    have : i = b ∧ b = a + 1 := by
      rcases hab with ⟨e1, e2⟩ | ⟨e1, e2, e3⟩
      · exfalso
        rcases hia with e | e
        · rw [← e] at e2; omega
        · rw [e1, ← e] at e2; omega
      · rcases hia with e | e
        · exfalso; rw [← e] at e2; omega
        · exact ⟨e, e1⟩
    refine .inr ⟨this.1, by omega, ?_, ?_⟩
    · rw [show a = i - 1 by omega]; exact h2
    · rw [h3, this.1]
/-- one cluster laid -/
theorem Nice.lay {W H : Nat} {inR : Nat → Prop} {f0 : Nat → CV} {L : List CV} (h : Nice W H inR f0 L) {x y : Int} {c : CV} {l r : Bool} (hc : unit1 c = 1 ∨ unit1 c = 2) (hl : l = true → 0 ≤ x ∧ x < W ∧ 0 ≤ y ∧ y < H) (hr : r = true → 0 ≤ x + 1 ∧ x + 1 < W ∧ 0 ≤ y ∧ y < H)
    (hlR : l = true → inR (y * W + x).toNat) (hrR : r = true → inR (y * W + x + 1).toNat) : Nice W H inR f0 (layT W L x y c l r) := by
  unfold layT
  rcases hc with hc | hc
  · rw [if_pos (unit1_w1 hc)]
    cases l with
    | false => exact h
    | true =>
      obtain ⟨a1, a2, a3, a4⟩ := hl rfl
      exact h.set (at_mod ⟨a1, a2⟩ ⟨a3, a4⟩).1 hc (.inl (hlR rfl))
  · rw [if_neg (by rw [unit1_w2 hc]; omega)]
    have hub := unit1_blank c.sty
    cases l with
    | false =>
      cases r with
      | false => exact h
      | true =>
        obtain ⟨a1, a2, a3, a4⟩ := hr rfl
        have h5 := (at_mod (x := x + 1) ⟨a1, a2⟩ ⟨a3, a4⟩).1
        rw [← Int.add_assoc] at h5
        exact h.set h5 hub (.inl (hrR rfl))
    | true =>
      obtain ⟨a1, a2, a3, a4⟩ := hl rfl
      obtain ⟨m1, m2⟩ := at_mod ⟨a1, a2⟩ ⟨a3, a4⟩
      have g1 := h.set m1 hub (.inl (hlR rfl))
      obtain ⟨-, g2, g3⟩ := wd_setT h.good m1 (c := blankT c.sty) rfl
      cases r with
      | false => exact g1
      | true =>
        obtain ⟨b1, b2, b3, b4⟩ := hr rfl
        have hRl := hlR rfl
        have hRr := hrR rfl
        have hm : (y * W + x).toNat % W + 1 < W := by omega
        have hn := next_lt m1 hm
        have hy0 : 0 ≤ y * (W : Int) := Int.mul_nonneg a3 (by omega)
        have he : (y * (W : Int) + x + 1).toNat = (y * W + x).toNat + 1 := by omega
        rw [he] at hRr ⊢
        have k0 := g1.set hn hub (.inl hRr)
        obtain ⟨-, k2, k3⟩ := wd_setT g1.good hn (c := blankT c.sty) rfl
        simp only [if_true, Bool.and_self]
        have hl5 := k0.len
        have hg : ∀ j, gf ((List.set (setT (setT L (y * W + x).toNat (blankT c.sty)) ((y * W + x).toNat + 1) (blankT c.sty)) (y * W + x).toNat c).set ((y * W + x).toNat + 1) ⟨⟨#[]⟩, 0, c.sty⟩) j = if j = (y * W + x).toNat then c else if j = (y * W + x).toNat + 1 then restT c.sty else gf (setT (setT L (y * W + x).toNat (blankT c.sty)) ((y * W + x).toNat + 1) (blankT c.sty)) j := by
          intro j
          rw [gf_set (by simp; omega), gf_set (by omega)]
          by_cases e : j = (y * W + x).toNat
          · rw [if_pos e, if_neg (by omega), if_pos e]
          · rw [if_neg e, if_neg e]; rfl
        refine ⟨by simp [k0.len], sf_pair k0.sf hm hg hc (k3 _ g2) k2, chg_in k0.chg fun k hk hkR => ?_⟩
        rw [hg, if_neg (fun e => hkR (by rw [e]; exact hRl)), if_neg (fun e => hkR (by rw [e]; exact hRr))]
end Go.Proofs.YtdgcfmfjgidbjaaGreat.cel
namespace Go.Proofs.YtdgcfmfjgidbjaaGreat.cel
open Go Go.RowKit Go.Proofs
open Go.Proofs.YtdgcfmfjgidbjaaGreat.wrp (TV t0 flow flowText nl sp flow_any flow_len kept2 del2 sp_eq nl_eq)
open Go.Proofs.YtdgcfmfjgidbjaaGreat.clu (cells2 told oneOk)
open Go.Proofs.YtdgcfmfjgidbjaaGreat.utf (bs runes str text)
set_option linter.unusedVariables false

/-- what is let in, is in the rectangle -/
theorem let_has (r : RT) (W H : Nat) (hW : W ≤ 4096) (hH : H ≤ 4096) {x y : Int} (h : hasT (letIn r W H) x y = true) : hasT r x y = true := by
  unfold letIn meetT at h
  split at h
  · rename_i hok
    unfold rectB at h
    split at h
    · exact (has_none h).elim
    · rename_i h2
      rw [ends_box hW hH] at h2 h
      simp only [Bool.and_eq_true] at hok
      have hok1 := hok.1
      unfold hasT
      generalize endsT r = e at *
      obtain ⟨a0, b0, a1, b1⟩ := e
      unfold cutB meetB at *
      simp only at *
      obtain ⟨x0, hx0⟩ : ∃ q, q = max (max a0 0) (-1048576) := ⟨_, rfl⟩
      obtain ⟨y0, hy0⟩ : ∃ q, q = max (max b0 0) (-1048576) := ⟨_, rfl⟩
      obtain ⟨x1, hx1⟩ : ∃ q, q = min (min a1 (if (W : Int) ≤ 0 then -8388608 else (W : Int))) 1048576 := ⟨_, rfl⟩
      obtain ⟨y1, hy1⟩ : ∃ q, q = min (min b1 (if (H : Int) ≤ 0 then -8388608 else (H : Int))) 1048576 := ⟨_, rfl⟩
      rw [← hx0, ← hx1, ← hy0, ← hy1] at h2 h
      have k1 : 0 ≤ x0 ∧ x0 < x1 ∧ x1 ≤ W ∧ a0 ≤ x0 ∧ x1 ≤ a1 := by
        split at hx1 <;> omega
      have k2 : 0 ≤ y0 ∧ y0 < y1 ∧ y1 ≤ H ∧ b0 ≤ y0 ∧ y1 ≤ b1 := by
        split at hy1 <;> omega
      have h3 := has_small (by omega) (by omega) h
      rw [hok1, decide_eq_true (show a0 ≤ x by omega), decide_eq_true (show x < a1 by omega), decide_eq_true (show b0 ≤ y by omega), decide_eq_true (show y < b1 by omega)]
      rfl
  · exact (has_none h).elim
theorem box_has {X Y RW RH : Nat} {x y : Int} (hx : (X : Int) ≤ x ∧ x < X + RW) (hy : (Y : Int) ≤ y ∧ y < Y + RH) (hX : X + RW ≤ 4096) (hY : Y + RH ≤ 4096) : hasT ⟨X, Y, RW, RH⟩ x y = true := by
  have e1 := endT_small (a := (X : Int)) (b := (X : Int) + RW) (by omega) (by omega) (by omega)
  have e2 := endT_small (a := (Y : Int)) (b := (Y : Int) + RH) (by omega) (by omega) (by omega)
  rw [show (X : Int) + RW - X = RW by omega] at e1
  rw [show (Y : Int) + RH - Y = RH by omega] at e2
  unfold hasT okB endsT
  simp only [e1, e2, Bool.and_eq_true, decide_eq_true_eq]
  omega
/-- a rectangle's part of a buffer, in numbers -/
theorem let_nat2 (r : RT) (W H : Nat) (hW : W ≤ 4096) (hH : H ≤ 4096) : ∃ X Y RW RH : Nat, letIn r W H = ⟨X, Y, RW, RH⟩ ∧ X + RW ≤ W ∧ Y + RH ≤ H ∧ (0 < RH → 0 < RW) := by
  unfold letIn meetT
  have hno : ∃ X Y RW RH : Nat, (RT.mk 0 0 0 0) = ⟨X, Y, RW, RH⟩ ∧ X + RW ≤ W ∧ Y + RH ≤ H ∧ (0 < RH → 0 < RW) := ⟨0, 0, 0, 0, rfl, by omega, by omega, by omega⟩
  split
  · unfold rectB
    split
    · exact hno
    · rename_i h1 h2
      rw [ends_box hW hH] at h2 ⊢
      generalize endsT r = e at *
      obtain ⟨a0, b0, a1, b1⟩ := e
      unfold cutB meetB at *
      simp only at *
      obtain ⟨x0, hx0⟩ : ∃ q, q = max (max a0 0) (-1048576) := ⟨_, rfl⟩
      obtain ⟨y0, hy0⟩ : ∃ q, q = max (max b0 0) (-1048576) := ⟨_, rfl⟩
      obtain ⟨x1, hx1⟩ : ∃ q, q = min (min a1 (if (W : Int) ≤ 0 then -8388608 else (W : Int))) 1048576 := ⟨_, rfl⟩
      obtain ⟨y1, hy1⟩ : ∃ q, q = min (min b1 (if (H : Int) ≤ 0 then -8388608 else (H : Int))) 1048576 := ⟨_, rfl⟩
      rw [← hx0, ← hx1, ← hy0, ← hy1] at h2 ⊢
      have k1 : 0 ≤ x0 ∧ x0 < x1 ∧ x1 ≤ W := by
        split at hx1 <;> omega
      have k2 : 0 ≤ y0 ∧ y0 < y1 ∧ y1 ≤ H := by
        split at hy1 <;> omega
      refine ⟨x0.toNat, y0.toNat, (x1 - x0).toNat, (y1 - y0).toNat, ?_, by omega, by omega, by omega⟩
      rw [RT.mk.injEq]
      omega
  · exact hno

/-- the clusters that are written -/
theorem sized1 {c : CV} (h : 0 < unit1 c) : oneOk c.text ∧ c.wide = (unit1 c : Nat) ∧ overS c.sty = c.sty := by
  unfold unit1 at h ⊢
  split at h
  · rename_i hc
    rw [if_pos hc]
    exact ⟨hc.1, hc.2.2.1.symm, hc.2.2.2⟩
  · omega
theorem unit1_of {c : CV} {n : Nat} (h1 : oneOk c.text) (h2 : wdT c.text = n) (h3 : 0 < n) (h4 : c.wide = (n : Nat)) (h5 : overS c.sty = c.sty) : unit1 c = n := by
  unfold unit1
  rw [if_pos ⟨h1, by omega, by rw [h2, h4], h5⟩, h2]
theorem flow_one {s : ByteArray} {q : TV} (h : q ∈ flow s) (st : SV) : unit1 (cellQ (overS st) q) = 1 ∨ unit1 (cellQ (overS st) q) = 2 := by
  have hw := flow_wide h
  by_cases e : q.1 = nl
  · left
    have hq : shownQ q = (sp, 1) := if_pos e
    have : cellQ (overS st) q = blankT st := by unfold cellQ blankT; rw [hq]; rfl
    rw [this]
    exact unit1_blank st
  · have hq : shownQ q = q := if_neg e
    rw [hq] at hw
    have h1 : q ∈ told (flowText s) := by
      unfold flow kept2 at h
      rw [List.mem_filter] at h
      exact h.1
    unfold told clu.seen at h1
    rw [List.mem_map] at h1
    obtain ⟨p, hp, rfl⟩ := h1
    have hr : runes (bs (str (text p))) = p := by
      rw [utf.bs_str (utf.text_byte _), utf.runes_text]
      exact utf.map_fix_of_char (fun r hr => utf.runes_char _ _ (Nat.le_refl _) _ ((clu.cl_piece _ _ (Nat.le_refl _) p hp).2.2 r hr))
    have ho : oneOk (str (text p)) := by
      unfold oneOk
      rw [hr, clu.cl_one hp]
      exact ⟨rfl, rfl⟩
    have hwd : wdT (str (text p)) = clu.wide p := by unfold wdT; rw [hr]
    rcases hw with hw | hw
    · left
      refine unit1_of ?_ ?_ (by omega) ?_ ?_
      · unfold cellQ; rw [hq]; exact ho
      · unfold cellQ; rw [hq]; exact hwd.trans hw
      · unfold cellQ; rw [hq]; simp only at hw ⊢; rw [hw]
      · exact overS_idem st
    · right
      refine unit1_of ?_ ?_ (by omega) ?_ ?_
      · unfold cellQ; rw [hq]; exact ho
      · unfold cellQ; rw [hq]; exact hwd.trans hw
      · unfold cellQ; rw [hq]; simp only at hw ⊢; rw [hw]
      · exact overS_idem st
/-- a right cell's text is short -/
theorem one_size {s : ByteArray} (h : oneOk s) : s.size ≤ 64 := by
  obtain ⟨h1, h2⟩ := h
  have h3 := clu.cl_piece _ (runes (bs s)) (Nat.le_refl _)
  have hj : (clu.cl (runes (bs s))).flatten = runes (bs s) := clu.cl_flat _ _ (Nat.le_refl _)
  obtain ⟨p, hp⟩ := List.length_eq_one_iff.1 h1
  rw [hp] at hj h3
  have h4 : p = runes (bs s) := by simpa using hj
  have h5 := (h3 p (by simp)).2.1
  rw [← h2, utf.str_size]
  have := (utf.text_length (runes (bs s))).2
  rw [← h4] at this ⊢
  omega
section
variable {W H : Nat} {inR : Nat → Prop} {f0 : Nat → CV}
theorem nice_put {r : RT} {y : Int} {s : SV} (hin : ∀ x y, hasT r x y = true → 0 ≤ x ∧ x < W ∧ 0 ≤ y ∧ y < H) (hR : ∀ x, hasT r x y = true → inR (y * W + x).toNat) {F : List TV} (hF : ∀ k, k < F.length → unit1 (cellQ s (F.getD k t0)) = 1 ∨ unit1 (cellQ s (F.getD k t0)) = 2) {x : Int} {L : List CV} (hL : Nice W H inR f0 L) : ∀ k, k ≤ F.length → Nice W H inR f0 (putT W r y s x L (F.take k)).2 := by
  intro k
  induction k with
  | zero => intro _; exact hL
  | succ k ih =>
    intro hk
    rw [putT_snoc W r y s x L (show k < F.length by omega)]
    refine (ih (by omega)).lay (hF k (by omega)) (hin _ _) (hin _ _) (hR _) (fun h => ?_)
    rw [Int.add_assoc]
    exact hR _ h
theorem nice_paste {r : RT} {y : Int} (hin : ∀ x y, hasT r x y = true → 0 ≤ x ∧ x < W ∧ 0 ≤ y ∧ y < H) (hR : ∀ x, hasT r x y = true → inR (y * W + x).toNat) {x : Int} {R : List CV} : ∀ (f i : Nat) (L : List CV), Nice W H inR f0 L → wholeT (R.drop i) = true → Nice W H inR f0 (pasteF W r y x R f i L)
  | 0, _, L, h, _ => h
  | f + 1, i, L, h, hw => by
    unfold pasteF
    split
    · rename_i hi
      rw [wholeT_step hi, Bool.and_eq_true, decide_eq_true_eq] at hw
      refine nice_paste hin hR f _ _ (h.lay ?_ (hin _ _) (hin _ _) (hR _) (fun h => ?_)) hw.2
      · have hd : R.drop i = R.getD i z0 :: R.drop (i + 1) := by
          rw [List.drop_eq_getElem_cons hi]
          simp [List.getD_eq_getElem?_getD, hi]
        rw [hd] at hw
        rcases unit_cases (R.getD i z0) (R.drop (i + 1)) with h1 | ⟨-, h1⟩ | ⟨-, h1, -⟩
        · omega
        · exact .inl h1
        · exact .inr h1
      · rw [Int.add_assoc]
        exact hR _ h
    · exact h
/-- what holds while sides are parted -/
theorem partAt_wd {L : List CV} (h : Good W H L) {y x : Nat} (hy : y < H) : (∀ j, wd L j ≠ 0 → wd (partAt W L y x) j ≠ 0) ∧ (x < W → wd (partAt W L y x) (y * W + x) ≠ 0) := by
  unfold partAt
  by_cases hx : x < W ∧ wd L (y * W + x) = 0
  · rw [if_pos hx]
    have hi := at_lt hx.1 hy
    obtain ⟨a, b, hb, hp⟩ := setT_put1 h hi (blankT (L.getD (y * W + x) z0).sty)
    have hz := fun j (hj : j = a ∨ j = b) => unit1_w1 (hp.at_ab (unit1_blank _) hj)
    have hia := hp.i_ab
    refine ⟨fun j hj => ?_, fun _ => ?_⟩
    · show (gf _ j).wide ≠ 0
      by_cases e : j = a ∨ j = b
      · rw [hz j e]; omega
      · rw [hp.off e]; exact hj
    · show (gf _ _).wide ≠ 0
      rw [hz _ hia]; omega
  · rw [if_neg hx]
    exact ⟨fun j hj => hj, fun h1 h2 => hx ⟨h1, h2⟩⟩
theorem nice_partAt {L : List CV} (h : Nice W H inR f0 L) {y x : Nat} (hy : y < H) (hR : x < W → inR (y * W + x) ∨ (0 < x ∧ inR (y * W + x - 1))) : Nice W H inR f0 (partAt W L y x) := by
  unfold partAt
  split
  · rename_i hx
    refine h.set (at_lt hx.1 hy) (unit1_blank _) ?_
    rcases hR hx.1 with h1 | ⟨-, h1⟩
    · exact .inl h1
    · exact .inr ⟨hx.2, h1, rfl⟩
  · exact h
theorem nice_part {X Y RW RH : Nat} {L : List CV} (h : Nice W H inR f0 L) (hX : X + RW ≤ W) (hp : 0 < RH → 0 < RW) (hS : ∀ x y, X ≤ x → x < X + RW → Y ≤ y → y < Y + RH → inR (y * W + x)) : ∀ k, k ≤ RH → Y + k ≤ H → Nice W H inR f0 (partT W X Y RW k L) ∧ ∀ y, Y ≤ y → y < Y + k → NB W X RW (gf (partT W X Y RW k L)) y
  | 0, _, _ => ⟨h, fun y _ _ => by omega⟩
  | k + 1, hk, hH => by
    obtain ⟨h1, h2⟩ := nice_part h hX hp hS k (by omega) (by omega)
    have hRW := hp (by omega)
    show Nice W H inR f0 (partAt W (partAt W (partT W X Y RW k L) (Y + k) X) (Y + k) (X + RW)) ∧ ∀ y, Y ≤ y → y < Y + (k + 1) → NB W X RW (gf (partAt W (partAt W (partT W X Y RW k L) (Y + k) X) (Y + k) (X + RW))) y
    have n1 := nice_partAt (x := X) h1 (show Y + k < H by omega) (fun _ => .inl (hS X (Y + k) (Nat.le_refl _) (by omega) (by omega) (by omega)))
    have n2 := nice_partAt (x := X + RW) n1 (show Y + k < H by omega) (fun _ => .inr ⟨by omega, by
      have := hS (X + RW - 1) (Y + k) (by omega) (by omega) (by omega) (by omega)
      rw [show (Y + k) * W + (X + RW) - 1 = (Y + k) * W + (X + RW - 1) by omega]
      exact this⟩)
    obtain ⟨a1, a2⟩ := partAt_wd h1.good (x := X) (show Y + k < H by omega)
    obtain ⟨b1, b2⟩ := partAt_wd n1.good (x := X + RW) (show Y + k < H by omega)
    refine ⟨n2, fun y hy1 hy2 => ?_⟩
    by_cases e : y = Y + k
    · subst e
      exact ⟨fun hx => b1 _ (a2 hx), fun hx => b2 hx⟩
    · obtain ⟨c1, c2⟩ := h2 y hy1 (by omega)
      exact ⟨fun hx => b1 _ (a1 _ (c1 hx)), fun hx => b1 _ (a1 _ (c2 hx))⟩
theorem gf_of_get {L M : List CV} {i : Nat} (h : M[i]? = L[i]?) : gf M i = gf L i := by
  unfold gf
  rw [List.getD_eq_getElem?_getD, List.getD_eq_getElem?_getD, h]
theorem fillRow_gf {X RW y : Nat} {c : CV} {L : List CV} (hl : y * W + X + RW ≤ L.length) (j : Nat) : gf (fillRow W y X c RW L) j = if y * W + X ≤ j ∧ j < y * W + X + RW then c else gf L j := by
  unfold gf
  rw [List.getD_eq_getElem?_getD, fillRow_get _ _ _ _ _ _ _ hl, List.getD_eq_getElem?_getD]
  split <;> rfl
theorem copyRow_gf {X RW y z : Nat} {O L : List CV} (hl : y * W + X + RW ≤ L.length) (j : Nat) : gf (copyRow W y z X O RW L) j = if y * W + X ≤ j ∧ j < y * W + X + RW then gf O (z * W + X + (j - (y * W + X))) else gf L j := by
  unfold gf
  rw [List.getD_eq_getElem?_getD, copyRow_get _ _ _ _ _ _ _ _ hl, List.getD_eq_getElem?_getD]
  split <;> rfl
theorem row_fits {X RW y : Nat} {L : List CV} (hl : L.length = W * H) (hX : X + RW ≤ W) (hy : y < H) : y * W + X + RW ≤ L.length := by
  have := Nat.mul_le_mul_right W (show y + 1 ≤ H from hy)
  rw [Nat.add_mul, Nat.one_mul, Nat.mul_comm H W] at this
  omega
theorem in_seg {X RW y : Nat} {Y RH : Nat} (hX : X + RW ≤ W) (hS : ∀ x y, X ≤ x → x < X + RW → Y ≤ y → y < Y + RH → inR (y * W + x)) (h1 : Y ≤ y) (h2 : y < Y + RH) {k : Nat} (hk : y * W + X ≤ k ∧ k < y * W + X + RW) : inR k := by
  obtain ⟨t, rfl⟩ : ∃ t, k = y * W + X + t := ⟨k - (y * W + X), by omega⟩
  rw [Nat.add_assoc]
  exact hS _ _ (by omega) (by omega) h1 h2
theorem sf_const {W n : Nat} {c : CV} (hc : unit1 c = 1) : SF W n (fun _ => c) := fun _ _ => .inl hc
theorem nb_const {W X RW z : Nat} {c : CV} (hc : unit1 c = 1) : NB W X RW (fun _ => c) z := ⟨fun _ => by rw [unit1_w1 hc]; omega, fun _ => by rw [unit1_w1 hc]; omega⟩
theorem nice_fill {X Y RW RH : Nat} {c : CV} {L : List CV} (h : Nice W H inR f0 L) (hc : unit1 c = 1) (hX : X + RW ≤ W) (hY : Y + RH ≤ H) (hS : ∀ x y, X ≤ x → x < X + RW → Y ≤ y → y < Y + RH → inR (y * W + x)) (hN : ∀ y, Y ≤ y → y < Y + RH → NB W X RW (gf L) y) : ∀ k, k ≤ RH → Nice W H inR f0 (fillRect W X Y RW c k L) ∧ ∀ y, Y ≤ y → y < Y + RH → NB W X RW (gf (fillRect W X Y RW c k L)) y
  | 0, _ => ⟨h, hN⟩
  | k + 1, hk => by
    obtain ⟨h1, h2⟩ := nice_fill h hc hX hY hS hN k (by omega)
    have hfit := row_fits h1.len hX (show Y + k < H by omega)
    have hg : ∀ j, gf (fillRect W X Y RW c (k + 1) L) j = if (Y + k) * W + X ≤ j ∧ j < (Y + k) * W + X + RW then (fun _ => c) (0 * W + X + (j - ((Y + k) * W + X))) else gf (fillRect W X Y RW c k L) j := fun j => fillRow_gf hfit j
    refine ⟨⟨by rw [fillRect_len, h.len], sf_splice h1.sf (sf_const hc) hX (show 0 < H by omega) (h2 _ (by omega) (by omega)) (nb_const hc) hg, chg_in h1.chg fun q hq hqR => ?_⟩, fun y hy1 hy2 => nb_splice (z := 0) hX (h2 y hy1 hy2) (nb_const hc) hg⟩
    rw [hg, if_neg (fun hs => hqR (in_seg hX hS (by omega) (by omega) hs))]
theorem nice_shift {X Y RW RH : Nat} {D : Int} {c : CV} {O L : List CV} (h : Nice W H inR f0 L) (hO : SF W (W * H) (gf O)) (hc : unit1 c = 1) (hX : X + RW ≤ W) (hY : Y + RH ≤ H) (hS : ∀ x y, X ≤ x → x < X + RW → Y ≤ y → y < Y + RH → inR (y * W + x)) (hN : ∀ y, Y ≤ y → y < Y + RH → NB W X RW (gf L) y) (hNO : ∀ y, Y ≤ y → y < Y + RH → NB W X RW (gf O) y) : ∀ k, k ≤ RH → Nice W H inR f0 (shiftT W X Y RW RH D c O k L) ∧ ∀ y, Y ≤ y → y < Y + RH → NB W X RW (gf (shiftT W X Y RW RH D c O k L)) y
  | 0, _ => ⟨h, hN⟩
  | k + 1, hk => by
    obtain ⟨h1, h2⟩ := nice_shift h hO hc hX hY hS hN hNO k (by omega)
    have hfit := row_fits h1.len hX (show Y + k < H by omega)
    show Nice W H inR f0 (shiftRow W X Y RW RH D c O (Y + k) (shiftT W X Y RW RH D c O k L)) ∧ ∀ y, Y ≤ y → y < Y + RH → NB W X RW (gf (shiftRow W X Y RW RH D c O (Y + k) (shiftT W X Y RW RH D c O k L))) y
    generalize shiftT W X Y RW RH D c O k L = M at *
    unfold shiftRow
    split
    · rename_i hD
      have hz1 : Y ≤ (((Y + k : Nat) : Int) + D).toNat ∧ (((Y + k : Nat) : Int) + D).toNat < Y + RH := by omega
      generalize (((Y + k : Nat) : Int) + D).toNat = z at *
      have hg := copyRow_gf (z := z) (O := O) hfit
      have nO := hNO z hz1.1 hz1.2
      refine ⟨⟨by rw [copyRow_len, h1.len], sf_splice h1.sf hO hX (show z < H by omega) (h2 _ (by omega) (by omega)) nO hg, chg_in h1.chg fun q hq hqR => ?_⟩, fun y hy1 hy2 => nb_splice hX (h2 y hy1 hy2) nO hg⟩
      rw [hg, if_neg (fun hs => hqR (in_seg hX hS (by omega) (by omega) hs))]
    · have hg : ∀ j, gf (fillRow W (Y + k) X c RW M) j = if (Y + k) * W + X ≤ j ∧ j < (Y + k) * W + X + RW then (fun _ => c) (0 * W + X + (j - ((Y + k) * W + X))) else gf M j := fun j => fillRow_gf hfit j
      refine ⟨⟨by rw [fillRow_len, h1.len], sf_splice h1.sf (sf_const hc) hX (show 0 < H by omega) (h2 _ (by omega) (by omega)) (nb_const hc) hg, chg_in h1.chg fun q hq hqR => ?_⟩, fun y hy1 hy2 => nb_splice (z := 0) hX (h2 y hy1 hy2) (nb_const hc) hg⟩
      rw [hg, if_neg (fun hs => hqR (in_seg hX hS (by omega) (by omega) hs))]
end
end Go.Proofs.YtdgcfmfjgidbjaaGreat.cel
namespace Go.Proofs.YtdgcfmfjgidbjaaGreat.cel
open Go Go.RowKit Go.Proofs
open Go.Proofs.YtdgcfmfjgidbjaaGreat.wrp (TV t0 flow flowText nl sp flow_any flow_len kept2 del2 sp_eq nl_eq)
open Go.Proofs.YtdgcfmfjgidbjaaGreat.clu (cells2 told oneOk)
open Go.Proofs.YtdgcfmfjgidbjaaGreat.utf (bs runes str text)
set_option linter.unusedVariables false

/-- no halves -/
def Strong (W H : Nat) (L : List CV) : Prop := L.length = W * H ∧ SF W (W * H) (gf L)
theorem Nice.strong {W H : Nat} {inR : Nat → Prop} {f0 : Nat → CV} {L : List CV} (h : Nice W H inR f0 L) : Strong W H L := ⟨h.len, h.sf⟩
theorem Strong.nice {W H : Nat} {L : List CV} (h : Strong W H L) (inR : Nat → Prop) : Nice W H inR (gf L) L := ⟨h.1, h.2, Chg.refl _ _ _⟩
/-- what a call lets in: all of a rectangle, or a row of it -/
def inD (r : RT) (y : Int) (all : Bool) (W : Nat) (k : Nat) : Prop := hasT r ((k % W : Nat) : Int) ((k / W : Nat) : Int) = true ∧ (all = true ∨ ((k / W : Nat) : Int) = y)
theorem at_div {W : Nat} {x y : Int} (hx : 0 ≤ x ∧ x < W) (hy : 0 ≤ y) : (y * W + x).toNat / W = y.toNat := by
  obtain ⟨x', rfl⟩ : ∃ n : Nat, x = n := ⟨x.toNat, by omega⟩
  obtain ⟨y', rfl⟩ : ∃ n : Nat, y = n := ⟨y.toNat, by omega⟩
  have e : ((y' : Int) * W + x').toNat = y' * W + x' := by
    have : ((y' : Int) * W + x') = ((y' * W + x' : Nat) : Int) := by push_cast; rfl
    rw [this]; rfl
  rw [e, div_at (by omega)]
  simp
theorem in_row {r : RT} {W H : Nat} (hW : W ≤ 4096) (hH : H ≤ 4096) {y x : Int} (h : hasT (letIn r W H) x y = true) : inD r y false W (y * W + x).toNat := by
  obtain ⟨a1, a2, a3, a4⟩ := (let_in r W H hW hH).2 x y h
  unfold inD
  rw [(at_mod ⟨a1, a2⟩ ⟨a3, a4⟩).2, at_div ⟨a1, a2⟩ a3, Int.toNat_of_nonneg a1, Int.toNat_of_nonneg a3]
  exact ⟨let_has r W H hW hH h, .inr rfl⟩
theorem in_box {r : RT} {W H : Nat} (hW : W ≤ 4096) (hH : H ≤ 4096) {X Y RW RH : Nat} (hl : letIn r W H = ⟨X, Y, RW, RH⟩) (hX : X + RW ≤ W) (hY : Y + RH ≤ H) (y0 : Int) : ∀ x y, X ≤ x → x < X + RW → Y ≤ y → y < Y + RH → inD r y0 true W (y * W + x) := by
  intro x y h1 h2 h3 h4
  unfold inD
  rw [mod_at (by omega), div_at (by omega)]
  refine ⟨let_has r W H hW hH ?_, .inl rfl⟩
  rw [hl]
  exact box_has (by omega) (by omega) (by omega) (by omega)
section
variable {b g W H : Nat} {L : List CV} {w : World}
theorem put_keeps (x y : Int) (t : ByteArray) (s : SV) (r : RT) (h : Buf w b g W H L) (hS : Strong W H L) (hr : r.wf) (ht : t.size ≤ 68719476736) :
    Calls Tryz.prog 12 #[.pointer (some ⟨b, 0, none⟩), .int .i64 x, .int .i64 y, .string t, s.val, r.val] w fun e w' => e = .returned (.int .i64 (putW (flow t) : Nat)) ∧ ∃ L', Buf w' b g W H L' ∧ Nice W H (inD r y false W) (gf L) L' ∧ w.grownBy w' (some g) := by
  have hN := hS.nice (inD r y false W)
  refine (put_any b g W H L x y t s r w h hN.good hr ht).mono fun e w' ⟨he, hb, _, hg⟩ => ⟨he, _, hb, ?_, hg⟩
  have h1 := nice_put (r := letIn r W H) (y := y) (s := overS s) (let_in r W H h.wide h.high).2 (fun x hx => in_row h.wide h.high hx) (F := flow t) (fun k hk => flow_one (by
    rw [List.getD_eq_getElem?_getD, List.getElem?_eq_getElem hk]
    exact List.getElem_mem _) s) (x := farX x) hN (flow t).length (Nat.le_refl _)
  rw [List.take_of_length_le (Nat.le_refl _)] at h1
  exact h1
theorem paste_keeps (x y : Int) (a : Option Addr) (cap : Nat) (R : List CV) (r : RT) (h : Buf w b g W H L) (hS : Strong W H L) (hr : r.wf) (hR : Reads5 w (.slice a R.length cap) R) (hcap : R.length ≤ cap) (hN : R.length ≤ 140737488355328) (hL : ∀ c ∈ R, Fit c) (hfar : ∀ b off, a = some ⟨b, off, none⟩ → b ≠ g) :
    Calls Tryz.prog 17 #[.pointer (some ⟨b, 0, none⟩), .int .i64 x, .int .i64 y, .slice a R.length cap, r.val] w fun e w' => e = .returned (.int .i64 (if wholeT R = true then 0 else 180)) ∧ ∃ L', Buf w' b g W H L' ∧ Nice W H (inD r y false W) (gf L) L' ∧ w.grownBy w' (some g) := by
  have hN2 := hS.nice (inD r y false W)
  refine (paste_any b g W H L x y a cap R r w h hN2.good hr hR hcap hN hL hfar).mono fun e w' ⟨he, hb, _, hg⟩ => ⟨he, _, hb, ?_, hg⟩
  split
  · rename_i hw
    exact nice_paste (let_in r W H h.wide h.high).2 (fun x hx => in_row h.wide h.high hx) R.length 0 L hN2 (by rw [List.drop_zero]; exact hw)
  · exact hN2
theorem fill_keeps (y0 : Int) (r : RT) (s : SV) (h : Buf w b g W H L) (hS : Strong W H L) (hr : r.wf) :
    Calls Tryz.prog 14 #[.pointer (some ⟨b, 0, none⟩), r.val, s.val] w fun e w' => e = .returned (.tuple #[]) ∧ ∃ L', Buf w' b g W H L' ∧ Nice W H (inD r y0 true W) (gf L) L' ∧ w.grownBy w' (some g) := by
  have hN := hS.nice (inD r y0 true W)
  obtain ⟨X, Y, RW, RH, hl, hX, hY, hp⟩ := let_nat2 r W H h.wide h.high
  refine (fill_any b g W H L r s X Y RW RH w h hN.good hr hl hX hY).mono fun e w' ⟨he, hb, hg⟩ => ⟨he, _, hb, ?_, hg⟩
  have hB := in_box h.wide h.high hl hX hY y0
  obtain ⟨h1, h2⟩ := nice_part hN hX hp hB RH (Nat.le_refl _) hY
  exact (nice_fill h1 (unit1_blank s) hX hY hB h2 RH (Nat.le_refl _)).1
theorem shift_keeps (y0 : Int) (r : RT) (by0 : Int) (s : SV) (h : Buf w b g W H L) (hS : Strong W H L) (hr : r.wf) :
    Calls Tryz.prog 20 #[.pointer (some ⟨b, 0, none⟩), r.val, .int .i64 by0, s.val] w fun e w' => e = .returned (.tuple #[]) ∧ ∃ L', Buf w' b g W H L' ∧ Nice W H (inD r y0 true W) (gf L) L' ∧ w.grownBy w' (some g) := by
  have hN := hS.nice (inD r y0 true W)
  obtain ⟨X, Y, RW, RH, hl, hX, hY, hp⟩ := let_nat2 r W H h.wide h.high
  refine (shift_any b g W H L r by0 s X Y RW RH w h hN.good hr hl hX hY hp).mono fun e w' ⟨he, hb, hg⟩ => ⟨he, _, hb, ?_, hg⟩
  have hB := in_box h.wide h.high hl hX hY y0
  obtain ⟨h1, h2⟩ := nice_part hN hX hp hB RH (Nat.le_refl _) hY
  exact (nice_shift h1 h1.sf (unit1_blank s) hX hY hB h2 h2 RH (Nat.le_refl _)).1
end
/-- a new buffer -/
theorem strong_new (W H : Nat) : Strong W H (fillT (W * H) (W * H)) := by
  refine ⟨by unfold fillT; simp, fun i hi => .inl ?_⟩
  have : gf (fillT (W * H) (W * H)) i = b0 := by
    unfold gf fillT
    rw [Nat.sub_self, List.replicate_zero, List.append_nil, List.getD_eq_getElem?_getD, List.getElem?_replicate, if_pos hi]
    rfl
  rw [this]
  exact unit1_blank s0
/-- a row of a buffer without halves -/
theorem strong_row {W H : Nat} {L : List CV} (h : Strong W H L) {y : Nat} (hy : y < H) : wholeT ((L.drop (y * W)).take W) = true := by
  obtain ⟨hl, hf⟩ := h
  have hfit : y * W + W ≤ L.length := by
    have := Nat.mul_le_mul_right W (show y + 1 ≤ H from hy)
    rw [Nat.add_mul, Nat.one_mul, Nat.mul_comm H W] at this
    omega
  obtain ⟨R, hR⟩ : ∃ R, R = (L.drop (y * W)).take W := ⟨_, rfl⟩
  rw [← hR]
  have hlen : R.length = W := by rw [hR, List.length_take, List.length_drop]; omega
  have hget : ∀ x, x < W → R.getD x z0 = gf L (y * W + x) := fun x hx => by
    rw [hR]
    unfold gf
    simp only [List.getD_eq_getElem?_getD]
    rw [List.getElem?_take_of_lt hx, List.getElem?_drop]
  have hdrop : ∀ x, x < W → R.drop x = gf L (y * W + x) :: R.drop (x + 1) := fun x hx => by
    rw [List.drop_eq_getElem_cons (by omega), ← hget x hx]
    simp [List.getD_eq_getElem?_getD, hlen, hx]
  have key : ∀ n x, W - x ≤ n → x ≤ W → (x < W → (gf L (y * W + x)).wide ≠ 0) → wholeT (R.drop x) = true := by
    intro n
    induction n with
    | zero =>
      intro x h1 h2 h3
      have : x = R.length := by omega
      rw [this]; exact wholeT_end R
    | succ n ih =>
      intro x h1 h2 h3
      by_cases hx : x < W
      · rw [wholeT_step (by omega), hdrop x hx]
        have hlt := at_lt (y := y) hx hy
        rcases hf _ hlt with k1 | ⟨k1, k2, k3⟩ | ⟨k1, k2, k3⟩
        · rw [unitT_one k1]
          simp only [Nat.max_self, Bool.and_eq_true, decide_eq_true_eq]
          refine ⟨by omega, ih _ (by omega) (by omega) fun hx1 hw => ?_⟩
          rcases hf _ (at_lt (y := y) hx1 hy) with e1 | ⟨e1, -, -⟩ | ⟨e0, e1, e2⟩
          · rw [unit1_w1 e1] at hw; omega
          · rw [unit1_w2 e1] at hw; omega
          · rw [show y * W + (x + 1) - 1 = y * W + x by omega] at e1; omega
        · rw [mod_at hx] at k2
          have h4 : R.drop (x + 1) = restT (gf L (y * W + x)).sty :: R.drop (x + 2) := by
            rw [hdrop (x + 1) k2, ← k3]; rfl
          rw [h4, unitT_two k1]
          simp only [Bool.and_eq_true, decide_eq_true_eq]
          refine ⟨by omega, ih _ (by omega) (by omega) fun hx2 hw => ?_⟩
          rw [show max 2 1 = 2 from rfl] at hw hx2
          rcases hf _ (at_lt (y := y) hx2 hy) with e1 | ⟨e1, -, -⟩ | ⟨e0, e1, e2⟩
          · rw [unit1_w1 e1] at hw; omega
          · rw [unit1_w2 e1] at hw; omega
          · rw [show y * W + (x + 2) - 1 = y * W + x + 1 by omega, k3] at e1
            exact absurd (unit1_w2 e1) (by show ¬ (0 : Int) = 2; omega)
        · exfalso
          exact h3 hx (by rw [k3]; rfl)
      · have : x = R.length := by omega
        rw [this]; exact wholeT_end R
  have := key W 0 (by omega) (by omega) fun h0 hw => by
    rcases hf _ (at_lt (y := y) h0 hy) with e1 | ⟨e1, -, -⟩ | ⟨e0, e1, e2⟩
    · rw [unit1_w1 e1] at hw; omega
    · rw [unit1_w2 e1] at hw; omega
    · rw [mod_at h0] at e0; omega
  simpa using this
/-- its cells are of the sizes that are told -/
theorem plainC_w32 (c : Int) : w32 (plainC c) := by
  unfold plainC w32
  by_cases h : c = 1
  · rw [if_pos h]; omega
  · rw [if_neg h]
    by_cases h2 : rightC c = true
    · rw [if_pos h2]
      unfold rightC at h2
      simp only [Bool.or_eq_true, beq_iff_eq] at h2
      rcases h2 with (h2 | h2) | h2
      · omega
      · omega
      · split at h2
        · simp only [decide_eq_true_eq] at h2; omega
        · simp only [Bool.and_eq_true, decide_eq_true_eq] at h2; omega
    · rw [if_neg h2]; omega
theorem over_w32 {s : SV} (h : overS s = s) : s.wf := by
  rw [← h]
  exact ⟨plainC_w32 _, plainC_w32 _⟩
theorem unit_fit {c : CV} (h : 0 < unit1 c) : Fit c ∧ c.sty.wf ∧ overS c.sty = c.sty := by
  obtain ⟨h1, h2, h3⟩ := sized1 h
  have h4 := one_size h1
  have h5 := unit1_le c
  refine ⟨⟨by omega, by omega, by omega⟩, over_w32 h3, h3⟩
theorem rest_fit {s : SV} (h : s.wf) : Fit (restT s) ∧ (restT s).sty.wf := ⟨⟨by show (ByteArray.size ⟨#[]⟩) ≤ _; decide, by show (-128 : Int) ≤ 0; omega, by show (0 : Int) ≤ 127; omega⟩, h⟩
theorem strong_fit {W H : Nat} {L : List CV} (h : Strong W H L) : ∀ c ∈ L, Fit c ∧ c.sty.wf := by
  intro c hc
  obtain ⟨i, hi, rfl⟩ := List.getElem_of_mem hc
  have e : L[i] = gf L i := by unfold gf; simp [List.getD_eq_getElem?_getD, hi]
  rw [e]
  rcases h.2 i (by rw [← h.1]; exact hi) with k1 | ⟨k1, -, -⟩ | ⟨-, k1, k3⟩
  · have := unit_fit (c := gf L i) (by omega); exact ⟨this.1, this.2.1⟩
  · have := unit_fit (c := gf L i) (by omega); exact ⟨this.1, this.2.1⟩
  · rw [k3]; exact rest_fit (unit_fit (c := gf L (i - 1)) (by omega)).2.1
end Go.Proofs.YtdgcfmfjgidbjaaGreat.cel
