/-
  What the program's buffer and the document's come to is the same.
-/
import Derived.Test.YtdgcfmfjgidbjaaGreatCelRT
namespace Go.Proofs.YtdgcfmfjgidbjaaGreat.cel
open Go Go.RowKit Go.Proofs
open Go.Proofs.YtdgcfmfjgidbjaaGreat.wrp (TV t0 flow flow_len)
set_option linter.unusedVariables false
theorem lay_out (W : Nat) (L : List CV) (x y : Int) (c : CV) : layT W L x y c false false = L := by
  unfold layT
  simp
theorem putT_out {W : Nat} {lt : RT} {y : Int} {s : SV} : ∀ (F : List TV) (x : Int) (L : List CV), (∀ p, x ≤ p → p ≤ x + (putW F : Nat) → hasT lt p y = false ∧ hasT lt (p + 1) y = false) → (putT W lt y s x L F).2 = L
  | [], x, L, _ => rfl
  | q :: F, x, L, h => by
    have e : putT W lt y s x L (q :: F) = putT W lt y s (x + ((shownQ q).2 : Nat)) (layT W L x y (cellQ s q) (hasT lt x y) (hasT lt (x + 1) y)) F := rfl
    have hw : putW (q :: F) = (shownQ q).2 + putW F := by unfold putW; simp
    obtain ⟨h1, h2⟩ := h x (by omega) (by omega)
    rw [e, h1, h2, lay_out]
    exact putT_out F _ L (fun p hp1 hp2 => h p (by omega) (by rw [hw]; push_cast; omega))
theorem put_far {W H : Nat} {lt : RT} {y x : Int} {s : SV} {L : List CV} {t : ByteArray} (hin : ∀ x y, hasT lt x y = true → 0 ≤ x ∧ x < W ∧ 0 ≤ y ∧ y < H) (hW : W ≤ 4096) (ht : t.size ≤ 134217728) : (putT W lt y s (farX x) L (flow t)).2 = (putT W lt y s (farR x) L (flow t)).2 := by
  have hb : putW (flow t) ≤ 2 * (flow t).length := by
    have h1 := putW_le (F := flow t) (fun k hk => by have := flow_at t hk; omega) (flow t).length (Nat.le_refl _)
    rw [List.take_of_length_le (Nat.le_refl _)] at h1
    exact h1
  have hl := flow_len t
  have hno : ∀ p, (p < -1 ∨ 4096 ≤ p) → hasT lt p y = false ∧ hasT lt (p + 1) y = false := by
    intro p hp
    constructor
    · cases h1 : hasT lt p y
      · rfl
      · have := hin _ _ h1; omega
    · cases h1 : hasT lt (p + 1) y
      · rfl
      · have := hin _ _ h1; omega
  by_cases h1 : -1099511627776 ≤ x ∧ x ≤ 1099511627776
  · have e : farX x = farR x := by unfold farX farR; omega
    rw [e]
  · rw [putT_out (flow t) (farX x) L (fun p h2 h3 => hno p (by unfold farX at h2 h3; omega)), putT_out (flow t) (farR x) L (fun p h2 h3 => hno p (by unfold farR at h2 h3; omega))]
theorem pasteF_out {W : Nat} {lt : RT} {y x : Int} {R : List CV} (h : ∀ p, x ≤ p → p ≤ x + (R.length : Nat) → hasT lt p y = false ∧ hasT lt (p + 1) y = false) : ∀ (f i : Nat) (L : List CV), pasteF W lt y x R f i L = L
  | 0, i, L => rfl
  | f + 1, i, L => by
    unfold pasteF
    split
    · obtain ⟨h1, h2⟩ := h (x + (i : Nat)) (by omega) (by omega)
      rw [h1, h2, lay_out]
      exact pasteF_out h f _ L
    · rfl
theorem paste_far {W H : Nat} {lt : RT} {y x : Int} {R L : List CV} (hin : ∀ x y, hasT lt x y = true → 0 ≤ x ∧ x < W ∧ 0 ≤ y ∧ y < H) (hW : W ≤ 4096) (hR : R.length ≤ 134217728) : pasteT W lt y (farX x) R L = pasteT W lt y (farR x) R L := by
  have hno : ∀ p, (p < -1 ∨ 4096 ≤ p) → hasT lt p y = false ∧ hasT lt (p + 1) y = false := by
    intro p hp
    constructor
    · cases h1 : hasT lt p y
      · rfl
      · have := hin _ _ h1; omega
    · cases h1 : hasT lt (p + 1) y
      · rfl
      · have := hin _ _ h1; omega
  by_cases h1 : -1099511627776 ≤ x ∧ x ≤ 1099511627776
  · have e : farX x = farR x := by unfold farX farR; omega
    rw [e]
  · unfold pasteT
    rw [pasteF_out (fun p h2 h3 => hno p (by unfold farX at h2 h3; omega)), pasteF_out (fun p h2 h3 => hno p (by unfold farR at h2 h3; omega))]
/-! PAIRS THAT ARE BROKEN -/
/-- L, with the pairs broken whose heads P tells -/
def IsB (L : List CV) (P : Nat → Prop) (M : List CV) : Prop := M.length = L.length ∧ ∀ k, k < L.length → ((wd L k = 2 ∧ P k) ∨ (wd L k = 0 ∧ P (k - 1)) → gf M k = blankT (gf L k).sty) ∧ (¬ ((wd L k = 2 ∧ P k) ∨ (wd L k = 0 ∧ P (k - 1))) → gf M k = gf L k)
theorem IsB.refl (L : List CV) : IsB L (fun _ => False) L := ⟨rfl, fun k hk => ⟨fun h => by rcases h with h | h <;> exact h.2.elim, fun _ => rfl⟩⟩
theorem gf_ext {A B : List CV} (hl : A.length = B.length) (h : ∀ k, k < A.length → gf A k = gf B k) : A = B := list_eq hl h
theorem IsB.eq {L M M' : List CV} {P P' : Nat → Prop} {W H : Nat} (hS : Strong W H L) (h : IsB L P M) (h' : IsB L P' M') (hP : ∀ k, k < L.length → wd L k = 2 → (P k ↔ P' k)) : M = M' := by
  refine gf_ext (h.1.trans h'.1.symm) (fun k hk => ?_)
  rw [h.1] at hk
  have hG := (hS.nice (fun _ => True)).good
  have hprev : wd L k = 0 → (P (k - 1) ↔ P' (k - 1)) := by
    intro h0
    rcases hG.2 k (by rw [← hS.1]; exact hk) with h1 | ⟨h1, -⟩ | ⟨-, -, h3⟩
    · omega
    · omega
    · exact hP (k - 1) (by omega) h3
  have hiff : ((wd L k = 2 ∧ P k) ∨ (wd L k = 0 ∧ P (k - 1))) ↔ ((wd L k = 2 ∧ P' k) ∨ (wd L k = 0 ∧ P' (k - 1))) := by
    constructor
    · rintro (⟨a, b⟩ | ⟨a, b⟩)
      · exact .inl ⟨a, (hP k hk a).1 b⟩
      · exact .inr ⟨a, (hprev a).1 b⟩
    · rintro (⟨a, b⟩ | ⟨a, b⟩)
      · exact .inl ⟨a, (hP k hk a).2 b⟩
      · exact .inr ⟨a, (hprev a).2 b⟩
  by_cases h1 : (wd L k = 2 ∧ P k) ∨ (wd L k = 0 ∧ P (k - 1))
  · rw [(h.2 k hk).1 h1, (h'.2 k hk).1 (hiff.1 h1)]
  · rw [(h.2 k hk).2 h1, (h'.2 k hk).2 (fun h2 => h1 (hiff.2 h2))]
/-- a head and its rest -/
theorem strong_head {W H : Nat} {L : List CV} (hS : Strong W H L) {h : Nat} (hh : h < L.length) (h2 : wd L h = 2) : h + 1 < L.length ∧ wd L (h + 1) = 0 ∧ (gf L (h + 1)).sty = (gf L h).sty ∧ h % W + 1 < W := by
  have hn : h < W * H := by rw [← hS.1]; exact hh
  have hG := (hS.nice (fun _ => True)).good
  have h3 := (good_pre hG hn).2 h2
  rcases hS.2 h hn with h1 | ⟨h1, h4, h5⟩ | ⟨h1, h4, h5⟩
  · have := unit1_w1 h1
    change (gf L h).wide = 2 at h2
    omega
  · refine ⟨by rw [hS.1]; exact h3, ?_, by rw [h5]; rfl, h4⟩
    show (gf L (h + 1)).wide = 0
    rw [h5]
    rfl
  · change (gf L h).wide = 2 at h2
    rw [h5] at h2
    exact absurd h2 (by show ¬ (0 : Int) = 2; decide)
theorem wd_gf (L : List CV) (k : Nat) : wd L k = (gf L k).wide := rfl
theorem IsB.wd_of {L M : List CV} {P : Nat → Prop} (h : IsB L P M) {k : Nat} (hk : k < L.length) : (wd M k = 2 ↔ wd L k = 2 ∧ ¬ P k) ∧ (wd M k = 0 ↔ wd L k = 0 ∧ ¬ P (k - 1)) := by
  by_cases h1 : (wd L k = 2 ∧ P k) ∨ (wd L k = 0 ∧ P (k - 1))
  · have e : wd M k = 1 := by rw [wd_gf, (h.2 k hk).1 h1]; rfl
    rw [e]
    rcases h1 with ⟨a, b⟩ | ⟨a, b⟩
    · exact ⟨⟨fun h => by omega, fun h => absurd b h.2⟩, ⟨fun h => by omega, fun h => by omega⟩⟩
    · exact ⟨⟨fun h => by omega, fun h => by omega⟩, ⟨fun h => by omega, fun h => absurd b h.2⟩⟩
  · have e : wd M k = wd L k := by rw [wd_gf, (h.2 k hk).2 h1, ← wd_gf]
    rw [e]
    exact ⟨⟨fun h => ⟨h, fun hp => h1 (.inl ⟨h, hp⟩)⟩, fun h => h.1⟩, ⟨fun h => ⟨h, fun hp => h1 (.inr ⟨h, hp⟩)⟩, fun h => h.1⟩⟩
/-- one more pair broken -/
theorem IsB.more {W H : Nat} {L M M' : List CV} {P : Nat → Prop} {h : Nat} (hS : Strong W H L) (hB : IsB L P M) (hh : h < L.length) (h2 : wd L h = 2) (hl : M'.length = M.length)
    (hg : ∀ k, k < L.length → gf M' k = if k = h ∨ k = h + 1 then blankT (gf L h).sty else gf M k) : IsB L (fun k => P k ∨ k = h) M' := by
  obtain ⟨s1, s2, s3, s4⟩ := strong_head hS hh h2
  have hG := (hS.nice (fun _ => True)).good
  refine ⟨hl.trans hB.1, fun k hk => ⟨fun hc => ?_, fun hc => ?_⟩⟩
  · rw [hg k hk]
    by_cases hkh : k = h ∨ k = h + 1
    · rw [if_pos hkh]
      rcases hkh with rfl | rfl
      · rfl
      · rw [s3]
    · rw [if_neg hkh]
      refine (hB.2 k hk).1 ?_
      rcases hc with ⟨a, b | b⟩ | ⟨a, b | b⟩
      · exact .inl ⟨a, b⟩
      · exact absurd (.inl b) hkh
      · exact .inr ⟨a, b⟩
      · exfalso
        refine hkh (.inr ?_)
        rcases hG.2 k (by rw [← hS.1]; exact hk) with h1 | ⟨h1, -⟩ | ⟨-, h3, h4⟩
        · omega
        · omega
        · rcases Nat.eq_zero_or_pos k with h0 | h0
          · subst h0; simp at h3
          · omega
  · rw [hg k hk]
    have hkh : ¬ (k = h ∨ k = h + 1) := by
      rintro (rfl | rfl)
      · exact hc (.inl ⟨h2, .inr rfl⟩)
      · exact hc (.inr ⟨s2, .inr (by omega)⟩)
    rw [if_neg hkh]
    refine (hB.2 k hk).2 (fun h3 => hc ?_)
    rcases h3 with ⟨a, b⟩ | ⟨a, b⟩
    · exact .inl ⟨a, .inl b⟩
    · exact .inr ⟨a, .inl b⟩
theorem IsB.same {L M : List CV} {P P' : Nat → Prop} {W H : Nat} (hS : Strong W H L) (h : IsB L P M) (hP : ∀ k, k < L.length → wd L k = 2 → (P k ↔ P' k)) : IsB L P' M := by
  refine ⟨h.1, fun k hk => ?_⟩
  have hG := (hS.nice (fun _ => True)).good
  have hprev : wd L k = 0 → (P (k - 1) ↔ P' (k - 1)) := by
    intro h0
    rcases hG.2 k (by rw [← hS.1]; exact hk) with h1 | ⟨h1, -⟩ | ⟨-, -, h3⟩
    · omega
    · omega
    · exact hP (k - 1) (by omega) h3
  refine ⟨fun hc => (h.2 k hk).1 ?_, fun hc => (h.2 k hk).2 (fun h1 => hc ?_)⟩
  · rcases hc with ⟨a, b⟩ | ⟨a, b⟩
    · exact .inl ⟨a, (hP k hk a).2 b⟩
    · exact .inr ⟨a, (hprev a).2 b⟩
  · rcases h1 with ⟨a, b⟩ | ⟨a, b⟩
    · exact .inl ⟨a, (hP k hk a).1 b⟩
    · exact .inr ⟨a, (hprev a).1 b⟩
theorem gf_broken2 {M : List CV} {h k : Nat} (hh : h + 1 < M.length) (h2 : wd M h = 2) : gf (brokenT M h) k = if k = h ∨ k = h + 1 then blankT (gf M h).sty else gf M k := by
  unfold brokenT headOf
  change (M.getD h z0).wide = 2 at h2
  rw [if_pos (.inr h2), if_neg (by omega), gf_set (by rw [List.length_set]; omega), gf_set (by omega)]
  change (if k = h + 1 then blankT (gf M h).sty else if k = h then blankT (gf M h).sty else gf M k) = _
  by_cases e1 : k = h + 1
  · rw [if_pos e1, if_pos (.inr e1)]
  · by_cases e2 : k = h
    · rw [if_neg e1, if_pos e2, if_pos (.inl e2)]
    · rw [if_neg e1, if_neg e2, if_neg (fun h => h.elim e2 e1)]
theorem isb_ed {W H : Nat} {r : RT} {L : List CV} (hS : Strong W H L) : ∀ m, m ≤ W * H → IsB L (fun k => k < m ∧ hasT r ((k % W : Nat) : Int) ((k / W : Nat) : Int) ≠ hasT r (((k % W : Nat) : Int) + 1) ((k / W : Nat) : Int)) (edT W r L m)
  | 0, _ => (IsB.refl L).same hS (fun k hk h2 => ⟨fun h => h.elim, fun h => by omega⟩)
  | m + 1, hm => by
    have ih := isb_ed (r := r) hS m (by omega)
    have hmL : m < L.length := by rw [hS.1]; omega
    have hw := ih.wd_of hmL
    unfold edT
    split
    · rename_i hc
      obtain ⟨c1, c2, c3⟩ := hc
      have h2 := (hw.1.1 c2).1
      have hgm : gf (edT W r L m) m = gf L m := (ih.2 m hmL).2 (fun h => by
        rcases h with ⟨-, h, -⟩ | ⟨h, -⟩
        · omega
        · omega)
      have s1 := (strong_head hS hmL h2).1
      have hl : (edT W r L m).length = L.length := ih.1
      refine (ih.more hS hmL h2 (broken_length _ _) (fun k hk => ?_)).same hS (fun k hk hk2 => ?_)
      · rw [gf_broken2 (by rw [hl]; exact s1) c2, hgm]
      · constructor
        · rintro (⟨h, h3⟩ | rfl)
          · exact ⟨by omega, h3⟩
          · exact ⟨by omega, c3⟩
        · rintro ⟨h, h3⟩
          rcases Nat.lt_or_ge k m with h4 | h4
          · exact .inl ⟨h4, h3⟩
          · exact .inr (by omega)
    · rename_i hc
      refine ih.same hS (fun k hk hk2 => ⟨fun h => ⟨by omega, h.2⟩, fun h => ⟨?_, h.2⟩⟩)
      rcases Nat.lt_or_ge k m with h4 | h4
      · exact h4
      · exfalso
        obtain rfl : k = m := by omega
        refine hc ⟨(strong_head hS hk hk2).2.2.2, hw.1.2 ⟨hk2, fun h => by omega⟩, h.2⟩
theorem isb_partAt {W H : Nat} {L M : List CV} {P : Nat → Prop} {y x : Nat} (hS : Strong W H L) (hB : IsB L P M) (hy : y < H) : IsB L (fun k => P k ∨ (x < W ∧ k + 1 = y * W + x)) (partAt W M y x) := by
  have hG := (hS.nice (fun _ => True)).good
  unfold partAt
  split
  · rename_i hc
    obtain ⟨hx, h0⟩ := hc
    have hp : y * W + x < L.length := by rw [hS.1]; exact at_lt hx hy
    have hw := (hB.wd_of hp).2.1 h0
    obtain ⟨w0, hnP⟩ := hw
    have hpos : 0 < y * W + x := by
      rcases hG.2 _ (by rw [← hS.1]; exact hp) with h1 | ⟨h1, -⟩ | ⟨-, h1, -⟩
      · omega
      · omega
      · rcases Nat.eq_zero_or_pos (y * W + x) with h2 | h2
        · rw [h2] at h1; simp at h1
        · exact h2
    have hh2 : wd L (y * W + x - 1) = 2 := by
      rcases hG.2 _ (by rw [← hS.1]; exact hp) with h1 | ⟨h1, -⟩ | ⟨-, -, h1⟩
      · omega
      · omega
      · exact h1
    generalize hpp : y * W + x = p at *
    obtain ⟨s1, s2, s3, s4⟩ := strong_head hS (show p - 1 < L.length by omega) hh2
    rw [show p - 1 + 1 = p by omega] at s1 s2 s3
    have hgh : gf M (p - 1) = gf L (p - 1) := (hB.2 (p - 1) (by omega)).2 (fun h => by
      rcases h with ⟨-, h⟩ | ⟨h, -⟩
      · exact hnP h
      · omega)
    have hgp : gf M p = gf L p := (hB.2 p hp).2 (fun h => by
      rcases h with ⟨h, -⟩ | ⟨-, h⟩
      · omega
      · exact hnP h)
    refine (hB.more (h := p - 1) hS (by omega) hh2 (by rw [set_length]) (fun k hk => ?_)).same hS (fun k hk hk2 => ?_)
    · unfold setT brokenT headOf
      change (M.getD p z0).wide = 0 at h0
      rw [if_pos (.inl h0), if_pos h0, gf_set (by rw [List.length_set, List.length_set, hB.1]; exact hp), gf_set (by rw [List.length_set, hB.1]; omega), gf_set (by rw [hB.1]; omega)]
      change (if k = p then blankT (gf M p).sty else if k = p - 1 + 1 then blankT (gf M (p - 1)).sty else if k = p - 1 then blankT (gf M (p - 1)).sty else gf M k) = _
      rw [hgh, hgp, s3]
      by_cases e1 : k = p
      · rw [if_pos e1, if_pos (.inr (by omega))]
      · by_cases e2 : k = p - 1
        · rw [if_neg e1, if_neg (by omega), if_pos e2, if_pos (.inl e2)]
        · rw [if_neg e1, if_neg (by omega), if_neg e2, if_neg (by omega)]
    · constructor
      · rintro (h | rfl)
        · exact .inl h
        · exact .inr ⟨hx, by omega⟩
      · rintro (h | ⟨-, h⟩)
        · exact .inl h
        · exact .inr (by omega)
  · rename_i hc
    refine hB.same hS (fun k hk hk2 => ⟨fun h => .inl h, fun h => ?_⟩)
    rcases h with h | ⟨hx, h⟩
    · exact h
    · obtain ⟨s1, s2, -, -⟩ := strong_head hS hk hk2
      rw [h] at s1 s2
      rcases Classical.em (P k) with hp | hp
      · exact hp
      · exfalso
        refine hc ⟨hx, (hB.wd_of s1).2.2 ⟨s2, ?_⟩⟩
        rw [show y * W + x - 1 = k by omega]
        exact hp
theorem isb_part {W H X Y RW : Nat} {L : List CV} (hS : Strong W H L) : ∀ k, Y + k ≤ H → IsB L (fun h => ∃ y, Y ≤ y ∧ y < Y + k ∧ ((X < W ∧ h + 1 = y * W + X) ∨ (X + RW < W ∧ h + 1 = y * W + (X + RW)))) (partT W X Y RW k L)
  | 0, _ => (IsB.refl L).same hS (fun k hk h2 => ⟨fun h => h.elim, fun ⟨y, h1, h2, _⟩ => by omega⟩)
  | k + 1, hk => by
    have ih := isb_part (X := X) (Y := Y) (RW := RW) hS k (by omega)
    have h1 := isb_partAt (y := Y + k) (x := X) hS ih (by omega)
    have h2 := isb_partAt (y := Y + k) (x := X + RW) hS h1 (by omega)
    refine IsB.same (M := partT W X Y RW (k + 1) L) hS h2 (fun j hj hj2 => ?_)
    constructor
    · rintro ((⟨y, a, b, c⟩ | ⟨a, b⟩) | ⟨a, b⟩)
      · exact ⟨y, a, by omega, c⟩
      · exact ⟨Y + k, by omega, by omega, .inl ⟨a, b⟩⟩
      · exact ⟨Y + k, by omega, by omega, .inr ⟨a, b⟩⟩
    · rintro ⟨y, a, b, c⟩
      rcases Nat.lt_or_ge y (Y + k) with h | h
      · exact .inl (.inl ⟨y, a, h, c⟩)
      · obtain rfl : y = Y + k := by omega
        rcases c with c | c
        · exact .inl (.inr c)
        · exact .inr c
theorem has_box {X Y RW RH : Nat} {x y : Int} (hX : X + RW ≤ 4096) (hY : Y + RH ≤ 4096) : hasT ⟨X, Y, RW, RH⟩ x y = true ↔ ((X : Int) ≤ x ∧ x < X + RW ∧ (Y : Int) ≤ y ∧ y < Y + RH) := by
  constructor
  · intro h
    by_cases h1 : 0 < RW
    · by_cases h2 : 0 < RH
      · have e := has_small (x0 := (X : Int)) (x1 := (X : Int) + RW) (y0 := (Y : Int)) (y1 := (Y : Int) + RH) (x := x) (y := y) (by omega) (by omega) (by
          rw [show (X : Int) + RW - X = RW by omega, show (Y : Int) + RH - Y = RH by omega]
          exact h)
        omega
      · exfalso
        have hz : RH = 0 := by omega
        subst hz
        unfold hasT okB endsT endT at h
        simp at h
        omega
    · exfalso
      have hz : RW = 0 := by omega
      subst hz
      unfold hasT okB endsT endT at h
      simp at h
      omega
  · rintro ⟨a, b, c, d⟩
    exact box_has ⟨a, b⟩ ⟨c, d⟩ hX hY
/-- where a place lies -/
theorem place {W H k : Nat} (hk : k < W * H) : ∃ y x, k = y * W + x ∧ x < W ∧ y < H ∧ k % W = x ∧ k / W = y := by
  have hW : 0 < W := by
    rcases Nat.eq_zero_or_pos W with h | h
    · subst h; simp at hk
    · exact h
  refine ⟨k / W, k % W, ?_, Nat.mod_lt _ hW, Nat.div_lt_of_lt_mul hk, rfl, rfl⟩
  rw [Nat.mul_comm]
  exact (Nat.div_add_mod k W).symm
theorem row_uniq {W y y' x x' : Nat} (hx : x < W) (hx' : x' < W) (h : y * W + x = y' * W + x') : y = y' ∧ x = x' := by
  have h1 : (y * W + x) % W = x := mod_at hx
  have h2 : (y' * W + x') % W = x' := mod_at hx'
  have h3 : (y * W + x) / W = y := div_at hx
  have h4 : (y' * W + x') / W = y' := div_at hx'
  rw [h] at h1 h3
  exact ⟨h3.symm.trans h4, h1.symm.trans h2⟩
theorem part_ed {W H : Nat} {r : RT} {L : List CV} (hS : Strong W H L) (hW : W ≤ 4096) (hH : H ≤ 4096) {X Y RW RH : Nat} (hl : letIn r W H = ⟨X, Y, RW, RH⟩) (hX : X + RW ≤ W) (hY : Y + RH ≤ H) (hp : 0 < RH → 0 < RW) : partT W X Y RW RH L = edT W r L (W * H) := by
  refine (isb_part (X := X) (Y := Y) (RW := RW) hS RH hY).eq hS (isb_ed (r := r) hS (W * H) (Nat.le_refl _)) (fun k hk hk2 => ?_)
  have hkN : k < W * H := by rw [← hS.1]; exact hk
  obtain ⟨s1, s2, s3, s4⟩ := strong_head hS hk hk2
  obtain ⟨y, x, rfl, hx, hy, e1, e2⟩ := place hkN
  rw [e1] at s4
  have hb : ∀ (a : Int), 0 ≤ a → a < W → hasT r a (y : Nat) = hasT ⟨X, Y, RW, RH⟩ a (y : Nat) := fun a h1 h2 => by
    rw [← hl]
    exact (let_eq r W H hW hH ⟨h1, h2⟩ ⟨by omega, by omega⟩).symm
  rw [e1, e2, hb _ (by omega) (by omega), hb _ (by omega) (by omega)]
  have i1 := has_box (X := X) (Y := Y) (RW := RW) (RH := RH) (x := (x : Nat)) (y := (y : Nat)) (by omega) (by omega)
  have i2 := has_box (X := X) (Y := Y) (RW := RW) (RH := RH) (x := (x : Nat) + 1) (y := (y : Nat)) (by omega) (by omega)
  constructor
  · rintro ⟨y', a, b, c⟩
    refine ⟨hkN, fun he => ?_⟩
    rw [← he] at i2
    rcases c with ⟨c1, c2⟩ | ⟨c1, c2⟩
    · obtain ⟨rfl, h⟩ := row_uniq (W := W) (y := y) (x := x + 1) (y' := y') (x' := X) s4 c1 (by omega)
      have h3 := i2.2 (by have := hp (by omega); omega)
      have := i1.1 h3
      omega
    · obtain ⟨rfl, h⟩ := row_uniq (W := W) (y := y) (x := x + 1) (y' := y') (x' := X + RW) s4 c1 (by omega)
      have h3 := i1.2 (by have := hp (by omega); omega)
      have := i2.1 h3
      omega
  · rintro ⟨-, hne⟩
    by_cases c1 : hasT ⟨X, Y, RW, RH⟩ (x : Nat) (y : Nat) = true
    · have c2 : ¬ hasT ⟨X, Y, RW, RH⟩ ((x : Nat) + 1) (y : Nat) = true := fun h => hne (c1.trans h.symm)
      have h1 := i1.1 c1
      have h2 : ¬ _ := fun h => c2 (i2.2 h)
      exact ⟨y, by omega, by omega, .inr ⟨by omega, by omega⟩⟩
    · have c2 : hasT ⟨X, Y, RW, RH⟩ ((x : Nat) + 1) (y : Nat) = true := by
        cases h : hasT ⟨X, Y, RW, RH⟩ ((x : Nat) + 1) (y : Nat)
        · exfalso
          refine hne ?_
          rw [h]
          cases h5 : hasT ⟨X, Y, RW, RH⟩ (x : Nat) (y : Nat)
          · rfl
          · exact absurd h5 c1
        · rfl
      have h1 := i2.1 c2
      have h2 : ¬ _ := fun h => c1 (i1.2 h)
      exact ⟨y, by omega, by omega, .inl ⟨by omega, by omega⟩⟩
theorem new_len {W : Nat} {r : RT} {val : Nat → CV} {L : List CV} : ∀ m, (newT W r val L m).length = L.length
  | 0 => rfl
  | m + 1 => by
    unfold newT
    split
    · rw [List.length_set, new_len]
    · exact new_len m
theorem new_gf {W : Nat} {r : RT} {val : Nat → CV} {L : List CV} (k : Nat) : ∀ m, m ≤ L.length → gf (newT W r val L m) k = if k < m ∧ hasT r ((k % W : Nat) : Int) ((k / W : Nat) : Int) = true then val k else gf L k
  | 0, _ => by rw [if_neg (by omega)]; rfl
  | m + 1, hm => by
    have ih := new_gf (W := W) (L := L) (r := r) (val := val) k m (by omega)
    unfold newT
    split
    · rename_i hc
      rw [gf_set (by rw [new_len]; omega), ih]
      by_cases e : k = m
      · subst e
        rw [if_pos rfl, if_pos ⟨by omega, hc⟩]
      · rw [if_neg e]
        by_cases e2 : k < m ∧ hasT r ((k % W : Nat) : Int) ((k / W : Nat) : Int) = true
        · rw [if_pos e2, if_pos ⟨by omega, e2.2⟩]
        · rw [if_neg e2, if_neg (fun h => e2 ⟨by omega, h.2⟩)]
    · rename_i hc
      rw [ih]
      by_cases e2 : k < m ∧ hasT r ((k % W : Nat) : Int) ((k / W : Nat) : Int) = true
      · rw [if_pos e2, if_pos ⟨by omega, e2.2⟩]
      · rw [if_neg e2, if_neg]
        rintro ⟨h1, h2⟩
        rcases Nat.lt_or_ge k m with h3 | h3
        · exact e2 ⟨h3, h2⟩
        · obtain rfl : k = m := by omega
          exact hc h2
theorem in_row_iff {W X RW y y' x' : Nat} (hX : X + RW ≤ W) (hx' : x' < W) : (y * W + X ≤ y' * W + x' ∧ y' * W + x' < y * W + X + RW) ↔ (y' = y ∧ X ≤ x' ∧ x' < X + RW) := by
  constructor
  · rintro ⟨h1, h2⟩
    rcases Nat.lt_trichotomy y' y with h | h | h
    · exfalso
      have := Nat.mul_le_mul_right W (show y' + 1 ≤ y from h)
      rw [Nat.add_mul, Nat.one_mul] at this
      omega
    · subst h
      exact ⟨rfl, by omega, by omega⟩
    · exfalso
      have := Nat.mul_le_mul_right W (show y + 1 ≤ y' from h)
      rw [Nat.add_mul, Nat.one_mul] at this
      omega
  · rintro ⟨rfl, h1, h2⟩
    omega
theorem fill_gf {W H X Y RW : Nat} {c : CV} {L : List CV} (hl : L.length = W * H) (hX : X + RW ≤ W) {y' x' : Nat} (hx' : x' < W) : ∀ k, Y + k ≤ H → gf (fillRect W X Y RW c k L) (y' * W + x') = if (Y ≤ y' ∧ y' < Y + k) ∧ X ≤ x' ∧ x' < X + RW then c else gf L (y' * W + x')
  | 0, _ => by rw [if_neg (by omega)]; rfl
  | k + 1, hk => by
    have ih := fill_gf (Y := Y) (y' := y') (c := c) hl hX hx' k (by omega)
    show gf (fillRow W (Y + k) X c RW (fillRect W X Y RW c k L)) _ = _
    rw [fillRow_gf (by rw [fillRect_len]; exact row_fits (W := W) (H := H) hl hX (by omega)), ih]
    by_cases h1 : y' = Y + k ∧ X ≤ x' ∧ x' < X + RW
    · rw [if_pos ((in_row_iff hX hx').2 h1), if_pos ⟨by omega, h1.2⟩]
    · rw [if_neg (fun h => h1 ((in_row_iff hX hx').1 h))]
      by_cases h2 : (Y ≤ y' ∧ y' < Y + k) ∧ X ≤ x' ∧ x' < X + RW
      · rw [if_pos h2, if_pos ⟨by omega, h2.2⟩]
      · rw [if_neg h2, if_neg (by omega)]
theorem shift_gf {W H X Y RW RH : Nat} {D : Int} {c : CV} {O L : List CV} (hl : L.length = W * H) (hX : X + RW ≤ W) {y' x' : Nat} (hx' : x' < W) : ∀ k, Y + k ≤ H → gf (shiftT W X Y RW RH D c O k L) (y' * W + x') = if (Y ≤ y' ∧ y' < Y + k) ∧ X ≤ x' ∧ x' < X + RW then (if (Y : Int) ≤ (y' : Int) + D ∧ (y' : Int) + D < (Y : Int) + (RH : Int) then gf O (((y' : Int) + D).toNat * W + x') else c) else gf L (y' * W + x')
  | 0, _ => by rw [if_neg (by omega)]; rfl
  | k + 1, hk => by
    have ih := shift_gf (Y := Y) (y' := y') (D := D) (c := c) (O := O) (RH := RH) hl hX hx' k (by omega)
    have hfit : (Y + k) * W + X + RW ≤ (shiftT W X Y RW RH D c O k L).length := by rw [shiftT_len]; exact row_fits (W := W) (H := H) (L := L) hl hX (show Y + k < H by omega)
    show gf (shiftRow W X Y RW RH D c O (Y + k) (shiftT W X Y RW RH D c O k L)) _ = _
    have hrow : gf (shiftRow W X Y RW RH D c O (Y + k) (shiftT W X Y RW RH D c O k L)) (y' * W + x') = if y' = Y + k ∧ X ≤ x' ∧ x' < X + RW then (if (Y : Int) ≤ (y' : Int) + D ∧ (y' : Int) + D < (Y : Int) + (RH : Int) then gf O (((y' : Int) + D).toNat * W + x') else c) else gf (shiftT W X Y RW RH D c O k L) (y' * W + x') := by
      unfold shiftRow
      by_cases h1 : y' = Y + k ∧ X ≤ x' ∧ x' < X + RW
      · rw [if_pos h1]
        obtain ⟨rfl, h2, h3⟩ := h1
        split
        · rename_i hc
          rw [copyRow_gf hfit, if_pos (by omega)]
          congr 1
          omega
        · rename_i hc
          rw [fillRow_gf hfit, if_pos (by omega)]
      · rw [if_neg h1]
        split
        · rw [copyRow_gf hfit, if_neg (fun h => h1 ((in_row_iff hX hx').1 h))]
        · rw [fillRow_gf hfit, if_neg (fun h => h1 ((in_row_iff hX hx').1 h))]
    rw [hrow, ih]
    by_cases h1 : y' = Y + k ∧ X ≤ x' ∧ x' < X + RW
    · have h8 : (Y ≤ y' ∧ y' < Y + (k + 1)) ∧ X ≤ x' ∧ x' < X + RW := ⟨by omega, h1.2⟩
      rw [if_pos h1, if_pos h8]
    · rw [if_neg h1]
      by_cases h2 : (Y ≤ y' ∧ y' < Y + k) ∧ X ≤ x' ∧ x' < X + RW
      · have h8 : (Y ≤ y' ∧ y' < Y + (k + 1)) ∧ X ≤ x' ∧ x' < X + RW := ⟨by omega, h2.2⟩
        rw [if_pos h2, if_pos h8]
      · have h8 : ¬ ((Y ≤ y' ∧ y' < Y + (k + 1)) ∧ X ≤ x' ∧ x' < X + RW) := by omega
        rw [if_neg h2, if_neg h8]
theorem ed_len {W : Nat} {r : RT} {L : List CV} : ∀ m, (edT W r L m).length = L.length
  | 0 => rfl
  | m + 1 => by
    unfold edT
    split
    · rw [broken_length, ed_len]
    · exact ed_len m
section
variable {W H : Nat} {r : RT} {L : List CV} {X Y RW RH : Nat}
theorem in_has (hW : W ≤ 4096) (hH : H ≤ 4096) (hl : letIn r W H = ⟨X, Y, RW, RH⟩) (hX : X + RW ≤ W) (hY : Y + RH ≤ H) {y x : Nat} (hx : x < W) (hy : y < H) : hasT r (x : Nat) (y : Nat) = true ↔ ((Y ≤ y ∧ y < Y + RH) ∧ X ≤ x ∧ x < X + RW) := by
  rw [← let_eq r W H hW hH (x := (x : Nat)) (y := (y : Nat)) ⟨by omega, by omega⟩ ⟨by omega, by omega⟩, hl, has_box (by omega) (by omega)]
  omega
theorem fill_eq (hS : Strong W H L) (hW : W ≤ 4096) (hH : H ≤ 4096) (hl : letIn r W H = ⟨X, Y, RW, RH⟩) (hX : X + RW ≤ W) (hY : Y + RH ≤ H) (hp : 0 < RH → 0 < RW) (c : CV) : fillRect W X Y RW c RH (partT W X Y RW RH L) = newT W r (fun _ => c) (edT W r L (W * H)) (W * H) := by
  rw [part_ed hS hW hH hl hX hY hp]
  have hM : (edT W r L (W * H)).length = W * H := by rw [ed_len, hS.1]
  refine gf_ext (by rw [fillRect_len, new_len]) (fun k hk => ?_)
  rw [fillRect_len, hM] at hk
  rw [new_gf k (W * H) (by rw [hM]; exact Nat.le_refl _)]
  obtain ⟨y, x, rfl, hx, hy, e1, e2⟩ := place hk
  rw [e1, e2, fill_gf hM hX hx RH hY]
  have hi := in_has hW hH hl hX hY hx hy
  by_cases h : (Y ≤ y ∧ y < Y + RH) ∧ X ≤ x ∧ x < X + RW
  · rw [if_pos h, if_pos ⟨hk, hi.2 h⟩]
  · rw [if_neg h, if_neg (fun h2 => h (hi.1 h2.2))]
theorem shift_eq (hS : Strong W H L) (hW : W ≤ 4096) (hH : H ≤ 4096) (hl : letIn r W H = ⟨X, Y, RW, RH⟩) (hX : X + RW ≤ W) (hY : Y + RH ≤ H) (hp : 0 < RH → 0 < RW) (c : CV) (by0 : Int) :
    shiftT W X Y RW RH (min (max by0 (-(H : Int))) H) c (partT W X Y RW RH L) RH (partT W X Y RW RH L) = newT W r (valS W H r (max (-(H : Int)) (min by0 H)) c (edT W r L (W * H))) (edT W r L (W * H)) (W * H) := by
  rw [part_ed hS hW hH hl hX hY hp]
  have hD : min (max by0 (-(H : Int))) H = max (-(H : Int)) (min by0 H) := by omega
  rw [hD]
  generalize max (-(H : Int)) (min by0 H) = D
  have hM : (edT W r L (W * H)).length = W * H := by rw [ed_len, hS.1]
  generalize edT W r L (W * H) = M at *
  refine gf_ext (by rw [shiftT_len, new_len]) (fun k hk => ?_)
  rw [shiftT_len, hM] at hk
  rw [new_gf k (W * H) (by rw [hM]; exact Nat.le_refl _)]
  obtain ⟨y, x, rfl, hx, hy, e1, e2⟩ := place hk
  rw [e1, e2, shift_gf hM hX hx RH hY]
  have hi := in_has hW hH hl hX hY hx hy
  by_cases h : (Y ≤ y ∧ y < Y + RH) ∧ X ≤ x ∧ x < X + RW
  · have h9 : y * W + x < W * H ∧ hasT r (x : Nat) (y : Nat) = true := ⟨hk, hi.2 h⟩
    rw [if_pos h, if_pos h9, valS_at hx]
    by_cases h2 : (Y : Int) ≤ (y : Int) + D ∧ (y : Int) + D < (Y : Int) + (RH : Int)
    · rw [if_pos h2, if_pos]
      · rfl
      · refine ⟨by omega, ?_⟩
        obtain ⟨f, hf⟩ : ∃ f : Nat, (y : Int) + D = f := ⟨((y : Int) + D).toNat, by omega⟩
        rw [hf]
        exact (in_has hW hH hl hX hY hx (by omega)).2 ⟨by omega, h.2⟩
    · rw [if_neg h2, if_neg]
      rintro ⟨h3, h4⟩
      obtain ⟨f, hf⟩ : ∃ f : Nat, (y : Int) + D = f := ⟨((y : Int) + D).toNat, by omega⟩
      rw [hf] at h4
      have := (in_has hW hH hl hX hY hx (by omega)).1 h4
      omega
  · rw [if_neg h, if_neg (fun h2 => h (hi.1 h2.2))]
end
end Go.Proofs.YtdgcfmfjgidbjaaGreat.cel
