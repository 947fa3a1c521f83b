/-
  Cells as lists and in memory; the walks of the layers tint, style and rect, as far as the layer cells asks them.
-/
import Derived.Test.YtdgcfmfjgidbjaaGreatRowKit
import Derived.WalkKit
import Derived.Test.YtdgcfmfjgidbjaaGreatProg
import Derived.KernelRfl
import Derived.WalkSpells
import Derived.WalkLawsBesides
import Derived.BigQuiet
import Derived.Deep.QuietTactic
import Derived.IntWalk
import Derived.StillTailTactics
import Derived.Deep.OwnRows
import Derived.Deep.DeepCutAuto
import Derived.Test.YtdgcfmfjgidbjaaGreatLx
import Derived.Shelf.Abstract
import Derived.Lib.MinMax
namespace Go.Proofs.YtdgcfmfjgidbjaaGreat.cel
open Go Go.RowKit
set_option linter.unusedVariables false

structure SV where
  fg : Int
  bg : Int
  att : Int
deriving DecidableEq, Inhabited
structure CV where
  text : ByteArray
  wide : Int
  sty : SV
deriving DecidableEq, Inhabited
def s0 : SV := ⟨0, 0, 0⟩
def z0 : CV := ⟨⟨#[]⟩, 0, s0⟩
def SV.val (s : SV) : Value := .agg #[.int .i32 s.fg, .int .i32 s.bg, .int .u8 s.att]
def CV.val (c : CV) : Value := .agg #[.string c.text, .int .i8 c.wide, .int .i32 c.sty.fg, .int .i32 c.sty.bg, .int .u8 c.sty.att]

/-- a colour that may be -/
def rightC (c : Int) : Bool := c == 0 || c == 1 || (if 16777216 ≤ c then decide (c < 33554432) else decide (256 ≤ c) && decide (c < 512))
def plainC (c : Int) : Int := if c = 1 then 0 else if rightC c then c else 0
def overS (s : SV) : SV := ⟨plainC s.fg, plainC s.bg, s.att⟩
def blankT (s : SV) : CV := ⟨⟨#[32]⟩, 1, overS s⟩

/-- the cells L, five places each, in block g -/
def Grid (w : World) (g : Nat) (L : List CV) : Prop := ∀ k c, L[k]? = some c →
  w.cell? ⟨g, k * 5, none⟩ = some (.string c.text) ∧ w.cell? ⟨g, k * 5 + 1, none⟩ = some (.int .i8 c.wide) ∧ w.cell? ⟨g, k * 5 + 2, none⟩ = some (.int .i32 c.sty.fg) ∧ w.cell? ⟨g, k * 5 + 3, none⟩ = some (.int .i32 c.sty.bg) ∧ w.cell? ⟨g, k * 5 + 4, none⟩ = some (.int .u8 c.sty.att)
def setC (w : World) (g k : Nat) (c : CV) : World := ((((w.setCell ⟨g, k * 5, none⟩ (.string c.text)).setCell ⟨g, k * 5 + 1, none⟩ (.int .i8 c.wide)).setCell ⟨g, k * 5 + 2, none⟩ (.int .i32 c.sty.fg)).setCell ⟨g, k * 5 + 3, none⟩ (.int .i32 c.sty.bg)).setCell ⟨g, k * 5 + 4, none⟩ (.int .u8 c.sty.att)
theorem addr_ne {g i j : Nat} (h : i ≠ j) : (⟨g, i, none⟩ : Addr) ≠ ⟨g, j, none⟩ := by intro e; exact h (congrArg Addr.off e)
theorem cs_ne {w : World} {g i j : Nat} {v : Value} (h : i ≠ j) : (w.setCell ⟨g, i, none⟩ v).cell? ⟨g, j, none⟩ = w.cell? ⟨g, j, none⟩ := World.cell?_setCell_other _ _ _ _ (addr_ne h)
theorem cs_eq {w : World} {g i : Nat} {u v : Value} (h : w.cell? ⟨g, i, none⟩ = some u) : (w.setCell ⟨g, i, none⟩ v).cell? ⟨g, i, none⟩ = some v := World.cell?_setCell_same _ _ _ h
theorem setC_other {w : World} {g k j : Nat} {c : CV} (h : j < k * 5 ∨ k * 5 + 4 < j) : (setC w g k c).cell? ⟨g, j, none⟩ = w.cell? ⟨g, j, none⟩ := by
  unfold setC
  rw [cs_ne (by omega), cs_ne (by omega), cs_ne (by omega), cs_ne (by omega), cs_ne (by omega)]
theorem Grid.at {w : World} {g : Nat} {L : List CV} (h : Grid w g L) {k : Nat} (hk : k < L.length) : w.cell? ⟨g, k * 5, none⟩ = some (.string (L.getD k z0).text) ∧ w.cell? ⟨g, k * 5 + 1, none⟩ = some (.int .i8 (L.getD k z0).wide) ∧ w.cell? ⟨g, k * 5 + 2, none⟩ = some (.int .i32 (L.getD k z0).sty.fg) ∧ w.cell? ⟨g, k * 5 + 3, none⟩ = some (.int .i32 (L.getD k z0).sty.bg) ∧ w.cell? ⟨g, k * 5 + 4, none⟩ = some (.int .u8 (L.getD k z0).sty.att) := by
  have e : L[k]? = some (L.getD k z0) := by simp [List.getD_eq_getElem?_getD, List.getElem?_eq_getElem hk]
  exact h k _ e
theorem Grid.set {w : World} {g : Nat} {L : List CV} (h : Grid w g L) {k : Nat} (hk : k < L.length) (c : CV) : Grid (setC w g k c) g (L.set k c) := by
  intro j d hj
  rw [List.getElem?_set] at hj
  by_cases e : k = j
  · subst e
    rw [if_pos rfl, if_pos hk] at hj
    cases hj
    obtain ⟨h0, h1, h2, h3, h4⟩ := h.at hk
    unfold setC
    refine ⟨?_, ?_, ?_, ?_, ?_⟩
    · rw [cs_ne (by omega), cs_ne (by omega), cs_ne (by omega), cs_ne (by omega), cs_eq h0]
    · rw [cs_ne (by omega), cs_ne (by omega), cs_ne (by omega), cs_eq (u := .int .i8 (L.getD k z0).wide) (by rw [cs_ne (by omega), h1])]
    · rw [cs_ne (by omega), cs_ne (by omega), cs_eq (u := .int .i32 (L.getD k z0).sty.fg) (by rw [cs_ne (by omega), cs_ne (by omega), h2])]
    · rw [cs_ne (by omega), cs_eq (u := .int .i32 (L.getD k z0).sty.bg) (by rw [cs_ne (by omega), cs_ne (by omega), cs_ne (by omega), h3])]
    · rw [cs_eq (u := .int .u8 (L.getD k z0).sty.att) (by rw [cs_ne (by omega), cs_ne (by omega), cs_ne (by omega), cs_ne (by omega), h4])]
  · rw [if_neg e] at hj
    obtain ⟨h0, h1, h2, h3, h4⟩ := h j d hj
    rw [setC_other (by omega), setC_other (by omega), setC_other (by omega), setC_other (by omega), setC_other (by omega)]
    exact ⟨h0, h1, h2, h3, h4⟩
theorem Grid.of_block {w w' : World} {g : Nat} {L : List CV} (h : Grid w g L) (hg : w'.heap[g]? = w.heap[g]?) : Grid w' g L := by
  intro k c hk
  obtain ⟨h0, h1, h2, h3, h4⟩ := h k c hk
  exact ⟨(World.cell?_of_block (a := ⟨g, _, none⟩) hg).trans h0, (World.cell?_of_block (a := ⟨g, _, none⟩) hg).trans h1, (World.cell?_of_block (a := ⟨g, _, none⟩) hg).trans h2, (World.cell?_of_block (a := ⟨g, _, none⟩) hg).trans h3, (World.cell?_of_block (a := ⟨g, _, none⟩) hg).trans h4⟩

/-- a cell written; the pair that stood there is broken -/
def headOf (L : List CV) (i : Nat) : Nat := if (L.getD i z0).wide = 0 then i - 1 else i
def brokenT (L : List CV) (i : Nat) : List CV := if (L.getD i z0).wide = 0 ∨ (L.getD i z0).wide = 2 then (L.set (headOf L i) (blankT (L.getD (headOf L i) z0).sty)).set (headOf L i + 1) (blankT (L.getD (headOf L i) z0).sty) else L
def setT (L : List CV) (i : Nat) (c : CV) : List CV := (brokenT L i).set i c
def layT (W : Nat) (L : List CV) (x y : Int) (c : CV) (l r : Bool) : List CV :=
  if c.wide = 1 then (if l then setT L (y * W + x).toNat c else L)
  else
    let L1 := if l then setT L (y * W + x).toNat (blankT c.sty) else L
    let L2 := if r then setT L1 (y * W + x + 1).toNat (blankT c.sty) else L1
    if l && r then (L2.set (y * W + x).toNat c).set (y * W + x + 1).toNat ⟨⟨#[]⟩, 0, c.sty⟩ else L2

theorem broken_length (L : List CV) (i : Nat) : (brokenT L i).length = L.length := by unfold brokenT; split <;> simp
theorem set_length (L : List CV) (i : Nat) (c : CV) : (setT L i c).length = L.length := by unfold setT; rw [List.length_set, broken_length]

/-- no halves: by the widths alone -/
def GoodF (W n : Nat) (f : Nat → Int) : Prop := ∀ i, i < n → f i = 1 ∨ (f i = 2 ∧ i % W + 1 < W ∧ f (i + 1) = 0) ∨ (f i = 0 ∧ 0 < i % W ∧ f (i - 1) = 2)
def wd (L : List CV) (i : Nat) : Int := (L.getD i z0).wide
def Good (W H : Nat) (L : List CV) : Prop := L.length = W * H ∧ GoodF W (W * H) (wd L)

theorem mod_next {W i : Nat} (h : i % W + 1 < W) : (i + 1) % W = i % W + 1 := by
  have := Nat.div_add_mod i W
  rw [show i + 1 = (i % W + 1) + W * (i / W) by omega, Nat.add_mul_mod_self_left, Nat.mod_eq_of_lt h]
theorem mod_prev {W i : Nat} (h : 0 < i % W) (hW : 0 < W) : (i - 1) % W = i % W - 1 := by
  have := Nat.div_add_mod i W
  have h2 := Nat.mod_lt i hW
  rw [show i - 1 = (i % W - 1) + W * (i / W) by omega, Nat.add_mul_mod_self_left, Nat.mod_eq_of_lt (by omega)]
theorem next_lt {W H i : Nat} (hi : i < W * H) (h : i % W + 1 < W) : i + 1 < W * H := by
  have h1 := Nat.div_add_mod i W
  have h2 : i / W < H := Nat.div_lt_of_lt_mul hi
  have h3 := Nat.mul_le_mul_left W (show i / W + 1 ≤ H from h2)
  rw [Nat.mul_add, Nat.mul_one] at h3
  omega

/-- two places, or one, made singles: no halves are left -/
theorem good_single {W n a b : Nat} {f g : Nat → Int} (h : GoodF W n f) (hg : ∀ j, g j = if j = a ∨ j = b then 1 else f j) (hab : (a = b ∧ f a = 1) ∨ (b = a + 1 ∧ f a = 2 ∧ f b = 0)) : GoodF W n g := by
  intro i hi
  rw [hg i]
  by_cases e : i = a ∨ i = b
  · rw [if_pos e]; exact .inl rfl
  · rw [if_neg e]
    rcases h i hi with h1 | ⟨h1, h2, h3⟩ | ⟨h1, h2, h3⟩
    · exact .inl h1
    · refine .inr (.inl ⟨h1, h2, ?_⟩)
      rw [hg (i + 1), if_neg]
      · exact h3
      · rintro (e2 | e2)
        · subst e2; rcases hab with ⟨-, h4⟩ | ⟨-, h4, -⟩ <;> omega
        · rcases hab with ⟨rfl, h4⟩ | ⟨h5, h4, h6⟩
          · rw [e2] at h3; omega
          · exact e (.inl (by omega))
    · refine .inr (.inr ⟨h1, h2, ?_⟩)
      rw [hg (i - 1), if_neg]
      · exact h3
      · rintro (e2 | e2)
        · rcases hab with ⟨rfl, h4⟩ | ⟨h5, h4, h6⟩
          · rw [e2] at h3; omega
          · have hi0 : 0 < i := by
              rcases Nat.eq_zero_or_pos i with h0 | h0
              · subst h0; simp at h2
              · exact h0
            exact e (.inr (by omega))
        · rcases hab with ⟨rfl, h4⟩ | ⟨h5, h4, h6⟩
          · rw [e2] at h3; omega
          · rw [e2] at h3; omega
/-- a pair where two singles were -/
theorem good_pair {W n a : Nat} {f g : Nat → Int} (h : GoodF W n f) (hW : a % W + 1 < W) (hg : ∀ j, g j = if j = a then 2 else if j = a + 1 then 0 else f j) (h1 : f a = 1) (h2 : f (a + 1) = 1) : GoodF W n g := by
  intro i hi
  by_cases e : i = a
  · subst e
    refine .inr (.inl ⟨?_, hW, ?_⟩)
    · rw [hg, if_pos rfl]
    · rw [hg, if_neg (by omega), if_pos rfl]
  · by_cases e2 : i = a + 1
    · subst e2
      refine .inr (.inr ⟨?_, ?_, ?_⟩)
      · rw [hg, if_neg (by omega), if_pos rfl]
      · rw [mod_next hW]; omega
      · rw [hg, Nat.add_sub_cancel, if_pos rfl]
    · have hgi : g i = f i := by rw [hg, if_neg e, if_neg e2]
      rw [hgi]
      rcases h i hi with k1 | ⟨k1, k2, k3⟩ | ⟨k1, k2, k3⟩
      · exact .inl k1
      · refine .inr (.inl ⟨k1, k2, ?_⟩)
        rw [hg, if_neg (by intro e3; rw [e3] at k3; omega), if_neg (by intro e3; rw [e3] at k3; omega)]
        exact k3
      · refine .inr (.inr ⟨k1, k2, ?_⟩)
        rw [hg, if_neg (by intro e3; rw [e3] at k3; omega), if_neg (by intro e3; rw [e3] at k3; omega)]
        exact k3

theorem wd_set (L : List CV) (k : Nat) (c : CV) (hk : k < L.length) (j : Nat) : wd (L.set k c) j = if j = k then c.wide else wd L j := by
  unfold wd
  simp only [List.getD_eq_getElem?_getD, List.getElem?_set]
  by_cases e : k = j
  · subst e; simp [hk]
  · rw [if_neg e, if_neg (by omega)]
theorem blank_wide (s : SV) : (blankT s).wide = 1 := rfl
/-- the widths behind a write of a single -/
theorem wd_setT {W H : Nat} {L : List CV} (h : Good W H L) {i : Nat} (hi : i < W * H) {c : CV} (hc : c.wide = 1) : Good W H (setT L i c) ∧ wd (setT L i c) i = 1 ∧ ∀ j, wd L j = 1 → wd (setT L i c) j = 1 := by
  obtain ⟨hl, hf⟩ := h
  have hl2 : (setT L i c).length = W * H := by rw [set_length, hl]
  have key : ∃ a b, ((a = b ∧ wd L a = 1) ∨ (b = a + 1 ∧ wd L a = 2 ∧ wd L b = 0)) ∧ (i = a ∨ i = b) ∧ ∀ j, wd (setT L i c) j = if j = a ∨ j = b then 1 else wd L j := by
    have hWi : wd L i = (L.getD i z0).wide := rfl
    rcases hf i hi with h1 | ⟨h1, h2, h3⟩ | ⟨h1, h2, h3⟩
    · refine ⟨i, i, .inl ⟨rfl, h1⟩, .inl rfl, fun j => ?_⟩
      unfold setT brokenT
      rw [if_neg (by rw [← hWi]; omega), wd_set _ _ _ (by omega), hc]
      by_cases e : j = i
      · rw [if_pos e, if_pos (.inl e)]
      · rw [if_neg e, if_neg (by omega)]
    · have hn := next_lt hi h2
      refine ⟨i, i + 1, .inr ⟨rfl, h1, h3⟩, .inl rfl, fun j => ?_⟩
      have hh : headOf L i = i := by unfold headOf; rw [if_neg (by rw [← hWi]; omega)]
      unfold setT brokenT
      rw [if_pos (by rw [← hWi]; omega), hh, wd_set _ _ _ (by simp; omega), hc, wd_set _ _ _ (by simp; omega), wd_set _ _ _ (by omega), blank_wide]
      by_cases e : j = i
      · rw [if_pos e, if_pos (.inl e)]
      · rw [if_neg e]
        by_cases e2 : j = i + 1
        · rw [if_pos e2, if_pos (.inr e2)]
        · rw [if_neg e2, if_neg e, if_neg (by omega)]
    · have hi0 : 0 < i := by
        rcases Nat.eq_zero_or_pos i with h0 | h0
        · subst h0; simp at h2
        · exact h0
      refine ⟨i - 1, i, .inr ⟨by omega, h3, h1⟩, .inr rfl, fun j => ?_⟩
      have hh : headOf L i = i - 1 := by unfold headOf; rw [if_pos (by rw [← hWi]; omega)]
      unfold setT brokenT
      rw [if_pos (by rw [← hWi]; omega), hh, wd_set _ _ _ (by simp; omega), hc, wd_set _ _ _ (by simp; omega), wd_set _ _ _ (by omega), blank_wide]
      by_cases e : j = i
      · rw [if_pos e, if_pos (.inr e)]
      · rw [if_neg e, if_neg (by omega)]
        by_cases e2 : j = i - 1
        · rw [if_pos e2, if_pos (.inl e2)]
        · rw [if_neg e2, if_neg (by omega)]
  obtain ⟨a, b, hab, hia, hg⟩ := key
  refine ⟨⟨hl2, good_single hf hg hab⟩, ?_, fun j hj => ?_⟩
  · rw [hg, if_pos hia]
  · rw [hg]
    split
    · rfl
    · exact hj
theorem at_mod {W H : Nat} {x y : Int} (hx : 0 ≤ x ∧ x < W) (hy : 0 ≤ y ∧ y < H) : (y * W + x).toNat < W * H ∧ (y * W + x).toNat % W = x.toNat := by
  obtain ⟨x', rfl⟩ : ∃ n : Nat, x = n := ⟨x.toNat, by omega⟩
  obtain ⟨y', rfl⟩ : ∃ n : Nat, y = n := ⟨y.toNat, by omega⟩
  have e : ((y' : Int) * W + x').toNat = x' + W * y' := by
    have : ((y' : Int) * W + x') = ((x' + W * y' : Nat) : Int) := by push_cast; rw [Int.mul_comm]; omega
    rw [this]; rfl
  rw [e, Nat.add_mul_mod_self_left, Nat.mod_eq_of_lt (by omega)]
  refine ⟨?_, by simp⟩
  have := Nat.mul_le_mul_left W (show y' + 1 ≤ H by omega)
  rw [Nat.mul_add] at this
  omega
/-- NO HALVES behind a single or a pair, as much of it as is let in -/
theorem lay_good {W H : Nat} {L : List CV} (h : Good W H L) {x y : Int} {c : CV} {l r : Bool} (hc : c.wide = 1 ∨ c.wide = 2) (hl : l = true → 0 ≤ x ∧ x < W ∧ 0 ≤ y ∧ y < H) (hr : r = true → 0 ≤ x + 1 ∧ x + 1 < W ∧ 0 ≤ y ∧ y < H) : Good W H (layT W L x y c l r) := by
  unfold layT
  by_cases h1 : c.wide = 1
  · rw [if_pos h1]
    cases l with
    | false => exact h
    | true =>
      obtain ⟨a1, a2, a3, a4⟩ := hl rfl
      exact (wd_setT h (at_mod ⟨a1, a2⟩ ⟨a3, a4⟩).1 h1).1
  · rw [if_neg h1]
    have hc2 : c.wide = 2 := hc.resolve_left h1
    cases l with
    | false =>
      cases r with
      | false => exact h
      | true =>
        obtain ⟨a1, a2, a3, a4⟩ := hr rfl
        have h5 := (at_mod (x := x + 1) ⟨a1, a2⟩ ⟨a3, a4⟩).1
        rw [← Int.add_assoc] at h5
        exact (wd_setT h h5 (c := blankT c.sty) rfl).1
    | true =>
      obtain ⟨a1, a2, a3, a4⟩ := hl rfl
      obtain ⟨m1, m2⟩ := at_mod ⟨a1, a2⟩ ⟨a3, a4⟩
      obtain ⟨g1, g2, g3⟩ := wd_setT h m1 (c := blankT c.sty) rfl
      cases r with
      | false => exact g1
      | true =>
        obtain ⟨b1, b2, b3, b4⟩ := hr rfl
        have hm : (y * W + x).toNat % W + 1 < W := by omega
        have hn := next_lt m1 hm
        have hy0 : 0 ≤ y * (W : Int) := Int.mul_nonneg a3 (by omega)
        have he : (y * (W : Int) + x + 1).toNat = (y * W + x).toNat + 1 := by omega
        rw [he]
        obtain ⟨k1, k2, k3⟩ := wd_setT g1 hn (c := blankT c.sty) rfl
        simp only [if_true, Bool.and_self]
        have hl5 := k1.1
        refine ⟨by simp [k1.1], good_pair k1.2 hm (fun j => ?_) (k3 _ g2) k2⟩
        rw [wd_set _ _ _ (by rw [List.length_set, hl5]; omega), wd_set _ _ _ (by omega), hc2]
        by_cases e : j = (y * W + x).toNat + 1
        · rw [if_pos e, if_neg (by omega), if_pos e]
        · rw [if_neg e]
          split <;> rfl
end Go.Proofs.YtdgcfmfjgidbjaaGreat.cel
namespace Go.Proofs.YtdgcfmfjgidbjaaGreat.cel
open Go Go.RowKit Go.Proofs
set_option linter.unusedVariables false

theorem drewB {B : Nat} {w w' : World} (h : Below B w w') : Below B w w'.drew := h.trans ⟨rfl, rfl, rfl, Nat.le_refl _, fun _ _ => rfl⟩
theorem blk_set {w : World} {n i : Nat} {cs : Array Value} {t : TypeId} {u : Value} (h : w.heap[n]? = some (.cells cs t (0, 0))) : (w.setCell ⟨n, i, none⟩ u).heap[n]? = some (.cells (cs.setIfInBounds i u) t (0, 0)) := by
  obtain ⟨hlt, hk⟩ := Array.getElem?_eq_some_iff.1 h
  show (w.heap.modify n _)[n]? = _
  rw [Array.getElem?_eq_getElem (by rw [Array.size_modify]; exact hlt), Array.getElem_modify_self, hk]
  rfl
theorem blk_other {w : World} {a : Addr} {n : Nat} (v : Value) (h : n ≠ a.block) : (w.setCell a v).heap[n]? = w.heap[n]? := by
  show (w.heap.modify a.block _)[n]? = _
  rw [Array.getElem?_modify, if_neg (fun e => h e.symm)]
theorem blk_cell {w : World} {n : Nat} {cs : Array Value} {t : TypeId} (h : w.heap[n]? = some (.cells cs t (0, 0))) (i : Nat) : w.cell? ⟨n, i, none⟩ = cs[i]? := by simp [World.cell?, h]
theorem blk_free {w : World} {n : Nat} {cs : Array Value} {t : TypeId} (h : w.heap[n]? = some (.cells cs t (0, 0))) (i : Nat) : w.frozen? ⟨n, i, none⟩ = false := by simp [World.frozen?, h]
theorem blk3 {w : World} {n : Nat} {a b c : Value} {t : TypeId} (h : w.heap[n]? = some (.cells #[a, b, c] t (0, 0))) : (w.cell? ⟨n, 0, none⟩ = some a ∧ w.cell? ⟨n, 1, none⟩ = some b ∧ w.cell? ⟨n, 2, none⟩ = some c) ∧ w.frozen? ⟨n, 0, none⟩ = false ∧ w.frozen? ⟨n, 1, none⟩ = false ∧ w.frozen? ⟨n, 2, none⟩ = false :=
  ⟨⟨blk_cell h 0, blk_cell h 1, blk_cell h 2⟩, blk_free h 0, blk_free h 1, blk_free h 2⟩
theorem blk4 {w : World} {n : Nat} {a b c d : Value} {t : TypeId} (h : w.heap[n]? = some (.cells #[a, b, c, d] t (0, 0))) : (w.cell? ⟨n, 0, none⟩ = some a ∧ w.cell? ⟨n, 1, none⟩ = some b ∧ w.cell? ⟨n, 2, none⟩ = some c ∧ w.cell? ⟨n, 3, none⟩ = some d) ∧ w.frozen? ⟨n, 0, none⟩ = false ∧ w.frozen? ⟨n, 1, none⟩ = false ∧ w.frozen? ⟨n, 2, none⟩ = false ∧ w.frozen? ⟨n, 3, none⟩ = false :=
  ⟨⟨blk_cell h 0, blk_cell h 1, blk_cell h 2, blk_cell h 3⟩, blk_free h 0, blk_free h 1, blk_free h 2, blk_free h 3⟩
theorem blk5 {w : World} {n : Nat} {a b c d e : Value} {t : TypeId} (h : w.heap[n]? = some (.cells #[a, b, c, d, e] t (0, 0))) : (w.cell? ⟨n, 0, none⟩ = some a ∧ w.cell? ⟨n, 1, none⟩ = some b ∧ w.cell? ⟨n, 2, none⟩ = some c ∧ w.cell? ⟨n, 3, none⟩ = some d ∧ w.cell? ⟨n, 4, none⟩ = some e) ∧ w.frozen? ⟨n, 0, none⟩ = false ∧ w.frozen? ⟨n, 1, none⟩ = false ∧ w.frozen? ⟨n, 2, none⟩ = false ∧ w.frozen? ⟨n, 3, none⟩ = false ∧ w.frozen? ⟨n, 4, none⟩ = false :=
  ⟨⟨blk_cell h 0, blk_cell h 1, blk_cell h 2, blk_cell h 3, blk_cell h 4⟩, blk_free h 0, blk_free h 1, blk_free h 2, blk_free h 3, blk_free h 4⟩
theorem set3 {w : World} {n : Nat} {a b c a' b' c' : Value} {t : TypeId} (h : w.heap[n]? = some (.cells #[a, b, c] t (0, 0))) : (((w.setCell ⟨n, 0, none⟩ a').setCell ⟨n, 1, none⟩ b').setCell ⟨n, 2, none⟩ c').heap[n]? = some (.cells #[a', b', c'] t (0, 0)) := blk_set (blk_set (blk_set h))
theorem set4 {w : World} {n : Nat} {a b c d a' b' c' d' : Value} {t : TypeId} (h : w.heap[n]? = some (.cells #[a, b, c, d] t (0, 0))) : ((((w.setCell ⟨n, 0, none⟩ a').setCell ⟨n, 1, none⟩ b').setCell ⟨n, 2, none⟩ c').setCell ⟨n, 3, none⟩ d').heap[n]? = some (.cells #[a', b', c', d'] t (0, 0)) := blk_set (blk_set (blk_set (blk_set h)))
theorem set5 {w : World} {n : Nat} {a b c d e a' b' c' d' e' : Value} {t : TypeId} (h : w.heap[n]? = some (.cells #[a, b, c, d, e] t (0, 0))) : (((((w.setCell ⟨n, 0, none⟩ a').setCell ⟨n, 1, none⟩ b').setCell ⟨n, 2, none⟩ c').setCell ⟨n, 3, none⟩ d').setCell ⟨n, 4, none⟩ e').heap[n]? = some (.cells #[a', b', c', d', e'] t (0, 0)) := blk_set (blk_set (blk_set (blk_set (blk_set h))))
theorem below3 {B : Nat} {w w1 : World} {n : Nat} (u v x : Value) (h : Below B w w1) (hn : B ≤ n) : Below B w (((w1.setCell ⟨n, 0, none⟩ u).setCell ⟨n, 1, none⟩ v).setCell ⟨n, 2, none⟩ x) :=
  ((h.setCell (p := ⟨n, 0, none⟩) hn _).setCell (p := ⟨n, 1, none⟩) hn _).setCell (p := ⟨n, 2, none⟩) hn _
theorem below4 {B : Nat} {w w1 : World} {n : Nat} (u v x y : Value) (h : Below B w w1) (hn : B ≤ n) : Below B w ((((w1.setCell ⟨n, 0, none⟩ u).setCell ⟨n, 1, none⟩ v).setCell ⟨n, 2, none⟩ x).setCell ⟨n, 3, none⟩ y) :=
  (below3 u v x h hn).setCell (p := ⟨n, 3, none⟩) hn _
theorem below5 {B : Nat} {w w1 : World} {n : Nat} (u v x y z : Value) (h : Below B w w1) (hn : B ≤ n) : Below B w (((((w1.setCell ⟨n, 0, none⟩ u).setCell ⟨n, 1, none⟩ v).setCell ⟨n, 2, none⟩ x).setCell ⟨n, 3, none⟩ y).setCell ⟨n, 4, none⟩ z) :=
  (below4 u v x y h hn).setCell (p := ⟨n, 4, none⟩) hn _

set_option maxHeartbeats 1000000 in
theorem right_any (c : Int) (w : World) : Calls Tryz.prog 75 #[.int .i32 c] w fun e w' => e = .returned (.bool (rightC c)) ∧ w = w' := by
  by_cases h0 : c = 0
  · subst h0
    go_enter Tryz.func75, Tryz.ntmps75
    go_wp2
    go_ret
    exact ⟨rfl, rfl⟩
  by_cases h1 : c = 1
  · subst h1
    go_enter Tryz.func75, Tryz.ntmps75
    go_wp2
    go_ret
    exact ⟨rfl, rfl⟩
  by_cases h2 : 16777216 ≤ c
  · have hr : rightC c = decide (c < 33554432) := by unfold rightC; simp [h0, h1, h2]
    rw [hr]
    clear hr
    go_enter Tryz.func75, Tryz.ntmps75
    go_wp2
    go_ret
    exact ⟨rfl, rfl⟩
  · have hr : rightC c = (decide (256 ≤ c) && decide (c < 512)) := by unfold rightC; simp [h0, h1, h2]
    rw [hr]
    clear hr
    by_cases h3 : 256 ≤ c
    · go_enter Tryz.func75, Tryz.ntmps75
      go_wp2
      go_ret
      exact ⟨by simp, rfl⟩
    · go_enter Tryz.func75, Tryz.ntmps75
      go_wp2
      go_ret
      exact ⟨by simp; omega, rfl⟩

theorem plain_any (c : Int) (w : World) : Calls Tryz.prog 53 #[.int .i32 c] w fun e w' => e = .returned (.int .i32 (plainC c)) ∧ w = w' := by
  by_cases h1 : c = 1
  · subst h1
    go_enter Tryz.func53, Tryz.ntmps53
    go_wp2
    go_ret
    exact ⟨rfl, rfl⟩
  · have HR := run.hid (right_any c w)
    have hp : plainC c = if rightC c then c else 0 := by unfold plainC; rw [if_neg h1]
    rw [hp]
    clear hp
    generalize rightC c = b at *
    go_enter Tryz.func53, Tryz.ntmps53
    go_wp2_with fail
    refine HR.out.mono ?_
    rintro e w' ⟨rfl, rfl⟩
    cases b with
    | true =>
      go_wp2
      go_ret
      exact ⟨rfl, rfl⟩
    | false =>
      go_wp2
      go_ret
      exact ⟨rfl, rfl⟩

set_option maxRecDepth 100000 in
set_option maxHeartbeats 2000000 in
theorem counts_any (s : SV) (w : World) : Calls Tryz.prog 51 #[s.val] w fun e w' => e = .returned (overS s).val ∧ Below w.heap.size w w' := by
  obtain ⟨fg, bg, at'⟩ := s
  have H1 := run.hid (fun w => plain_any fg w)
  have H2 := run.hid (fun w => plain_any bg w)
  show Calls _ _ #[.agg #[.int .i32 fg, .int .i32 bg, .int .u8 at']] _ fun e w' => e = .returned (.agg #[.int .i32 (plainC fg), .int .i32 (plainC bg), .int .u8 at']) ∧ _
  generalize plainC fg = f2 at *
  generalize plainC bg = b2 at *
  go_enter Tryz.func51, Tryz.ntmps51
  go_upto_region 1 with fail
  refine wp_region_still_tail 9 (by kernel_rfl) (by kernel_rfl) ?_
  simp only [List.take_succ_cons, List.take_zero, List.drop_succ_cons, List.drop_zero]
  change wpStill _ _ (World.drew _) (fun a' => wpList _ _ _ _ a' (World.drew _)) _ _
  repeat still_step
  still_call (((H1.out _)).mono fun _ _ h => ⟨h.1, h.2.symm⟩)
  repeat still_step
  still_call (((H2.out _)).mono fun _ _ h => ⟨h.1, h.2.symm⟩)
  repeat still_step
  refine wpStill_nil ?_
  go_wp2
  refine bodyPost_ret (v := .agg #[.int .i32 f2, .int .i32 b2, .int .u8 at']) (results_cell_row rfl _ _ (w.heap.size + 1) _ _ _ _ rfl (heap_alloc2_new _ _ _) Tryz.underlying32 rfl (by kernel_rfl)) rfl ?_
  exact ⟨rfl, drewB (run.below_two w _ _)⟩

set_option maxRecDepth 100000 in
set_option maxHeartbeats 2000000 in
theorem over_any (s : SV) (w : World) : Calls Tryz.prog 36 #[s.val, .slice none 0 0] w fun e w' => e = .returned (overS s).val ∧ Below w.heap.size w w' := by
  have H1 := run.hid (fun w => counts_any s w)
  generalize (overS s) = t at *
  obtain ⟨tf, tb, ta⟩ := t
  obtain ⟨fg, bg, at'⟩ := s
  change Hid (∀ w, Calls _ _ #[.agg #[.int .i32 fg, .int .i32 bg, .int .u8 at']] w fun e w' => e = .returned (.agg #[.int .i32 tf, .int .i32 tb, .int .u8 ta]) ∧ _) at H1
  show Calls _ _ #[.agg #[.int .i32 fg, .int .i32 bg, .int .u8 at'], _] _ fun e w' => e = .returned (.agg #[.int .i32 tf, .int .i32 tb, .int .u8 ta]) ∧ _
  have hbx := run.below_two w (.cells #[.int .i32 fg, .int .i32 bg, .int .u8 at'] 32) (.cells #[.int .i32 0, .int .i32 0, .int .u8 0] 32)
  go_enter Tryz.func36, Tryz.ntmps36
  go_wp2_with fail
  refine (H1.out _).mono ?_
  rintro e w' ⟨rfl, hb⟩
  have hb2 := hbx.trans (hb.mono (by simp <;> omega))
  have k0 := (hb.block w.heap.size (by simp <;> omega)).trans (heap_alloc2_old w _ _)
  have k1 := (hb.block (w.heap.size + 1) (by simp <;> omega)).trans (heap_alloc2_new w _ _)
  obtain ⟨⟨c0, c1, c2⟩, f0, f1, f2⟩ := blk3 k0
  obtain ⟨⟨d0, d1, d2⟩, g0, g1, g2⟩ := blk3 k1
  have KZ := run.hid (set3 (a' := .int .i32 tf) (b' := .int .i32 tb) (c' := .int .u8 ta) k0)
  have KY := run.hid (show ((((w'.setCell ⟨w.heap.size, 0, none⟩ (.int .i32 tf)).setCell ⟨w.heap.size, 1, none⟩ (.int .i32 tb)).setCell ⟨w.heap.size, 2, none⟩ (.int .u8 ta))).heap[w.heap.size + 1]? = _ from by
    exact (blk_other _ (by simp)).trans ((blk_other _ (by simp)).trans ((blk_other _ (by simp)).trans k1)))
  have HB2 := run.hid (below3 (.int .i32 tf) (.int .i32 tb) (.int .u8 ta) hb2 (Nat.le_refl _))
  clear hb hb2 k0 k1 hbx H1
  go_wp2
  clear c0 c1 c2 f0 f1 f2 d0 d1 d2 g0 g1 g2
  generalize ((w'.setCell ⟨w.heap.size, 0, none⟩ (.int .i32 tf)).setCell ⟨w.heap.size, 1, none⟩ (.int .i32 tb)).setCell ⟨w.heap.size, 2, none⟩ (.int .u8 ta) = wz at *
  go_loopw [13] (fun v wr => v = .int .i64 0 ∧ wr = wz) (fun _ _ => 0)
  case atStart => exact ⟨rfl, rfl⟩
  case round =>
    obtain ⟨rfl, rfl⟩ := hrel
    obtain ⟨⟨c0, c1, c2⟩, f0, f1, f2⟩ := blk3 KZ.out
    obtain ⟨⟨d0, d1, d2⟩, g0, g1, g2⟩ := blk3 KY.out
    have K9 := run.hid (set3 (a' := .int .i32 tf) (b' := .int .i32 tb) (c' := .int .u8 ta) KY.out)
    have HB9 := run.hid (below3 (.int .i32 tf) (.int .i32 tb) (.int .u8 ta) HB2.out (show w.heap.size ≤ w.heap.size + 1 by omega))
    go_wp2
    refine bodyPost_ret (v := .agg #[.int .i32 tf, .int .i32 tb, .int .u8 ta]) (results_cell_row rfl _ _ (w.heap.size + 1) _ _ _ _ rfl K9.out Tryz.underlying32 rfl (by kernel_rfl)) rfl ?_
    exact ⟨rfl, HB9.out⟩

set_option maxRecDepth 100000 in
set_option maxHeartbeats 2000000 in
theorem blank_any (s : SV) (w : World) : Calls Tryz.prog 31 #[s.val] w fun e w' => e = .returned (blankT s).val ∧ Below w.heap.size w w' := by
  have H1 := run.hid (fun w => over_any s w)
  unfold blankT
  generalize (overS s) = t at *
  obtain ⟨tf, tb, ta⟩ := t
  obtain ⟨fg, bg, at'⟩ := s
  change Hid (∀ w, Calls _ _ #[.agg #[.int .i32 fg, .int .i32 bg, .int .u8 at'], _] w fun e w' => e = .returned (.agg #[.int .i32 tf, .int .i32 tb, .int .u8 ta]) ∧ _) at H1
  show Calls _ _ #[.agg #[.int .i32 fg, .int .i32 bg, .int .u8 at']] _ fun e w' => e = .returned (.agg #[.string ⟨#[32]⟩, .int .i8 1, .int .i32 tf, .int .i32 tb, .int .u8 ta]) ∧ _
  have hbx := run.below_two w (.cells #[.int .i32 fg, .int .i32 bg, .int .u8 at'] 32) (.cells #[.string ⟨#[]⟩, .int .i8 0, .int .i32 0, .int .i32 0, .int .u8 0] 59)
  go_enter Tryz.func31, Tryz.ntmps31
  go_wp2_with fail
  refine (H1.out _).mono ?_
  rintro e w' ⟨rfl, hb⟩
  have hb2 := hbx.trans (hb.mono (by simp <;> omega))
  have k1 := (hb.block (w.heap.size + 1) (by simp <;> omega)).trans (heap_alloc2_new w _ _)
  obtain ⟨⟨d0, d1, d2, d3, d4⟩, g0, g1, g2, g3, g4⟩ := blk5 k1
  have K9 := run.hid (set5 (a' := .string ⟨#[32]⟩) (b' := .int .i8 1) (c' := .int .i32 tf) (d' := .int .i32 tb) (e' := .int .u8 ta) k1)
  have HB9 := run.hid (below5 (.string ⟨#[32]⟩) (.int .i8 1) (.int .i32 tf) (.int .i32 tb) (.int .u8 ta) hb2 (show w.heap.size ≤ w.heap.size + 1 by omega))
  clear hb hb2 k1 hbx H1
  go_wp2
  refine bodyPost_ret (v := .agg #[.string ⟨#[32]⟩, .int .i8 1, .int .i32 tf, .int .i32 tb, .int .u8 ta]) (results_cell_row rfl _ _ (w.heap.size + 1) _ _ _ _ rfl K9.out Tryz.underlying59 rfl (by kernel_rfl)) rfl ?_
  exact ⟨rfl, HB9.out⟩
end Go.Proofs.YtdgcfmfjgidbjaaGreat.cel
namespace Go.Proofs.YtdgcfmfjgidbjaaGreat.cel
open Go Go.RowKit Go.Proofs
set_option linter.unusedVariables false

structure RT where
  x : Int
  y : Int
  w : Int
  h : Int
deriving DecidableEq, Inhabited
/-- a box: x0, y0, x1, y1 -/
structure BT where
  x0 : Int
  y0 : Int
  x1 : Int
  y1 : Int
deriving DecidableEq, Inhabited
def RT.val (r : RT) : Value := .agg #[.int .i64 r.x, .int .i64 r.y, .int .i64 r.w, .int .i64 r.h]
def BT.val (b : BT) : Value := .agg #[.int .i64 b.x0, .int .i64 b.y0, .int .i64 b.x1, .int .i64 b.y1]
def w64 (n : Int) : Prop := -9223372036854775808 ≤ n ∧ n ≤ 9223372036854775807
def RT.wf (r : RT) : Prop := w64 r.x ∧ w64 r.y ∧ w64 r.w ∧ w64 r.h
def bringT (n a b : Int) : Int := min (max n a) b
def endT (x w : Int) : Int := if w ≤ 0 then -8388608 else if 0 < x ∧ 8388608 - bringT x 0 8388608 < w then 8388608 else x + w
def endsT (r : RT) : BT := ⟨max r.x (-1048576), max r.y (-1048576), min (endT r.x r.w) 1048576, min (endT r.y r.h) 1048576⟩
def okB (b : BT) : Bool := decide (b.x0 < b.x1) && decide (b.y0 < b.y1)
def hasT (r : RT) (x y : Int) : Bool := okB (endsT r) && (decide ((endsT r).x0 ≤ x) && (decide (x < (endsT r).x1) && (decide ((endsT r).y0 ≤ y) && decide (y < (endsT r).y1))))
def cutB (b : BT) : BT := ⟨max b.x0 (-1048576), max b.y0 (-1048576), min b.x1 1048576, min b.y1 1048576⟩
def rectB (b : BT) : RT := if (cutB b).x1 ≤ (cutB b).x0 ∨ (cutB b).y1 ≤ (cutB b).y0 then ⟨0, 0, 0, 0⟩ else ⟨(cutB b).x0, (cutB b).y0, (cutB b).x1 - (cutB b).x0, (cutB b).y1 - (cutB b).y0⟩
def meetB (p q : BT) : BT := ⟨max p.x0 q.x0, max p.y0 q.y0, min p.x1 q.x1, min p.y1 q.y1⟩
def meetT (a b : RT) : RT := if okB (endsT a) && okB (endsT b) then rectB (meetB (endsT a) (endsT b)) else ⟨0, 0, 0, 0⟩

theorem bring_any (n a b : Int) (w : World) : Calls Tryz.prog 106 #[.int .i64 n, .int .i64 a, .int .i64 b] w fun e w' => e = .returned (.int .i64 (bringT n a b)) ∧ w = w' := by
  unfold bringT
  go_enter Tryz.func106, Tryz.ntmps106
  go_wp2
  go_ret
  exact ⟨rfl, rfl⟩

theorem bring_in (x : Int) : 0 ≤ bringT x 0 8388608 ∧ bringT x 0 8388608 ≤ 8388608 ∧ (x ≤ 8388608 → 0 < x → bringT x 0 8388608 = x) ∧ (8388608 < x → bringT x 0 8388608 = 8388608) := by unfold bringT; omega
theorem end_in {x w : Int} (hx : w64 x) (hw : w64 w) : -9223372036854775808 ≤ endT x w ∧ endT x w ≤ 9223372036854775807 := by
  unfold w64 at *
  obtain ⟨h1, h2, h3, h4⟩ := bring_in x
  unfold endT
  split
  · omega
  · split
    · omega
    · rename_i h5 h6
      have h7 : x ≤ 0 ∨ w ≤ 8388608 - bringT x 0 8388608 := by omega
      omega
set_option maxHeartbeats 1000000 in
theorem end_any (x z : Int) (w : World) (hx : w64 x) (hz : w64 z) : Calls Tryz.prog 92 #[.int .i64 x, .int .i64 z] w fun e w' => e = .returned (.int .i64 (endT x z)) ∧ w = w' := by
  unfold w64 at hx hz
  by_cases h1 : z ≤ 0
  · have he : endT x z = -8388608 := by unfold endT; rw [if_pos h1]
    rw [he]
    clear he
    go_enter Tryz.func92, Tryz.ntmps92
    go_wp2
    go_ret
    exact ⟨rfl, rfl⟩
  · obtain ⟨k1, k2, k3, k4⟩ := bring_in x
    have HB := run.hid (fun w => bring_any x 0 8388608 w)
    by_cases h2 : 0 < x
    · by_cases h3 : 8388608 - bringT x 0 8388608 < z
      · have he : endT x z = 8388608 := by unfold endT; rw [if_neg h1, if_pos ⟨h2, h3⟩]
        rw [he]
        clear he
        generalize bringT x 0 8388608 = bx at *
        go_enter Tryz.func92, Tryz.ntmps92
        go_wp2_with fail
        refine (HB.out _).mono ?_
        rintro e w' ⟨rfl, rfl⟩
        go_wp2
        go_ret
        exact ⟨rfl, rfl⟩
      · have he : endT x z = x + z := by unfold endT; rw [if_neg h1, if_neg (by omega)]
        rw [he]
        clear he
        have h4 : x + z ≤ 8388608 := by omega
        generalize bringT x 0 8388608 = bx at *
        go_enter Tryz.func92, Tryz.ntmps92
        go_wp2_with fail
        refine (HB.out _).mono ?_
        rintro e w' ⟨rfl, rfl⟩
        go_wp2
        go_ret
        exact ⟨rfl, rfl⟩
    · have he : endT x z = x + z := by unfold endT; rw [if_neg h1, if_neg (by omega)]
      rw [he]
      clear he
      generalize bringT x 0 8388608 = bx at *
      go_enter Tryz.func92, Tryz.ntmps92
      go_wp2
      go_ret
      exact ⟨rfl, rfl⟩

theorem blk_old {w : World} (o : Obj) {k : Nat} (h : k < w.heap.size) : (w.alloc o).heap[k]? = w.heap[k]? := by
  show (w.heap.push o)[k]? = _
  rw [Array.getElem?_push, if_neg (by omega)]
/-- a block of cells, made and filled within one statement -/
def Mk (W1 : World) (Z V : Array Value) (t : TypeId) (ia is : Nat) (D : Nat → Bool) (W : World) : Prop :=
  (D ia = false ∧ D is = false ∧ W = W1) ∨ (D ia = true ∧ D is = false ∧ W = W1.alloc (.cells Z t)) ∨ (D ia = true ∧ D is = true ∧ W = W1.alloc (.cells V t))
theorem Mk.old {W1 W : World} {Z V : Array Value} {t : TypeId} {ia is : Nat} {D : Nat → Bool} (h : Mk W1 Z V t ia is D W) {b i : Nat} (hb : b < W1.heap.size) : W.cell? ⟨b, i, none⟩ = W1.cell? ⟨b, i, none⟩ := by
  rcases h with ⟨-, -, rfl⟩ | ⟨-, -, rfl⟩ | ⟨-, -, rfl⟩
  · rfl
  · exact World.cell?_alloc_past _ _ _ hb
  · exact World.cell?_alloc_past _ _ _ hb
theorem run_max {P : Program} {o : Oper} {ρ : Operand → Value} {w : World} {p q : Operand} {ts : Array TypeId} {x y z : Int} (ho : o.op = .call { callee := .builtin .max, args := #[p, q], argTypes := ts }) (hx : ρ p = .int .i64 x) (hy : ρ q = .int .i64 y) (hz : max x y = z) : (execOp ρ o).run P w = .ok (.value (.int .i64 z)) w := by
  subst hz
  unfold execOp
  simp only [ho]
  simp [hx, hy, go_sem]
theorem run_min {P : Program} {o : Oper} {ρ : Operand → Value} {w : World} {p q : Operand} {ts : Array TypeId} {x y z : Int} (ho : o.op = .call { callee := .builtin .min, args := #[p, q], argTypes := ts }) (hx : ρ p = .int .i64 x) (hy : ρ q = .int .i64 y) (hz : min x y = z) : (execOp ρ o).run P w = .ok (.value (.int .i64 z)) w := by
  subst hz
  unfold execOp
  simp only [ho]
  simp [hx, hy, go_sem]
theorem run_alloc {P : Program} {o : Oper} {ρ : Operand → Value} {w : World} {t : TypeId} {Z : Array Value} {z : Value} (ho : o.op = .alloc t) (hz : ∀ w, (zeroValue t).run P w = .ok z w) (hc : z.cells = Z) : (execOp ρ o).run P w = .ok (.value (.pointer (some ⟨w.heap.size, 0, none⟩))) (w.alloc (.cells Z t)) := by
  unfold execOp
  simp only [ho]
  subst hc
  simp [hz, go_sem]
  try rfl
theorem zero_box (w : World) : (zeroValue 116).run Tryz.prog w = .ok (.agg #[.int .i64 0, .int .i64 0, .int .i64 0, .int .i64 0]) w := by kernel_rfl
theorem run_lss {P : Program} {o : Oper} {ρ : Operand → Value} {w : World} {p q : Operand} {t t' : TypeId} {x y : Int} {b : Bool} (ho : o.op = .binOp .lss t p q t') (hx : ρ p = .int .i64 x) (hy : ρ q = .int .i64 y) (hb : decide (x < y) = b) : (execOp ρ o).run P w = .ok (.value (.bool b)) w := by
  subst hb
  unfold execOp
  simp only [ho, hx, hy]
  rfl
theorem run_loadrow {P : Program} {o : Oper} {ρ : Operand → Value} {w : World} {p : Operand} {ty t : TypeId} {g : Nat} {cs : Array Value} {fr : Nat × Nat} {d : TypeDesc} (ho : o.op = .load ty p) (hx : ρ p = .pointer (some ⟨g, 0, none⟩)) (hg : w.heap[g]? = some (.cells cs t fr))
    (hu : P.underlying ty = some d) (hd : (match d with | .struct _ | .array _ _ => true | _ => false) = true) (hi : (P.info? ty).map (·.size) = some cs.size) : (execOp ρ o).run P w = .ok (.value (.agg cs)) w := by
  unfold execOp
  simp only [ho, hx]
  have := run_loadVar_row w g t ty cs fr d hg hu hd hi
  simp [Instr.loadAt, Instr.sureAddr, this, Result.andThen]

set_option maxRecDepth 100000 in
set_option maxHeartbeats 4000000 in
theorem ends_any (r : RT) (w : World) (hr : r.wf) : Calls Tryz.prog 73 #[r.val] w fun e w' => e = .returned (.tuple #[(endsT r).val, .bool (okB (endsT r))]) ∧ Below w.heap.size w w' := by
  obtain ⟨x, y, z, u⟩ := r
  obtain ⟨hx, hy, hz, hh⟩ := hr
  have H1 := run.hid (fun w => end_any x z w hx hz)
  have H2 := run.hid (fun w => end_any y u w hy hh)
  show Calls _ _ #[.agg #[.int .i64 x, .int .i64 y, .int .i64 z, .int .i64 u]] _ fun e w' => e = .returned (.tuple #[.agg #[.int .i64 (max x (-1048576)), .int .i64 (max y (-1048576)), .int .i64 (min (endT x z) 1048576), .int .i64 (min (endT y u) 1048576)], .bool (decide (max x (-1048576) < min (endT x z) 1048576) && decide (max y (-1048576) < min (endT y u) 1048576))]) ∧ _
  change Hid (∀ w, Calls _ _ _ _ fun e w' => e = .returned (.int .i64 (endT x z)) ∧ _) at H1
  change Hid (∀ w, Calls _ _ _ _ fun e w' => e = .returned (.int .i64 (endT y u)) ∧ _) at H2
  generalize endT x z = ex at *
  generalize endT y u = ey at *
  obtain ⟨a0, ha0⟩ : ∃ e, max x (-1048576) = e := ⟨_, rfl⟩
  obtain ⟨b0, hb0⟩ : ∃ e, max y (-1048576) = e := ⟨_, rfl⟩
  obtain ⟨a1, ha1⟩ : ∃ e, min ex 1048576 = e := ⟨_, rfl⟩
  obtain ⟨b1, hb1⟩ : ∃ e, min ey 1048576 = e := ⟨_, rfl⟩
  rw [ha0, hb0, ha1, hb1]
  obtain ⟨A, hA⟩ : ∃ A : Obj, A = .cells #[.int .i64 x, .int .i64 y, .int .i64 z, .int .i64 u] 34 := ⟨_, rfl⟩
  obtain ⟨Z, hZ⟩ : ∃ Z : Array Value, Z = #[.int .i64 0, .int .i64 0, .int .i64 0, .int .i64 0] := ⟨_, rfl⟩
  obtain ⟨V, hV⟩ : ∃ V : Array Value, V = #[.int .i64 a0, .int .i64 b0, .int .i64 a1, .int .i64 b1] := ⟨_, rfl⟩
  have F : ∀ D W, Mk (((w.alloc A).alloc (.cells Z 116)).drew) Z V 116 19 20 D W → ∀ i, W.cell? ⟨w.heap.size, i, none⟩ = #[Value.int .i64 x, .int .i64 y, .int .i64 z, .int .i64 u][i]? := by
    intro D W hC i
    rw [hC.old (by simp; omega), hA]
    simp [go_sem]
  subst hA
  go_enter Tryz.func73, Tryz.ntmps73
  go_upto_region 1 with fail
  go_cut [4] (fun c wx => c = .pointer (some ⟨w.heap.size + 2, 0, none⟩) ∧ wx = (((w.alloc (.cells #[.int .i64 x, .int .i64 y, .int .i64 z, .int .i64 u] 34)).alloc (.cells #[.int .i64 0, .int .i64 0, .int .i64 0, .int .i64 0] 116)).drew).alloc (.cells #[.int .i64 a0, .int .i64 b0, .int .i64 a1, .int .i64 b1] 116))
  case first =>
    rw [← hZ]
    refine lx.region (Mk (((w.alloc _).alloc (.cells Z 116)).drew) Z V 116 19 20) (by kernel_rfl) (by kernel_rfl) (by kernel_rfl) (.inl ⟨rfl, rfl, rfl⟩) ?_
    refine lx.begin 37 rfl ?_
    refine lx.o_pure (.pointer (some ⟨w.heap.size, 0, none⟩)) (fun _ _ h => by first | rfl | kernel_rfl) ?_
    refine lx.o_pure (.int .i64 x) (fun D W h => lx.run_load rfl rfl Tryz.underlying3 rfl ((fun D W hC => (F D W hC 0)) D W h)) ?_
    refine lx.o_pure (.int .i64 a0) (fun D W h => run_max rfl rfl rfl ha0) ?_
    refine lx.o_pure (.pointer (some ⟨w.heap.size, 1, none⟩)) (fun _ _ h => by first | rfl | kernel_rfl) ?_
    refine lx.o_pure (.int .i64 y) (fun D W h => lx.run_load rfl rfl Tryz.underlying3 rfl ((fun D W hC => (F D W hC 1)) D W h)) ?_
    refine lx.o_pure (.int .i64 b0) (fun D W h => run_max rfl rfl rfl hb0) ?_
    refine lx.o_pure (.pointer (some ⟨w.heap.size, 0, none⟩)) (fun _ _ h => by first | rfl | kernel_rfl) ?_
    refine lx.o_pure (.int .i64 x) (fun D W h => lx.run_load rfl rfl Tryz.underlying3 rfl ((fun D W hC => (F D W hC 0)) D W h)) ?_
    refine lx.o_pure (.pointer (some ⟨w.heap.size, 2, none⟩)) (fun _ _ h => by first | rfl | kernel_rfl) ?_
    refine lx.o_pure (.int .i64 z) (fun D W h => lx.run_load rfl rfl Tryz.underlying3 rfl ((fun D W hC => (F D W hC 2)) D W h)) ?_
    refine lx.o_call (.int .i64 ex) 92 #[.int .i64 x, .int .i64 z] (fun _ _ _ => lx.run_fn rfl rfl rfl (enters_of Tryz.func92 (by kernel_rfl) rfl)) (fun D W hC => (H1.out W).mono fun e w2 ⟨he, hw⟩ => ⟨he, by rw [← hw]; exact hC⟩) ?_
    refine lx.o_pure (.int .i64 a1) (fun D W h => run_min rfl rfl rfl ha1) ?_
    refine lx.o_pure (.pointer (some ⟨w.heap.size, 1, none⟩)) (fun _ _ h => by first | rfl | kernel_rfl) ?_
    refine lx.o_pure (.int .i64 y) (fun D W h => lx.run_load rfl rfl Tryz.underlying3 rfl ((fun D W hC => (F D W hC 1)) D W h)) ?_
    refine lx.o_pure (.pointer (some ⟨w.heap.size, 3, none⟩)) (fun _ _ h => by first | rfl | kernel_rfl) ?_
    refine lx.o_pure (.int .i64 u) (fun D W h => lx.run_load rfl rfl Tryz.underlying3 rfl ((fun D W hC => (F D W hC 3)) D W h)) ?_
    refine lx.o_call (.int .i64 ey) 92 #[.int .i64 y, .int .i64 u] (fun _ _ _ => lx.run_fn rfl rfl rfl (enters_of Tryz.func92 (by kernel_rfl) rfl)) (fun D W hC => (H2.out W).mono fun e w2 ⟨he, hw⟩ => ⟨he, by rw [← hw]; exact hC⟩) ?_
    refine lx.o_pure (.int .i64 b1) (fun D W h => run_min rfl rfl rfl hb1) ?_
    refine lx.o_pure (.agg #[.int .i64 a0, .int .i64 b0, .int .i64 a1, .int .i64 b1]) (fun _ _ h => by first | rfl | kernel_rfl) ?_
    refine lx.o_eff (.pointer (some ⟨w.heap.size + 2, 0, none⟩)) (fun D W h0 hdep hC => ?_) ?_
    · rcases hC with ⟨h1, h2, rfl⟩ | ⟨h1, -, -⟩ | ⟨h1, -, -⟩
      · exact ⟨_, (run_alloc rfl zero_box hZ.symm).trans (by simp), .inr (.inl ⟨rfl, h2, rfl⟩)⟩
      · rw [show (0 + 1 + 1 + 1 + 1 + 1 + 1 + 1 + 1 + 1 + 1 + 1 + 1 + 1 + 1 + 1 + 1 + 1 + 1 + 1 : Nat) = 19 from rfl, h1] at h0; cases h0
      · rw [show (0 + 1 + 1 + 1 + 1 + 1 + 1 + 1 + 1 + 1 + 1 + 1 + 1 + 1 + 1 + 1 + 1 + 1 + 1 + 1 : Nat) = 19 from rfl, h1] at h0; cases h0
    refine lx.o_put (fun D W h0 hdep hC => ?_) ?_
    · have h19 : D 19 = true := hdep ⟨19, .data⟩ (by simp) rfl
      rcases hC with ⟨h1, -, -⟩ | ⟨h1, h2, rfl⟩ | ⟨h1, h2, rfl⟩
      · rw [h1] at h19; cases h19
      · refine ⟨_, ?_, .inr (.inr ⟨h1, rfl, rfl⟩)⟩
        rw [hV, hZ]
        unfold execOp
        simp only
        rw [show lx.look _ _ (Operand.tmp 4) = Value.pointer (some ⟨w.heap.size + 2, 0, none⟩) from rfl, show lx.look _ _ (Operand.tmp 23) = Value.agg #[.int .i64 a0, .int .i64 b0, .int .i64 a1, .int .i64 b1] from rfl]
        simp [go_sem]
      · rw [show (0 + 1 + 1 + 1 + 1 + 1 + 1 + 1 + 1 + 1 + 1 + 1 + 1 + 1 + 1 + 1 + 1 + 1 + 1 + 1 + 1 : Nat) = 20 from rfl, h2] at h0; cases h0
    refine lx.o_end ?_
    simp only [lx.ov]
    rintro W d hd hC
    have h20 := hd 20 (by decide)
    rcases hC with ⟨-, h2, -⟩ | ⟨-, h2, -⟩ | ⟨-, -, rfl⟩
    · rw [h2] at h20; cases h20
    · rw [h2] at h20; cases h20
    rw [hV, hZ]
    clear F h20 hd H1 H2
    go_wp2
    go_meet
    case rel => exact ⟨rfl, rfl⟩
  obtain ⟨rfl, rfl⟩ := hcut
  have hb3 := (drewB (run.below_two w (.cells #[.int .i64 x, .int .i64 y, .int .i64 z, .int .i64 u] 34) (.cells #[.int .i64 0, .int .i64 0, .int .i64 0, .int .i64 0] 116))).alloc (by simp; omega) (.cells #[.int .i64 a0, .int .i64 b0, .int .i64 a1, .int .i64 b1] 116)
  have k1 : ((((w.alloc (.cells #[.int .i64 x, .int .i64 y, .int .i64 z, .int .i64 u] 34)).alloc (.cells #[.int .i64 0, .int .i64 0, .int .i64 0, .int .i64 0] 116)).drew).alloc (.cells #[.int .i64 a0, .int .i64 b0, .int .i64 a1, .int .i64 b1] 116)).heap[w.heap.size + 1]? = some (.cells #[.int .i64 0, .int .i64 0, .int .i64 0, .int .i64 0] 116 (0, 0)) := (blk_old _ (by simp)).trans (heap_alloc2_new w _ _)
  have k2 : ((((w.alloc (.cells #[.int .i64 x, .int .i64 y, .int .i64 z, .int .i64 u] 34)).alloc (.cells #[.int .i64 0, .int .i64 0, .int .i64 0, .int .i64 0] 116)).drew).alloc (.cells #[.int .i64 a0, .int .i64 b0, .int .i64 a1, .int .i64 b1] 116)).heap[w.heap.size + 2]? = some (.cells #[.int .i64 a0, .int .i64 b0, .int .i64 a1, .int .i64 b1] 116 (0, 0)) := by
    have := heap_alloc_new (((w.alloc (.cells #[.int .i64 x, .int .i64 y, .int .i64 z, .int .i64 u] 34)).alloc (.cells #[.int .i64 0, .int .i64 0, .int .i64 0, .int .i64 0] 116)).drew) (.cells #[.int .i64 a0, .int .i64 b0, .int .i64 a1, .int .i64 b1] 116)
    simpa using this
  clear F H1 H2 hZ hV ha0 hb0 ha1 hb1
  generalize (((w.alloc (.cells #[.int .i64 x, .int .i64 y, .int .i64 z, .int .i64 u] 34)).alloc (.cells #[.int .i64 0, .int .i64 0, .int .i64 0, .int .i64 0] 116)).drew).alloc (.cells #[.int .i64 a0, .int .i64 b0, .int .i64 a1, .int .i64 b1] 116) = w3 at *
  obtain ⟨⟨d0, d1, d2, d3⟩, g0, g1, g2, g3⟩ := blk4 k1
  obtain ⟨⟨c0, c1, c2, c3⟩, -⟩ := blk4 k2
  have K9 := run.hid (set4 (a' := .int .i64 a0) (b' := .int .i64 b0) (c' := .int .i64 a1) (d' := .int .i64 b1) (show w3.drew.heap[w.heap.size + 1]? = _ from k1))
  have HB9 := run.hid (below4 (.int .i64 a0) (.int .i64 b0) (.int .i64 a1) (.int .i64 b1) (drewB hb3) (show w.heap.size ≤ w.heap.size + 1 by omega))
  clear hb3 k1
  obtain ⟨WS, hWS⟩ : ∃ W, W = (((w3.drew.setCell ⟨w.heap.size + 1, 0, none⟩ (.int .i64 a0)).setCell ⟨w.heap.size + 1, 1, none⟩ (.int .i64 b0)).setCell ⟨w.heap.size + 1, 2, none⟩ (.int .i64 a1)).setCell ⟨w.heap.size + 1, 3, none⟩ (.int .i64 b1) := ⟨_, rfl⟩
  rw [← hWS] at K9 HB9
  have kS : WS.heap[w.heap.size + 2]? = some (.cells #[.int .i64 a0, .int .i64 b0, .int .i64 a1, .int .i64 b1] 116 (0, 0)) := by
    rw [hWS]
    exact (blk_other _ (by simp)).trans ((blk_other _ (by simp)).trans ((blk_other _ (by simp)).trans ((blk_other _ (by simp)).trans k2)))
  have G : ∀ (D : Nat → Bool) W, (D 13 = false ∧ W = w3.drew) ∨ (D 13 = true ∧ W = WS) → W.heap[w.heap.size + 2]? = some (.cells #[.int .i64 a0, .int .i64 b0, .int .i64 a1, .int .i64 b1] 116 (0, 0)) := by
    rintro D W (⟨-, rfl⟩ | ⟨-, rfl⟩)
    · exact k2
    · exact kS
  have F : ∀ (D : Nat → Bool) W, (D 13 = false ∧ W = w3.drew) ∨ (D 13 = true ∧ W = WS) → ∀ i, W.cell? ⟨w.heap.size + 2, i, none⟩ = #[Value.int .i64 a0, .int .i64 b0, .int .i64 a1, .int .i64 b1][i]? := fun D W h i => blk_cell (G D W h) i
  by_cases hlt : a0 < a1
  · go_upto_region 2 with fail
    refine lx.region (fun D W => (D 13 = false ∧ W = w3.drew) ∨ (D 13 = true ∧ W = WS)) (by kernel_rfl) (by kernel_rfl) (by kernel_rfl) (.inl ⟨rfl, rfl⟩) ?_
    refine lx.begin 37 rfl ?_
    refine lx.o_pure (.agg #[.int .i64 a0, .int .i64 b0, .int .i64 a1, .int .i64 b1]) (fun D W h => run_loadrow rfl rfl (G D W h) Tryz.underlying116 rfl (by kernel_rfl)) ?_
    refine lx.o_pure (.pointer (some ⟨w.heap.size + 2, 0, none⟩)) (fun _ _ h => by first | rfl | kernel_rfl) ?_
    refine lx.o_pure (.int .i64 a0) (fun D W h => lx.run_load rfl rfl Tryz.underlying3 rfl ((fun D W hC => (F D W hC 0)) D W h)) ?_
    refine lx.o_pure (.pointer (some ⟨w.heap.size + 2, 2, none⟩)) (fun _ _ h => by first | rfl | kernel_rfl) ?_
    refine lx.o_pure (.int .i64 a1) (fun D W h => lx.run_load rfl rfl Tryz.underlying3 rfl ((fun D W hC => (F D W hC 2)) D W h)) ?_
    refine lx.o_pure (.bool true) (fun _ _ _ => run_lss rfl rfl rfl (decide_eq_true hlt)) ?_
    refine lx.o_pure (.bool true) (fun _ _ h => by first | rfl | kernel_rfl) ?_
    refine lx.o_pure (.pointer (some ⟨w.heap.size + 2, 1, none⟩)) (fun _ _ h => by first | rfl | kernel_rfl) ?_
    refine lx.o_pure (.int .i64 b0) (fun D W h => lx.run_load rfl rfl Tryz.underlying3 rfl ((fun D W hC => (F D W hC 1)) D W h)) ?_
    refine lx.o_pure (.pointer (some ⟨w.heap.size + 2, 3, none⟩)) (fun _ _ h => by first | rfl | kernel_rfl) ?_
    refine lx.o_pure (.int .i64 b1) (fun D W h => lx.run_load rfl rfl Tryz.underlying3 rfl ((fun D W hC => (F D W hC 3)) D W h)) ?_
    refine lx.o_pure (.bool (decide (b0 < b1))) (fun _ _ _ => run_lss rfl rfl rfl rfl) ?_
    refine lx.o_pure (.bool (decide (b0 < b1))) (fun _ _ h => by first | rfl | kernel_rfl) ?_
    refine lx.o_put (fun D W h0 hdep hC => ?_) ?_
    · rcases hC with ⟨h1, rfl⟩ | ⟨h1, rfl⟩
      · refine ⟨WS, ?_, .inr ⟨rfl, rfl⟩⟩
        unfold execOp
        simp only
        rw [show lx.look _ _ (Operand.tmp 2) = Value.pointer (some ⟨w.heap.size + 1, 0, none⟩) from rfl, show lx.look _ _ (Operand.tmp 24) = Value.agg #[.int .i64 a0, .int .i64 b0, .int .i64 a1, .int .i64 b1] from rfl, hWS]
        simp [go_sem, d0, d1, d2, d3, g0, g1, g2, g3]
      · rw [show (0 + 1 + 1 + 1 + 1 + 1 + 1 + 1 + 1 + 1 + 1 + 1 + 1 + 1 : Nat) = 13 from rfl, h1] at h0; cases h0
    refine lx.o_pure (.bool (decide (b0 < b1))) (fun _ _ h => by first | rfl | kernel_rfl) ?_
    refine lx.o_end ?_
    simp only [lx.ov]
    rintro W d hd hC
    have h13 := hd 13 (by decide)
    rcases hC with ⟨h2, -⟩ | ⟨-, rfl⟩
    · rw [h2] at h13; cases h13
    clear F G hd h13 kS hWS k2 d0 d1 d2 d3 g0 g1 g2 g3 c0 c1 c2 c3
    go_wp2
    refine bodyPost_ret (v := .tuple #[.agg #[.int .i64 a0, .int .i64 b0, .int .i64 a1, .int .i64 b1], .bool (decide (b0 < b1))]) ((results_cell_tmp rfl _ _ _).trans ?_) rfl ?_
    · obtain ⟨⟨e0, e1, e2, e3⟩, -⟩ := blk4 K9.out
      simp [go_sem, e0, e1, e2, e3]
    · exact ⟨rfl, HB9.out⟩
  · go_upto_region 2 with fail
    refine lx.region (fun D W => (D 13 = false ∧ W = w3.drew) ∨ (D 13 = true ∧ W = WS)) (by kernel_rfl) (by kernel_rfl) (by kernel_rfl) (.inl ⟨rfl, rfl⟩) ?_
    refine lx.begin 37 rfl ?_
    refine lx.o_pure (.agg #[.int .i64 a0, .int .i64 b0, .int .i64 a1, .int .i64 b1]) (fun D W h => run_loadrow rfl rfl (G D W h) Tryz.underlying116 rfl (by kernel_rfl)) ?_
    refine lx.o_pure (.pointer (some ⟨w.heap.size + 2, 0, none⟩)) (fun _ _ h => by first | rfl | kernel_rfl) ?_
    refine lx.o_pure (.int .i64 a0) (fun D W h => lx.run_load rfl rfl Tryz.underlying3 rfl ((fun D W hC => (F D W hC 0)) D W h)) ?_
    refine lx.o_pure (.pointer (some ⟨w.heap.size + 2, 2, none⟩)) (fun _ _ h => by first | rfl | kernel_rfl) ?_
    refine lx.o_pure (.int .i64 a1) (fun D W h => lx.run_load rfl rfl Tryz.underlying3 rfl ((fun D W hC => (F D W hC 2)) D W h)) ?_
    refine lx.o_pure (.bool false) (fun _ _ _ => run_lss rfl rfl rfl (decide_eq_false hlt)) ?_
    refine lx.o_pure (.bool false) (fun _ _ h => by first | rfl | kernel_rfl) ?_
    refine lx.o_skip ?_
    refine lx.o_skip ?_
    refine lx.o_skip ?_
    refine lx.o_skip ?_
    refine lx.o_skip ?_
    refine lx.o_pure (.bool false) (fun _ _ h => by first | rfl | kernel_rfl) ?_
    refine lx.o_put (fun D W h0 hdep hC => ?_) ?_
    · rcases hC with ⟨h1, rfl⟩ | ⟨h1, rfl⟩
      · refine ⟨WS, ?_, .inr ⟨rfl, rfl⟩⟩
        unfold execOp
        simp only
        rw [show lx.look _ _ (Operand.tmp 2) = Value.pointer (some ⟨w.heap.size + 1, 0, none⟩) from rfl, show lx.look _ _ (Operand.tmp 24) = Value.agg #[.int .i64 a0, .int .i64 b0, .int .i64 a1, .int .i64 b1] from rfl, hWS]
        simp [go_sem, d0, d1, d2, d3, g0, g1, g2, g3]
      · rw [show (0 + 1 + 1 + 1 + 1 + 1 + 1 + 1 + 1 + 1 + 1 + 1 + 1 + 1 : Nat) = 13 from rfl, h1] at h0; cases h0
    refine lx.o_pure (.bool false) (fun _ _ h => by first | rfl | kernel_rfl) ?_
    refine lx.o_end ?_
    simp only [lx.ov]
    rintro W d hd hC
    have h13 := hd 13 (by decide)
    rcases hC with ⟨h2, -⟩ | ⟨-, rfl⟩
    · rw [h2] at h13; cases h13
    clear F G hd h13 kS hWS k2 d0 d1 d2 d3 g0 g1 g2 g3 c0 c1 c2 c3
    go_wp2
    refine bodyPost_ret (v := .tuple #[.agg #[.int .i64 a0, .int .i64 b0, .int .i64 a1, .int .i64 b1], .bool false]) ((results_cell_tmp rfl _ _ _).trans ?_) rfl ?_
    · obtain ⟨⟨e0, e1, e2, e3⟩, -⟩ := blk4 K9.out
      simp [go_sem, e0, e1, e2, e3]
    · exact ⟨by rw [decide_eq_false (show ¬ a0 < a1 by omega), Bool.false_and], HB9.out⟩
end Go.Proofs.YtdgcfmfjgidbjaaGreat.cel
namespace Go.Proofs.YtdgcfmfjgidbjaaGreat.cel
open Go Go.RowKit Go.Proofs
set_option linter.unusedVariables false

set_option maxRecDepth 100000 in
set_option maxHeartbeats 4000000 in
theorem has_any (r : RT) (x y : Int) (w : World) (hr : r.wf) : Calls Tryz.prog 62 #[r.val, .int .i64 x, .int .i64 y] w fun e w' => e = .returned (.bool (hasT r x y)) ∧ Below w.heap.size w w' := by
  have H1 := run.hid (fun w => ends_any r w hr)
  unfold hasT
  generalize okB (endsT r) = ok at *
  generalize endsT r = b at *
  clear hr
  obtain ⟨x0, y0, x1, y1⟩ := b
  obtain ⟨rx, ry, rw', rh⟩ := r
  change Hid (∀ w, Calls _ _ #[.agg #[.int .i64 rx, .int .i64 ry, .int .i64 rw', .int .i64 rh]] w fun e w' => e = .returned (.tuple #[.agg #[.int .i64 x0, .int .i64 y0, .int .i64 x1, .int .i64 y1], .bool ok]) ∧ _) at H1
  show Calls _ _ #[.agg #[.int .i64 rx, .int .i64 ry, .int .i64 rw', .int .i64 rh], _, _] _ fun e w' => e = .returned (.bool (ok && (decide (x0 ≤ x) && (decide (x < x1) && (decide (y0 ≤ y) && decide (y < y1)))))) ∧ _
  have HB := run.hid (run.below_one w (.cells #[.int .i64 rx, .int .i64 ry, .int .i64 rw', .int .i64 rh] 34))
  go_enter Tryz.func62, Tryz.ntmps62
  go_wp2_with fail
  refine (H1.out _).mono ?_
  rintro e w' ⟨rfl, hb⟩
  have HB2 := run.hid ((HB.out.trans (hb.mono (by simp))).alloc ((HB.out.trans (hb.mono (by simp))).size) (.cells #[.int .i64 x0, .int .i64 y0, .int .i64 x1, .int .i64 y1] 116))
  clear hb HB H1
  cases ok with
  | false =>
    go_wp2
    go_ret
    exact ⟨rfl, HB2.out⟩
  | true =>
    by_cases h1 : x0 ≤ x
    · by_cases h2 : x < x1
      · by_cases h3 : y0 ≤ y
        · go_wp2
          go_ret
          exact ⟨by simp [h1, h2, h3], HB2.out⟩
        · go_wp2
          go_ret
          exact ⟨by simp; omega, HB2.out⟩
      · go_wp2
        go_ret
        exact ⟨by simp; omega, HB2.out⟩
    · go_wp2
      go_ret
      exact ⟨by simp; omega, HB2.out⟩

set_option maxRecDepth 100000 in
set_option maxHeartbeats 4000000 in
theorem boxrect_any (b : BT) (w : World) (hb : w64 b.x0 ∧ w64 b.y0 ∧ w64 b.x1 ∧ w64 b.y1) : Calls Tryz.prog 74 #[b.val] w fun e w' => e = .returned (rectB b).val ∧ Below w.heap.size w w' := by
  obtain ⟨x0, y0, x1, y1⟩ := b
  have hR : (rectB ⟨x0, y0, x1, y1⟩).val = if min x1 1048576 ≤ max x0 (-1048576) ∨ min y1 1048576 ≤ max y0 (-1048576) then .agg #[.int .i64 0, .int .i64 0, .int .i64 0, .int .i64 0] else .agg #[.int .i64 (max x0 (-1048576)), .int .i64 (max y0 (-1048576)), .int .i64 (min x1 1048576 - max x0 (-1048576)), .int .i64 (min y1 1048576 - max y0 (-1048576))] := by
    unfold rectB cutB
    simp only
    split <;> rfl
  rw [hR]
  show Calls _ _ #[.agg #[.int .i64 x0, .int .i64 y0, .int .i64 x1, .int .i64 y1]] _ _
  unfold w64 at hb
  obtain ⟨h1, h2, h3, h4⟩ := hb
  simp only at h1 h2 h3 h4
  obtain ⟨a0, ha0⟩ : ∃ e, max x0 (-1048576) = e := ⟨_, rfl⟩
  obtain ⟨c0, hc0⟩ : ∃ e, max y0 (-1048576) = e := ⟨_, rfl⟩
  obtain ⟨a1, ha1⟩ : ∃ e, min x1 1048576 = e := ⟨_, rfl⟩
  obtain ⟨c1, hc1⟩ : ∃ e, min y1 1048576 = e := ⟨_, rfl⟩
  rw [ha0, hc0, ha1, hc1]
  have b1 : -1048576 ≤ a0 ∧ a0 ≤ 9223372036854775807 := by omega
  have b2 : -1048576 ≤ c0 ∧ c0 ≤ 9223372036854775807 := by omega
  have b3 : -9223372036854775808 ≤ a1 ∧ a1 ≤ 1048576 := by omega
  have b4 : -9223372036854775808 ≤ c1 ∧ c1 ≤ 1048576 := by omega
  clear h1 h2 h3 h4 hR
  by_cases k1 : a1 ≤ a0
  · rw [if_pos (.inl k1)]
    go_enter Tryz.func74, Tryz.ntmps74
    go_wp2
    refine bodyPost_ret (v := .agg #[.int .i64 0, .int .i64 0, .int .i64 0, .int .i64 0]) (results_cell_row rfl _ _ (w.heap.size + 1) _ _ _ _ rfl (heap_alloc2_new _ _ _) Tryz.underlying34 rfl (by kernel_rfl)) rfl ?_
    exact ⟨rfl, run.below_two w _ _⟩
  · by_cases k2 : c1 ≤ c0
    · rw [if_pos (.inr k2)]
      go_enter Tryz.func74, Tryz.ntmps74
      go_wp2
      refine bodyPost_ret (v := .agg #[.int .i64 0, .int .i64 0, .int .i64 0, .int .i64 0]) (results_cell_row rfl _ _ (w.heap.size + 1) _ _ _ _ rfl (heap_alloc2_new _ _ _) Tryz.underlying34 rfl (by kernel_rfl)) rfl ?_
      exact ⟨rfl, run.below_two w _ _⟩
    · rw [if_neg (by omega)]
      go_enter Tryz.func74, Tryz.ntmps74
      go_wp2
      refine bodyPost_ret (v := .agg #[.int .i64 a0, .int .i64 c0, .int .i64 (a1 - a0), .int .i64 (c1 - c0)]) (results_cell_row rfl _ _ (w.heap.size + 1) _ _ _ _ rfl (heap_alloc2_new _ _ _) Tryz.underlying34 rfl (by kernel_rfl)) rfl ?_
      exact ⟨rfl, run.below_two w _ _⟩

theorem ends_in {r : RT} (h : r.wf) : w64 (endsT r).x0 ∧ w64 (endsT r).y0 ∧ w64 (endsT r).x1 ∧ w64 (endsT r).y1 := by
  obtain ⟨h1, h2, h3, h4⟩ := h
  have e1 := end_in h1 h3
  have e2 := end_in h2 h4
  unfold w64 endsT at *
  simp only
  omega

set_option maxRecDepth 100000 in
set_option maxHeartbeats 4000000 in
theorem meet_any (a b : RT) (w : World) (ha : a.wf) (hb : b.wf) : Calls Tryz.prog 50 #[a.val, b.val] w fun e w' => e = .returned (meetT a b).val ∧ Below w.heap.size w w' := by
  have H1 := run.hid (fun w => ends_any a w ha)
  have H2 := run.hid (fun w => ends_any b w hb)
  obtain ⟨i1, i2, i3, i4⟩ := ends_in ha
  obtain ⟨j1, j2, j3, j4⟩ := ends_in hb
  have H3 := run.hid (fun w => boxrect_any (meetB (endsT a) (endsT b)) w (by unfold w64 meetB at *; simp only; omega))
  unfold meetT
  clear ha hb i1 i2 i3 i4 j1 j2 j3 j4
  generalize rectB (meetB (endsT a) (endsT b)) = R at *
  unfold meetB at H3
  generalize okB (endsT a) = o1 at *
  generalize okB (endsT b) = o2 at *
  generalize endsT a = p at *
  generalize endsT b = q at *
  obtain ⟨x0, y0, x1, y1⟩ := p
  obtain ⟨u0, v0, u1, v1⟩ := q
  obtain ⟨ax, ay, aw, ah⟩ := a
  obtain ⟨bx, by', bw, bh⟩ := b
  obtain ⟨rx, ry, rw', rh⟩ := R
  change Hid (∀ w, Calls _ _ #[.agg #[.int .i64 ax, .int .i64 ay, .int .i64 aw, .int .i64 ah]] w fun e w' => e = .returned (.tuple #[.agg #[.int .i64 x0, .int .i64 y0, .int .i64 x1, .int .i64 y1], .bool o1]) ∧ _) at H1
  change Hid (∀ w, Calls _ _ #[.agg #[.int .i64 bx, .int .i64 by', .int .i64 bw, .int .i64 bh]] w fun e w' => e = .returned (.tuple #[.agg #[.int .i64 u0, .int .i64 v0, .int .i64 u1, .int .i64 v1], .bool o2]) ∧ _) at H2
  change Hid (∀ w, Calls _ _ #[.agg #[.int .i64 (max x0 u0), .int .i64 (max y0 v0), .int .i64 (min x1 u1), .int .i64 (min y1 v1)]] w fun e w' => e = .returned (.agg #[.int .i64 rx, .int .i64 ry, .int .i64 rw', .int .i64 rh]) ∧ _) at H3
  show Calls _ _ #[.agg #[.int .i64 ax, .int .i64 ay, .int .i64 aw, .int .i64 ah], .agg #[.int .i64 bx, .int .i64 by', .int .i64 bw, .int .i64 bh]] _ fun e w' => e = .returned (RT.val (if (o1 && o2) = true then ⟨rx, ry, rw', rh⟩ else ⟨0, 0, 0, 0⟩)) ∧ _
  have HV : Hid (RT.val (if (o1 && o2) = true then ⟨rx, ry, rw', rh⟩ else ⟨0, 0, 0, 0⟩) = if (o1 && o2) = true then .agg #[.int .i64 rx, .int .i64 ry, .int .i64 rw', .int .i64 rh] else .agg #[.int .i64 0, .int .i64 0, .int .i64 0, .int .i64 0]) := by
    show _ = _
    split <;> rfl
  rw [HV.out]
  go_enter Tryz.func50, Tryz.ntmps50
  go_wp2_with fail
  refine (H1.out _).mono ?_
  rintro e w1 ⟨rfl, hb1⟩
  have hB1 := (((Below.refl w.heap.size w).alloc (Nat.le_refl _) (.cells #[.int .i64 ax, .int .i64 ay, .int .i64 aw, .int .i64 ah] 34)).alloc (by simp) (.cells #[.int .i64 bx, .int .i64 by', .int .i64 bw, .int .i64 bh] 34)).alloc (by simp <;> omega) (.cells #[.int .i64 0, .int .i64 0, .int .i64 0, .int .i64 0] 34)
  have hB := hB1.trans (hb1.mono hB1.size)
  have s1 := hb1.size
  simp only [World.size_alloc] at s1
  have k1 : w1.heap[w.heap.size + 1]? = some (.cells #[.int .i64 bx, .int .i64 by', .int .i64 bw, .int .i64 bh] 34 (0, 0)) := (hb1.block _ (by simp <;> omega)).trans ((blk_old _ (by simp)).trans (heap_alloc2_new w _ _))
  have k2 : w1.heap[w.heap.size + 1 + 1]? = some (.cells #[.int .i64 0, .int .i64 0, .int .i64 0, .int .i64 0] 34 (0, 0)) := (hb1.block _ (by simp)).trans (by simpa using heap_alloc_new (((w.alloc (.cells #[.int .i64 ax, .int .i64 ay, .int .i64 aw, .int .i64 ah] 34)).alloc (.cells #[.int .i64 bx, .int .i64 by', .int .i64 bw, .int .i64 bh] 34))) (.cells #[.int .i64 0, .int .i64 0, .int .i64 0, .int .i64 0] 34))
  clear hB1 hb1 H1
  obtain ⟨⟨c0, c1, c2, c3⟩, -⟩ := blk4 ((blk_old (.cells #[.int .i64 x0, .int .i64 y0, .int .i64 x1, .int .i64 y1] 116) (by omega)).trans k1)
  go_wp2_with fail
  refine (H2.out _).mono ?_
  rintro e w2 ⟨rfl, hb2⟩
  clear c0 c1 c2 c3 k1
  have s2 := hb2.size
  simp only [World.size_alloc] at s2
  have hBp := hB.alloc hB.size (.cells #[.int .i64 x0, .int .i64 y0, .int .i64 x1, .int .i64 y1] 116)
  have hB2 := hBp.trans (hb2.mono hBp.size)
  have kp : w2.heap[w1.heap.size]? = some (.cells #[.int .i64 x0, .int .i64 y0, .int .i64 x1, .int .i64 y1] 116 (0, 0)) := (hb2.block _ (by simp)).trans (heap_alloc_new _ _)
  have kr : w2.heap[w.heap.size + 1 + 1]? = some (.cells #[.int .i64 0, .int .i64 0, .int .i64 0, .int .i64 0] 34 (0, 0)) := (hb2.block _ (by simp <;> omega)).trans ((blk_old _ (by omega)).trans k2)
  clear hb2 hB hBp k2 H2
  have hBq := hB2.alloc hB2.size (.cells #[.int .i64 u0, .int .i64 v0, .int .i64 u1, .int .i64 v1] 116)
  have kr2 : (w2.alloc (.cells #[.int .i64 u0, .int .i64 v0, .int .i64 u1, .int .i64 v1] 116)).heap[w.heap.size + 1 + 1]? = some (.cells #[.int .i64 0, .int .i64 0, .int .i64 0, .int .i64 0] 34 (0, 0)) := (blk_old _ (by omega)).trans kr
  obtain ⟨⟨d0, d1, d2, d3⟩, g0, g1, g2, g3⟩ := blk4 kr2
  obtain ⟨⟨c0, c1, c2, c3⟩, -⟩ := blk4 ((blk_old (.cells #[.int .i64 u0, .int .i64 v0, .int .i64 u1, .int .i64 v1] 116) (by omega)).trans kp)
  by_cases ho : (o1 && o2) = true
  · rw [Bool.and_eq_true] at ho
    obtain ⟨rfl, rfl⟩ := ho
    clear HV
    go_wp2_with fail
    refine (H3.out _).mono ?_
    rintro e w3 ⟨rfl, hb3⟩
    have kr3 := (hb3.block _ (by simp; omega)).trans kr2
    have hB3 := hBq.trans (hb3.mono hBq.size)
    clear d0 d1 d2 d3 g0 g1 g2 g3 c0 c1 c2 c3 hBq kr2 hb3 H3 hB2 kr kp
    obtain ⟨⟨d0, d1, d2, d3⟩, g0, g1, g2, g3⟩ := blk4 kr3
    have K9 := run.hid (set4 (a' := .int .i64 rx) (b' := .int .i64 ry) (c' := .int .i64 rw') (d' := .int .i64 rh) kr3)
    have HB9 := run.hid (below4 (.int .i64 rx) (.int .i64 ry) (.int .i64 rw') (.int .i64 rh) hB3 (show w.heap.size ≤ w.heap.size + 1 + 1 by omega))
    clear kr3 hB3
    go_wp2
    refine bodyPost_ret (v := .agg #[.int .i64 rx, .int .i64 ry, .int .i64 rw', .int .i64 rh]) (results_cell_row rfl _ _ (w.heap.size + 1 + 1) _ _ _ _ rfl K9.out Tryz.underlying34 rfl (by kernel_rfl)) rfl ?_
    exact ⟨rfl, HB9.out⟩
  · have K9 := run.hid (set4 (a' := .int .i64 0) (b' := .int .i64 0) (c' := .int .i64 0) (d' := .int .i64 0) kr2)
    have HB9 := run.hid (below4 (.int .i64 0) (.int .i64 0) (.int .i64 0) (.int .i64 0) hBq (show w.heap.size ≤ w.heap.size + 1 + 1 by omega))
    have HO := run.hid ho
    clear kr2 kr kp hBq hB2 H3
    cases o1 with
    | false =>
      clear ho
      go_wp2
      refine bodyPost_ret (v := .agg #[.int .i64 0, .int .i64 0, .int .i64 0, .int .i64 0]) (results_cell_row rfl _ _ (w.heap.size + 1 + 1) _ _ _ _ rfl K9.out Tryz.underlying34 rfl (by kernel_rfl)) rfl ?_
      exact ⟨rfl, HB9.out⟩
    | true =>
      cases o2 with
      | true => exact absurd rfl HO.out
      | false =>
        clear ho
        go_wp2
        refine bodyPost_ret (v := .agg #[.int .i64 0, .int .i64 0, .int .i64 0, .int .i64 0]) (results_cell_row rfl _ _ (w.heap.size + 1 + 1) _ _ _ _ rfl K9.out Tryz.underlying34 rfl (by kernel_rfl)) rfl ?_
        exact ⟨rfl, HB9.out⟩
end Go.Proofs.YtdgcfmfjgidbjaaGreat.cel
