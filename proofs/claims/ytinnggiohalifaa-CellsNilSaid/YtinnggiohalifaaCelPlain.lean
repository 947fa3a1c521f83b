/-
  Cells as the layer cells has them, in memory and as lists; what its functions make of them.
-/
import Derived.Test.YtinnggiohalifaaRowKit
import Derived.WalkKit
namespace Go.Proofs.Ytinnggiohalifaa.cel
open Go Go.RowKit
set_option linter.unusedVariables false

structure SV where
  fg : Int
  bg : Int
  att : Int
deriving DecidableEq, Inhabited
structure CV where
  text : ByteArray
  wide : Int
  sty : SV
deriving DecidableEq, Inhabited
def s0 : SV := ⟨0, 0, 0⟩
def z0 : CV := ⟨⟨#[]⟩, 0, s0⟩
def SV.val (s : SV) : Value := .agg #[.int .i32 s.fg, .int .i32 s.bg, .int .u8 s.att]
def CV.val (c : CV) : Value := .agg #[.string c.text, .int .i8 c.wide, .int .i32 c.sty.fg, .int .i32 c.sty.bg, .int .u8 c.sty.att]

/-- a colour that may be -/
def rightC (c : Int) : Bool := c == 0 || c == 1 || (if 16777216 ≤ c then decide (c < 33554432) else decide (256 ≤ c) && decide (c < 512))
def plainC (c : Int) : Int := if c = 1 then 0 else if rightC c then c else 0
def overS (s : SV) : SV := ⟨plainC s.fg, plainC s.bg, s.att⟩
def blankT (s : SV) : CV := ⟨⟨#[32]⟩, 1, overS s⟩

/-- the cells L, five places each, in block g -/
def Grid (w : World) (g : Nat) (L : List CV) : Prop := ∀ k c, L[k]? = some c →
  w.cell? ⟨g, k * 5, none⟩ = some (.string c.text) ∧ w.cell? ⟨g, k * 5 + 1, none⟩ = some (.int .i8 c.wide) ∧ w.cell? ⟨g, k * 5 + 2, none⟩ = some (.int .i32 c.sty.fg) ∧ w.cell? ⟨g, k * 5 + 3, none⟩ = some (.int .i32 c.sty.bg) ∧ w.cell? ⟨g, k * 5 + 4, none⟩ = some (.int .u8 c.sty.att)
def setC (w : World) (g k : Nat) (c : CV) : World := ((((w.setCell ⟨g, k * 5, none⟩ (.string c.text)).setCell ⟨g, k * 5 + 1, none⟩ (.int .i8 c.wide)).setCell ⟨g, k * 5 + 2, none⟩ (.int .i32 c.sty.fg)).setCell ⟨g, k * 5 + 3, none⟩ (.int .i32 c.sty.bg)).setCell ⟨g, k * 5 + 4, none⟩ (.int .u8 c.sty.att)
theorem addr_ne {g i j : Nat} (h : i ≠ j) : (⟨g, i, none⟩ : Addr) ≠ ⟨g, j, none⟩ := by intro e; exact h (congrArg Addr.off e)
theorem cs_ne {w : World} {g i j : Nat} {v : Value} (h : i ≠ j) : (w.setCell ⟨g, i, none⟩ v).cell? ⟨g, j, none⟩ = w.cell? ⟨g, j, none⟩ := World.cell?_setCell_other _ _ _ _ (addr_ne h)
theorem cs_eq {w : World} {g i : Nat} {u v : Value} (h : w.cell? ⟨g, i, none⟩ = some u) : (w.setCell ⟨g, i, none⟩ v).cell? ⟨g, i, none⟩ = some v := World.cell?_setCell_same _ _ _ h
theorem setC_other {w : World} {g k j : Nat} {c : CV} (h : j < k * 5 ∨ k * 5 + 4 < j) : (setC w g k c).cell? ⟨g, j, none⟩ = w.cell? ⟨g, j, none⟩ := by
  unfold setC
  rw [cs_ne (by omega), cs_ne (by omega), cs_ne (by omega), cs_ne (by omega), cs_ne (by omega)]
theorem Grid.at {w : World} {g : Nat} {L : List CV} (h : Grid w g L) {k : Nat} (hk : k < L.length) : w.cell? ⟨g, k * 5, none⟩ = some (.string (L.getD k z0).text) ∧ w.cell? ⟨g, k * 5 + 1, none⟩ = some (.int .i8 (L.getD k z0).wide) ∧ w.cell? ⟨g, k * 5 + 2, none⟩ = some (.int .i32 (L.getD k z0).sty.fg) ∧ w.cell? ⟨g, k * 5 + 3, none⟩ = some (.int .i32 (L.getD k z0).sty.bg) ∧ w.cell? ⟨g, k * 5 + 4, none⟩ = some (.int .u8 (L.getD k z0).sty.att) := by
  have e : L[k]? = some (L.getD k z0) := by simp [List.getD_eq_getElem?_getD, List.getElem?_eq_getElem hk]
  exact h k _ e
theorem Grid.set {w : World} {g : Nat} {L : List CV} (h : Grid w g L) {k : Nat} (hk : k < L.length) (c : CV) : Grid (setC w g k c) g (L.set k c) := by
  intro j d hj
  rw [List.getElem?_set] at hj
  by_cases e : k = j
  · subst e
    rw [if_pos rfl, if_pos hk] at hj
    cases hj
    obtain ⟨h0, h1, h2, h3, h4⟩ := h.at hk
    unfold setC
    refine ⟨?_, ?_, ?_, ?_, ?_⟩
    · rw [cs_ne (by omega), cs_ne (by omega), cs_ne (by omega), cs_ne (by omega), cs_eq h0]
    · rw [cs_ne (by omega), cs_ne (by omega), cs_ne (by omega), cs_eq (u := .int .i8 (L.getD k z0).wide) (by rw [cs_ne (by omega), h1])]
    · rw [cs_ne (by omega), cs_ne (by omega), cs_eq (u := .int .i32 (L.getD k z0).sty.fg) (by rw [cs_ne (by omega), cs_ne (by omega), h2])]
    · rw [cs_ne (by omega), cs_eq (u := .int .i32 (L.getD k z0).sty.bg) (by rw [cs_ne (by omega), cs_ne (by omega), cs_ne (by omega), h3])]
    · rw [cs_eq (u := .int .u8 (L.getD k z0).sty.att) (by rw [cs_ne (by omega), cs_ne (by omega), cs_ne (by omega), cs_ne (by omega), h4])]
  · rw [if_neg e] at hj
    obtain ⟨h0, h1, h2, h3, h4⟩ := h j d hj
    rw [setC_other (by omega), setC_other (by omega), setC_other (by omega), setC_other (by omega), setC_other (by omega)]
    exact ⟨h0, h1, h2, h3, h4⟩
theorem Grid.of_block {w w' : World} {g : Nat} {L : List CV} (h : Grid w g L) (hg : w'.heap[g]? = w.heap[g]?) : Grid w' g L := by
  intro k c hk
  obtain ⟨h0, h1, h2, h3, h4⟩ := h k c hk
  exact ⟨(World.cell?_of_block (a := ⟨g, _, none⟩) hg).trans h0, (World.cell?_of_block (a := ⟨g, _, none⟩) hg).trans h1, (World.cell?_of_block (a := ⟨g, _, none⟩) hg).trans h2, (World.cell?_of_block (a := ⟨g, _, none⟩) hg).trans h3, (World.cell?_of_block (a := ⟨g, _, none⟩) hg).trans h4⟩

/-- a cell written; the pair that stood there is broken -/
def headOf (L : List CV) (i : Nat) : Nat := if (L.getD i z0).wide = 0 then i - 1 else i
def brokenT (L : List CV) (i : Nat) : List CV := if (L.getD i z0).wide = 0 ∨ (L.getD i z0).wide = 2 then (L.set (headOf L i) (blankT (L.getD (headOf L i) z0).sty)).set (headOf L i + 1) (blankT (L.getD (headOf L i) z0).sty) else L
def setT (L : List CV) (i : Nat) (c : CV) : List CV := (brokenT L i).set i c
def layT (W : Nat) (L : List CV) (x y : Int) (c : CV) (l r : Bool) : List CV :=
  if c.wide = 1 then (if l then setT L (y * W + x).toNat c else L)
  else
    let L1 := if l then setT L (y * W + x).toNat (blankT c.sty) else L
    let L2 := if r then setT L1 (y * W + x + 1).toNat (blankT c.sty) else L1
    if l && r then (L2.set (y * W + x).toNat c).set (y * W + x + 1).toNat ⟨⟨#[]⟩, 0, c.sty⟩ else L2

theorem broken_length (L : List CV) (i : Nat) : (brokenT L i).length = L.length := by unfold brokenT; split <;> simp
theorem set_length (L : List CV) (i : Nat) (c : CV) : (setT L i c).length = L.length := by unfold setT; rw [List.length_set, broken_length]

/-- no halves: by the widths alone -/
def GoodF (W n : Nat) (f : Nat → Int) : Prop := ∀ i, i < n → f i = 1 ∨ (f i = 2 ∧ i % W + 1 < W ∧ f (i + 1) = 0) ∨ (f i = 0 ∧ 0 < i % W ∧ f (i - 1) = 2)
def wd (L : List CV) (i : Nat) : Int := (L.getD i z0).wide
def Good (W H : Nat) (L : List CV) : Prop := L.length = W * H ∧ GoodF W (W * H) (wd L)

theorem mod_next {W i : Nat} (h : i % W + 1 < W) : (i + 1) % W = i % W + 1 := by
  have := Nat.div_add_mod i W
  rw [show i + 1 = (i % W + 1) + W * (i / W) by omega, Nat.add_mul_mod_self_left, Nat.mod_eq_of_lt h]
theorem mod_prev {W i : Nat} (h : 0 < i % W) (hW : 0 < W) : (i - 1) % W = i % W - 1 := by
  have := Nat.div_add_mod i W
  have h2 := Nat.mod_lt i hW
  rw [show i - 1 = (i % W - 1) + W * (i / W) by omega, Nat.add_mul_mod_self_left, Nat.mod_eq_of_lt (by omega)]
theorem next_lt {W H i : Nat} (hi : i < W * H) (h : i % W + 1 < W) : i + 1 < W * H := by
  have h1 := Nat.div_add_mod i W
  have h2 : i / W < H := Nat.div_lt_of_lt_mul hi
  have h3 := Nat.mul_le_mul_left W (show i / W + 1 ≤ H from h2)
  rw [Nat.mul_add, Nat.mul_one] at h3
  omega

/-- two places, or one, made singles: no halves are left -/
theorem good_single {W n a b : Nat} {f g : Nat → Int} (h : GoodF W n f) (hg : ∀ j, g j = if j = a ∨ j = b then 1 else f j) (hab : (a = b ∧ f a = 1) ∨ (b = a + 1 ∧ f a = 2 ∧ f b = 0)) : GoodF W n g := by
  intro i hi
  rw [hg i]
  by_cases e : i = a ∨ i = b
  · rw [if_pos e]; exact .inl rfl
  · rw [if_neg e]
    rcases h i hi with h1 | ⟨h1, h2, h3⟩ | ⟨h1, h2, h3⟩
    · exact .inl h1
    · refine .inr (.inl ⟨h1, h2, ?_⟩)
      rw [hg (i + 1), if_neg]
      · exact h3
      · rintro (e2 | e2)
        · subst e2; rcases hab with ⟨-, h4⟩ | ⟨-, h4, -⟩ <;> omega
        · rcases hab with ⟨rfl, h4⟩ | ⟨h5, h4, h6⟩
          · rw [e2] at h3; omega
          · exact e (.inl (by omega))
    · refine .inr (.inr ⟨h1, h2, ?_⟩)
      rw [hg (i - 1), if_neg]
      · exact h3
      · rintro (e2 | e2)
        · rcases hab with ⟨rfl, h4⟩ | ⟨h5, h4, h6⟩
          · rw [e2] at h3; omega
          · have hi0 : 0 < i := by
              rcases Nat.eq_zero_or_pos i with h0 | h0
              · subst h0; simp at h2
              · exact h0
            exact e (.inr (by omega))
        · rcases hab with ⟨rfl, h4⟩ | ⟨h5, h4, h6⟩
          · rw [e2] at h3; omega
          · rw [e2] at h3; omega
/-- a pair where two singles were -/
theorem good_pair {W n a : Nat} {f g : Nat → Int} (h : GoodF W n f) (hW : a % W + 1 < W) (hg : ∀ j, g j = if j = a then 2 else if j = a + 1 then 0 else f j) (h1 : f a = 1) (h2 : f (a + 1) = 1) : GoodF W n g := by
  intro i hi
  by_cases e : i = a
  · subst e
    refine .inr (.inl ⟨?_, hW, ?_⟩)
    · rw [hg, if_pos rfl]
    · rw [hg, if_neg (by omega), if_pos rfl]
  · by_cases e2 : i = a + 1
    · subst e2
      refine .inr (.inr ⟨?_, ?_, ?_⟩)
      · rw [hg, if_neg (by omega), if_pos rfl]
      · rw [mod_next hW]; omega
      · rw [hg, Nat.add_sub_cancel, if_pos rfl]
    · have hgi : g i = f i := by rw [hg, if_neg e, if_neg e2]
      rw [hgi]
      rcases h i hi with k1 | ⟨k1, k2, k3⟩ | ⟨k1, k2, k3⟩
      · exact .inl k1
      · refine .inr (.inl ⟨k1, k2, ?_⟩)
        rw [hg, if_neg (by intro e3; rw [e3] at k3; omega), if_neg (by intro e3; rw [e3] at k3; omega)]
        exact k3
      · refine .inr (.inr ⟨k1, k2, ?_⟩)
        rw [hg, if_neg (by intro e3; rw [e3] at k3; omega), if_neg (by intro e3; rw [e3] at k3; omega)]
        exact k3

theorem wd_set (L : List CV) (k : Nat) (c : CV) (hk : k < L.length) (j : Nat) : wd (L.set k c) j = if j = k then c.wide else wd L j := by
  unfold wd
  simp only [List.getD_eq_getElem?_getD, List.getElem?_set]
  by_cases e : k = j
  · subst e; simp [hk]
  · rw [if_neg e, if_neg (by omega)]
theorem blank_wide (s : SV) : (blankT s).wide = 1 := rfl
/-- the widths behind a write of a single -/
theorem wd_setT {W H : Nat} {L : List CV} (h : Good W H L) {i : Nat} (hi : i < W * H) {c : CV} (hc : c.wide = 1) : Good W H (setT L i c) ∧ wd (setT L i c) i = 1 ∧ ∀ j, wd L j = 1 → wd (setT L i c) j = 1 := by
  obtain ⟨hl, hf⟩ := h
  have hl2 : (setT L i c).length = W * H := by rw [set_length, hl]
  have key : ∃ a b, ((a = b ∧ wd L a = 1) ∨ (b = a + 1 ∧ wd L a = 2 ∧ wd L b = 0)) ∧ (i = a ∨ i = b) ∧ ∀ j, wd (setT L i c) j = if j = a ∨ j = b then 1 else wd L j := by
    have hWi : wd L i = (L.getD i z0).wide := rfl
    rcases hf i hi with h1 | ⟨h1, h2, h3⟩ | ⟨h1, h2, h3⟩
    · refine ⟨i, i, .inl ⟨rfl, h1⟩, .inl rfl, fun j => ?_⟩
      unfold setT brokenT
      rw [if_neg (by rw [← hWi]; omega), wd_set _ _ _ (by omega), hc]
      by_cases e : j = i
      · rw [if_pos e, if_pos (.inl e)]
      · rw [if_neg e, if_neg (by omega)]
    · have hn := next_lt hi h2
      refine ⟨i, i + 1, .inr ⟨rfl, h1, h3⟩, .inl rfl, fun j => ?_⟩
      have hh : headOf L i = i := by unfold headOf; rw [if_neg (by rw [← hWi]; omega)]
      unfold setT brokenT
      rw [if_pos (by rw [← hWi]; omega), hh, wd_set _ _ _ (by simp; omega), hc, wd_set _ _ _ (by simp; omega), wd_set _ _ _ (by omega), blank_wide]
      by_cases e : j = i
      · rw [if_pos e, if_pos (.inl e)]
      · rw [if_neg e]
        by_cases e2 : j = i + 1
        · rw [if_pos e2, if_pos (.inr e2)]
        · rw [if_neg e2, if_neg e, if_neg (by omega)]
    · have hi0 : 0 < i := by
        rcases Nat.eq_zero_or_pos i with h0 | h0
        · subst h0; simp at h2
        · exact h0
      refine ⟨i - 1, i, .inr ⟨by omega, h3, h1⟩, .inr rfl, fun j => ?_⟩
      have hh : headOf L i = i - 1 := by unfold headOf; rw [if_pos (by rw [← hWi]; omega)]
      unfold setT brokenT
      rw [if_pos (by rw [← hWi]; omega), hh, wd_set _ _ _ (by simp; omega), hc, wd_set _ _ _ (by simp; omega), wd_set _ _ _ (by omega), blank_wide]
      by_cases e : j = i
      · rw [if_pos e, if_pos (.inr e)]
      · rw [if_neg e, if_neg (by omega)]
        by_cases e2 : j = i - 1
        · rw [if_pos e2, if_pos (.inl e2)]
        · rw [if_neg e2, if_neg (by omega)]
  obtain ⟨a, b, hab, hia, hg⟩ := key
  refine ⟨⟨hl2, good_single hf hg hab⟩, ?_, fun j hj => ?_⟩
  · rw [hg, if_pos hia]
  · rw [hg]
    split
    · rfl
    · exact hj
theorem at_mod {W H : Nat} {x y : Int} (hx : 0 ≤ x ∧ x < W) (hy : 0 ≤ y ∧ y < H) : (y * W + x).toNat < W * H ∧ (y * W + x).toNat % W = x.toNat := by
  obtain ⟨x', rfl⟩ : ∃ n : Nat, x = n := ⟨x.toNat, by omega⟩
  obtain ⟨y', rfl⟩ : ∃ n : Nat, y = n := ⟨y.toNat, by omega⟩
  have e : ((y' : Int) * W + x').toNat = x' + W * y' := by
    have : ((y' : Int) * W + x') = ((x' + W * y' : Nat) : Int) := by push_cast; rw [Int.mul_comm]; omega
    rw [this]; rfl
  rw [e, Nat.add_mul_mod_self_left, Nat.mod_eq_of_lt (by omega)]
  refine ⟨?_, by simp⟩
  have := Nat.mul_le_mul_left W (show y' + 1 ≤ H by omega)
  rw [Nat.mul_add] at this
  omega
/-- NO HALVES behind a single or a pair, as much of it as is let in -/
theorem lay_good {W H : Nat} {L : List CV} (h : Good W H L) {x y : Int} {c : CV} {l r : Bool} (hc : c.wide = 1 ∨ c.wide = 2) (hl : l = true → 0 ≤ x ∧ x < W ∧ 0 ≤ y ∧ y < H) (hr : r = true → 0 ≤ x + 1 ∧ x + 1 < W ∧ 0 ≤ y ∧ y < H) : Good W H (layT W L x y c l r) := by
  unfold layT
  by_cases h1 : c.wide = 1
  · rw [if_pos h1]
    cases l with
    | false => exact h
    | true =>
      obtain ⟨a1, a2, a3, a4⟩ := hl rfl
      exact (wd_setT h (at_mod ⟨a1, a2⟩ ⟨a3, a4⟩).1 h1).1
  · rw [if_neg h1]
    have hc2 : c.wide = 2 := hc.resolve_left h1
    cases l with
    | false =>
      cases r with
      | false => exact h
      | true =>
        obtain ⟨a1, a2, a3, a4⟩ := hr rfl
        have h5 := (at_mod (x := x + 1) ⟨a1, a2⟩ ⟨a3, a4⟩).1
        rw [← Int.add_assoc] at h5
        exact (wd_setT h h5 (c := blankT c.sty) rfl).1
    | true =>
      obtain ⟨a1, a2, a3, a4⟩ := hl rfl
      obtain ⟨m1, m2⟩ := at_mod ⟨a1, a2⟩ ⟨a3, a4⟩
      obtain ⟨g1, g2, g3⟩ := wd_setT h m1 (c := blankT c.sty) rfl
      cases r with
      | false => exact g1
      | true =>
        obtain ⟨b1, b2, b3, b4⟩ := hr rfl
        have hm : (y * W + x).toNat % W + 1 < W := by omega
        have hn := next_lt m1 hm
        have hy0 : 0 ≤ y * (W : Int) := Int.mul_nonneg a3 (by omega)
        have he : (y * (W : Int) + x + 1).toNat = (y * W + x).toNat + 1 := by omega
        rw [he]
        obtain ⟨k1, k2, k3⟩ := wd_setT g1 hn (c := blankT c.sty) rfl
        simp only [if_true, Bool.and_self]
        have hl5 := k1.1
        refine ⟨by simp [k1.1], good_pair k1.2 hm (fun j => ?_) (k3 _ g2) k2⟩
        rw [wd_set _ _ _ (by rw [List.length_set, hl5]; omega), wd_set _ _ _ (by omega), hc2]
        by_cases e : j = (y * W + x).toNat + 1
        · rw [if_pos e, if_neg (by omega), if_pos e]
        · rw [if_neg e]
          split <;> rfl
end Go.Proofs.Ytinnggiohalifaa.cel
