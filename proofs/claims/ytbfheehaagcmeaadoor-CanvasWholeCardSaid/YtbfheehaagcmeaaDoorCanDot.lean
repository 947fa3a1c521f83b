/-
  The walks of the layer canvas: a dot set, asked for; a canvas made; its size.
-/
import Derived.Test.YtbfheehaagcmeaaDoorCanCell
namespace Go.Proofs.YtbfheehaagcmeaaDoor.can
open Go.RowKit Go.Proofs
set_option linter.unusedVariables false

theorem setCell_grown (w : World) (g j : Nat) (u : Value) : w.grownBy (w.setCell ⟨g, j, none⟩ u) (some g) :=
  ⟨rfl, rfl, rfl, by simp [World.setCell], fun i hi hne => Below.heap_setCell _ _ _ _ (by intro e; exact hne (by rw [e]))⟩
theorem drewN_heap (w : World) (n : Nat) : (w.drewN n).heap = w.heap := rfl
theorem drewN_grown (w : World) (n : Nat) (r : Option Nat) : w.grownBy (w.drewN n) r := ⟨rfl, rfl, rfl, Nat.le_refl _, fun _ _ _ => rfl⟩
theorem drewN_below (B : Nat) (w : World) (n : Nat) : Below B w (w.drewN n) := ⟨rfl, rfl, rfl, Nat.le_refl _, fun _ _ => rfl⟩

/-- a dot put down -/
def putDot (W : Nat) (d : Nat → Nat) (x y : Nat) : Nat → Nat := fun j => if j = cellNo W x y then d j ||| dotB x y else d j
theorem testBit_or_pow (c k j : Nat) : (c ||| 2 ^ k).testBit j = (c.testBit j || decide (k = j)) := by
  rw [Nat.testBit_or, Nat.testBit_two_pow]
theorem shows_put {W H : Nat} {d : Nat → Nat} {S : Int → Int → Bool} (h : Shows W H d S) {x y : Nat} (hx : x < 2 * W) (hy : y < 4 * H) : Shows W H (putDot W d x y) (plot S x y) := by
  intro x' y' hx' hy'
  have h0 := h x' y' hx' hy'
  unfold putDot plot
  rw [← h0]
  by_cases e : cellNo W x' y' = cellNo W x y
  · rw [if_pos e, dotB, testBit_or_pow]
    congr 1
    obtain ⟨e1, e2⟩ := cellNo_inj (H := H) hx' hx e
    by_cases e3 : bitNo x y = bitNo x' y'
    · obtain ⟨rfl, rfl⟩ := bitNo_inj e1.symm e2.symm e3
      simp
    · rw [decide_eq_false e3]
      symm
      rw [Bool.and_eq_false_iff]
      by_cases e4 : x' = x
      · right
        subst e4
        have : y' ≠ y := fun e5 => e3 (by rw [e5])
        simp; omega
      · left; simp; omega
  · rw [if_neg e]
    symm
    have : ¬ (x' = x ∧ y' = y) := by rintro ⟨rfl, rfl⟩; exact e rfl
    have h2 : (((x' : Int) == x) && ((y' : Int) == y)) = false := by
      rw [Bool.and_eq_false_iff]
      by_cases e4 : x' = x
      · right; simp; omega
      · left; simp; omega
    rw [h2, Bool.or_false]
theorem shows_out {W H : Nat} {d : Nat → Nat} {S : Int → Int → Bool} (h : Shows W H d S) {x y : Int} (ho : inside W H x y = false) : Shows W H d (plot S x y) := by
  refine h.mono fun x' y' hx' hy' => ?_
  unfold plot
  have h2 : (((x' : Int) == x) && ((y' : Int) == y)) = false := by
    rw [Bool.eq_false_iff]
    intro hh
    simp only [Bool.and_eq_true, beq_iff_eq] at hh
    obtain ⟨rfl, rfl⟩ := hh
    unfold inside at ho
    simp at ho
    omega
  rw [h2, Bool.or_false]

theorem or_dotB (c : Nat) (hc : c < 256) (x y : Nat) : bits .or .u8 c (dotB x y : Nat) = ((c ||| dotB x y : Nat) : Int) ∧ c ||| dotB x y < 256 := or_dot c hc (bitNo x y) (bitNo_lt x y)
theorem and_dotB (c : Nat) (hc : c < 256) (x y : Nat) : (bits .and .u8 c (dotB x y : Nat) != 0) = c.testBit (bitNo x y) := and_dot c hc (bitNo x y) (bitNo_lt x y)

set_option maxHeartbeats 1000000 in
theorem dot_in (b g W H : Nat) (d : Nat → Nat) (x y : Nat) (w : World) (hd : Dots w) (h : Canv w b g W H d) (hx : x < 2 * W) (hy : y < 4 * H) :
    Calls Tryd.prog 19 #[.pointer (some ⟨b, 0, none⟩), .int .i64 x, .int .i64 y] w fun e w' => e = .returned (.bool true) ∧ Canv w' b g W H (putDot W d x y) ∧ w.grownBy w' (some g) := by
  have hlt := cellNo_lt hx hy
  have hc := h.row.cell hlt
  have hf := h.row.frozen (cellNo W x y)
  have hs := h.small _ hlt
  obtain ⟨ho, hsm⟩ := or_dotB (d (cellNo W x y)) hs x y
  have HO := run.hid ho
  have hC := run.hid (cell_in b g W H d x y w hd h hx hy)
  have hcv : ∀ n, Canv ((w.drewN n).setCell ⟨g, cellNo W x y, none⟩ (.int .u8 ((d (cellNo W x y) ||| dotB x y : Nat) : Int))) b g W H (putDot W d x y) := by
    intro n
    have h' : Canv (w.drewN n) b g W H d := h.of_block rfl rfl
    have hb := Below.heap_setCell (w.drewN n) ⟨g, cellNo W x y, none⟩ (.int .u8 ((d (cellNo W x y) ||| dotB x y : Nat) : Int)) b h.ne
    refine ⟨(World.cell?_of_block (w := w.drewN n) (a := ⟨b, 0, none⟩) hb).trans h'.h0, (World.cell?_of_block (w := w.drewN n) (a := ⟨b, 1, none⟩) hb).trans h'.h1, (World.cell?_of_block (w := w.drewN n) (a := ⟨b, 2, none⟩) hb).trans h'.h2, ?_, h.ne, ?_, h.wide, h.high, h.size⟩
    · refine (h'.row.set (cellNo W x y) _).congr fun i hi => ?_
      unfold putDot
      by_cases e : i = cellNo W x y
      · subst e; rw [if_pos rfl, if_pos rfl]
      · rw [if_neg e, if_neg e]
    · intro i hi
      unfold putDot
      by_cases e : i = cellNo W x y
      · subst e; rw [if_pos rfl]; exact hsm
      · rw [if_neg e]; exact h.small i hi
  have HC := run.hid hcv
  clear h hd ho hcv hsm
  go_enter Tryd.func19, Tryd.ntmps19
  go_wp2_with fail
  refine hC.out.mono ?_
  rintro e w1 ⟨rfl, n, rfl⟩
  go_wp2
  go_ret
  rw [HO.out]
  exact ⟨rfl, HC.out n, run.grown_trans (drewN_grown w n _) (setCell_grown _ _ _ _) (.inl rfl)⟩

set_option maxHeartbeats 1000000 in
theorem dot_out (b g W H : Nat) (d : Nat → Nat) (x y : Int) (w : World) (h : Canv w b g W H d) (ho : x < 0 ∨ y < 0 ∨ 2 * (W : Int) ≤ x ∨ 4 * (H : Int) ≤ y) :
    Calls Tryd.prog 19 #[.pointer (some ⟨b, 0, none⟩), .int .i64 x, .int .i64 y] w fun e w' => e = .returned (.bool false) ∧ w = w' := by
  have hC := run.hid (cell_out b g W H d x y w h ho)
  clear h ho
  go_enter Tryd.func19, Tryd.ntmps19
  go_wp2_with fail
  refine hC.out.mono ?_
  rintro e w1 ⟨rfl, rfl⟩
  go_wp2
  go_ret
  exact ⟨rfl, rfl⟩

theorem inside_out {W H : Nat} {x y : Int} (h : inside W H x y = false) : x < 0 ∨ y < 0 ∨ 2 * (W : Int) ≤ x ∨ 4 * (H : Int) ≤ y := by
  unfold inside at h
  simp at h
  omega
theorem inside_in {W H : Nat} {x y : Int} (h : inside W H x y = true) : ∃ x' y' : Nat, x = x' ∧ y = y' ∧ x' < 2 * W ∧ y' < 4 * H := by
  unfold inside at h
  simp at h
  exact ⟨x.toNat, y.toNat, by omega, by omega, by omega, by omega⟩

/-- A DOT SET. -/
theorem dot_any (B b g W H : Nat) (S : Int → Int → Bool) (x y : Int) (w : World) (hd : Dots w) (h : Canvas B b g W H S w) :
    Calls Tryd.prog 19 #[.pointer (some ⟨b, 0, none⟩), .int .i64 x, .int .i64 y] w fun e w' => e = .returned (.bool (inside W H x y)) ∧ Canvas B b g W H (plot S x y) w' ∧ w.grownBy w' (some g) := by
  obtain ⟨h1, h2, d, h3, h4⟩ := h
  cases hi : inside W H x y with
  | true =>
    obtain ⟨x', y', rfl, rfl, hx, hy⟩ := inside_in hi
    exact (dot_in b g W H d x' y' w hd h3 hx hy).mono fun e w' ⟨he, hc, hg⟩ => ⟨he, ⟨h1, h2, _, hc, shows_put h4 hx hy⟩, hg⟩
  | false =>
    refine (dot_out b g W H d x y w h3 (inside_out hi)).mono fun e w' ⟨he, hw⟩ => ?_
    subst hw
    exact ⟨he, ⟨h1, h2, d, h3, shows_out h4 hi⟩, World.grownBy.refl _ _⟩
theorem dot_nil (x y : Int) (w : World) :
    Calls Tryd.prog 19 #[.pointer none, .int .i64 x, .int .i64 y] w fun e w' => e = .returned (.bool false) ∧ w = w' := by
  have hC := run.hid (cell_nil x y w)
  go_enter Tryd.func19, Tryd.ntmps19
  go_wp2_with fail
  refine hC.out.mono ?_
  rintro e w1 ⟨rfl, rfl⟩
  go_wp2
  go_ret
  exact ⟨rfl, rfl⟩

set_option maxHeartbeats 1000000 in
theorem has_in (b g W H : Nat) (d : Nat → Nat) (x y : Nat) (w : World) (hd : Dots w) (h : Canv w b g W H d) (hx : x < 2 * W) (hy : y < 4 * H) :
    Calls Tryd.prog 22 #[.pointer (some ⟨b, 0, none⟩), .int .i64 x, .int .i64 y] w fun e w' => e = .returned (.bool ((d (cellNo W x y)).testBit (bitNo x y))) ∧ ∃ n, w' = w.drewN n := by
  have hlt := cellNo_lt hx hy
  have hc := h.row.cell hlt
  have hs := h.small _ hlt
  have HO := run.hid (and_dotB (d (cellNo W x y)) hs x y)
  have hC := run.hid (cell_in b g W H d x y w hd h hx hy)
  clear h hd
  go_enter Tryd.func22, Tryd.ntmps22
  go_wp2_with fail
  refine hC.out.mono ?_
  rintro e w1 ⟨rfl, n, rfl⟩
  go_wp2
  go_ret
  exact ⟨by rw [← HO.out]; rfl, n, rfl⟩
theorem has_any (B b g W H : Nat) (S : Int → Int → Bool) (x y : Int) (w : World) (hd : Dots w) (h : Canvas B b g W H S w) :
    Calls Tryd.prog 22 #[.pointer (some ⟨b, 0, none⟩), .int .i64 x, .int .i64 y] w fun e w' => e = .returned (.bool (inside W H x y && S x y)) ∧ Below w.heap.size w w' := by
  obtain ⟨h1, h2, d, h3, h4⟩ := h
  cases hi : inside W H x y with
  | true =>
    obtain ⟨x', y', rfl, rfl, hx, hy⟩ := inside_in hi
    refine (has_in b g W H d x' y' w hd h3 hx hy).mono fun e w' ⟨he, n, hw⟩ => ?_
    subst hw
    exact ⟨by rw [he, h4 x' y' hx hy]; rfl, drewN_below _ _ _⟩
  | false =>
    have hC := run.hid (cell_out b g W H d x y w h3 (inside_out hi))
    clear h3 h4 hd
    go_enter Tryd.func22, Tryd.ntmps22
    go_wp2_with fail
    refine hC.out.mono ?_
    rintro e w1 ⟨rfl, rfl⟩
    go_wp2
    go_ret
    exact ⟨rfl, Below.refl _ _⟩
theorem has_nil (x y : Int) (w : World) :
    Calls Tryd.prog 22 #[.pointer none, .int .i64 x, .int .i64 y] w fun e w' => e = .returned (.bool false) ∧ w = w' := by
  have hC := run.hid (cell_nil x y w)
  go_enter Tryd.func22, Tryd.ntmps22
  go_wp2_with fail
  refine hC.out.mono ?_
  rintro e w1 ⟨rfl, rfl⟩
  go_wp2
  go_ret
  exact ⟨rfl, rfl⟩

end Go.Proofs.YtbfheehaagcmeaaDoor.can
