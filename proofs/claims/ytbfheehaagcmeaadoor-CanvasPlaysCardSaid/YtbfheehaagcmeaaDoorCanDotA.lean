/-
  A dot: where it lies, set and asked.
-/
import Derived.Test.YtbfheehaagcmeaaDoorProg
import Derived.Test.YtbfheehaagcmeaaDoorRowKit
import Derived.KernelRfl
import Derived.WalkKit
import Derived.WalkSpells
import Derived.WalkLawsBesides
import Derived.BigQuiet
import Derived.Deep.QuietTactic
import Derived.Deep.OwnRows
import Derived.IntWalk
namespace Go.Proofs.YtbfheehaagcmeaaDoor.can
open Go.RowKit Go.Proofs
set_option linter.unusedVariables false

/-- the number of a dot's bit -/
def bitNo (x y : Nat) : Nat := if y % 4 = 3 then 6 + x % 2 else y % 4 + 3 * (x % 2)
def dotB (x y : Nat) : Nat := 2 ^ bitNo x y
/-- the table of the dots' bits -/
def Dots (w : World) : Prop := ∀ i j : Nat, i < 2 → j < 4 → w.cell? ⟨2, i * 4 + j, none⟩ = some (.int .u8 (dotB i j))

structure Canv (w : World) (b g W H : Nat) (d : Nat → Nat) : Prop where
  h0 : w.cell? ⟨b, 0, none⟩ = some (.int .i64 W)
  h1 : w.cell? ⟨b, 1, none⟩ = some (.int .i64 H)
  h2 : w.cell? ⟨b, 2, none⟩ = some (.slice (some ⟨g, 0, none⟩) (W * H) (W * H))
  row : w.rowIs g 5 (W * H) fun i => .int .u8 (d i)
  ne : b ≠ g
  small : ∀ i, i < W * H → d i < 256
  wide : W ≤ 4096
  high : H ≤ 4096
  size : W * H ≤ 1048576

def cellNo (W x y : Nat) : Nat := y / 4 * W + x / 2
theorem cellNo_lt {W H x y : Nat} (hx : x < 2 * W) (hy : y < 4 * H) : cellNo W x y < W * H := by
  unfold cellNo
  have h1 : x / 2 < W := by omega
  have h2 : y / 4 + 1 ≤ H := by omega
  have h3 := Nat.mul_le_mul_right W h2
  rw [Nat.mul_comm W H]
  rw [Nat.add_mul, Nat.one_mul] at h3
  omega

theorem dotB_mod (x y : Nat) : dotB (x % 2) (y % 4) = dotB x y := by simp [dotB, bitNo]

set_option maxHeartbeats 1000000 in
theorem cell_in (b g W H : Nat) (d : Nat → Nat) (x y : Nat) (w : World) (hd : Dots w) (h : Canv w b g W H d) (hx : x < 2 * W) (hy : y < 4 * H) :
    Calls Tryd.prog 42 #[.pointer (some ⟨b, 0, none⟩), .int .i64 x, .int .i64 y] w fun e w' => e = .returned (.tuple #[.pointer (some ⟨g, cellNo W x y, none⟩), .int .u8 (dotB x y)]) ∧ ∃ n, w' = w.drewN n := by
  have hlt := cellNo_lt hx hy
  have e0 := h.h0
  have e1 := h.h1
  have e2 := h.h2
  have b1 := h.wide
  have b2 := h.high
  have b3 := h.size
  have hdc := hd (x % 2) (y % 4) (by omega) (by omega)
  rw [dotB_mod] at hdc
  clear hd h
  have hfin : ∀ r, r = y / 4 * W → r + x / 2 = cellNo W x y := fun r hr => by rw [hr]; rfl
  have hrest : ∃ r : Nat, r = y / 4 * W := ⟨_, rfl⟩
  obtain ⟨r, hr⟩ := hrest
  have hF := run.hid (hfin r hr)
  have hix : (r : Int) + (x : Int) / 2 < (W : Int) * (H : Int) := by rw [← hF.out] at hlt; exact_mod_cast hlt
  have hm : IntKind.i64.wrap ((y : Int) / 4 * (W : Int)) = r := by
    rw [hr]
    have : y / 4 * W ≤ 1048576 := by rw [← hr]; have := hF.out; omega
    have e : (y : Int) / 4 * (W : Int) = ((y / 4 * W : Nat) : Int) := by push_cast; rfl
    rw [e, IntWalk.i64_in _ (by omega)]
  have hrs : r ≤ 1048576 := by have := hF.out; omega
  clear hr hfin hlt
  go_enter Tryd.func42, Tryd.ntmps42
  go_wp2
  go_quiet (fail)
  go_wp2
  go_ret2
  exact ⟨by rw [← hF.out]; rfl, nq, rfl⟩

set_option maxHeartbeats 1000000 in
theorem cell_nil (x y : Int) (w : World) :
    Calls Tryd.prog 42 #[.pointer none, .int .i64 x, .int .i64 y] w fun e w' => e = .returned (.tuple #[.pointer none, .int .u8 0]) ∧ w = w' := by
  go_enter Tryd.func42, Tryd.ntmps42
  go_wp2
  go_ret2
  exact ⟨rfl, rfl⟩

set_option maxHeartbeats 1000000 in
theorem cell_out (b g W H : Nat) (d : Nat → Nat) (x y : Int) (w : World) (h : Canv w b g W H d) (ho : x < 0 ∨ y < 0 ∨ 2 * (W : Int) ≤ x ∨ 4 * (H : Int) ≤ y) :
    Calls Tryd.prog 42 #[.pointer (some ⟨b, 0, none⟩), .int .i64 x, .int .i64 y] w fun e w' => e = .returned (.tuple #[.pointer none, .int .u8 0]) ∧ w = w' := by
  have e0 := h.h0
  have e1 := h.h1
  have b1 := h.wide
  have b2 := h.high
  clear h
  by_cases h1 : x < 0
  · go_enter Tryd.func42, Tryd.ntmps42
    go_wp2
    go_ret2
    exact ⟨rfl, rfl⟩
  have h1' : 0 ≤ x := by omega
  by_cases h2 : y < 0
  · go_enter Tryd.func42, Tryd.ntmps42
    go_wp2
    go_ret2
    exact ⟨rfl, rfl⟩
  have h2' : 0 ≤ y := by omega
  by_cases h3 : 2 * (W : Int) ≤ x
  · go_enter Tryd.func42, Tryd.ntmps42
    go_wp2
    go_ret2
    exact ⟨rfl, rfl⟩
  have h3' : x < 2 * (W : Int) := by omega
  have h4 : 4 * (H : Int) ≤ y := by omega
  go_enter Tryd.func42, Tryd.ntmps42
  go_wp2
  go_ret2
  exact ⟨rfl, rfl⟩

/-- a canvas: which dots are set -/
def Shows (W H : Nat) (d : Nat → Nat) (S : Int → Int → Bool) : Prop := ∀ x y : Nat, x < 2 * W → y < 4 * H → (d (cellNo W x y)).testBit (bitNo x y) = S x y
def Canvas (B b g W H : Nat) (S : Int → Int → Bool) (w : World) : Prop := B ≤ b ∧ B ≤ g ∧ ∃ d, Canv w b g W H d ∧ Shows W H d S
def inside (W H : Nat) (x y : Int) : Bool := decide (0 ≤ x ∧ x < 2 * (W : Int) ∧ 0 ≤ y ∧ y < 4 * (H : Int))
def plot (S : Int → Int → Bool) (x y : Int) : Int → Int → Bool := fun a b => S a b || (a == x && b == y)

theorem bitNo_lt (x y : Nat) : bitNo x y < 8 := by unfold bitNo; split <;> omega
theorem bitNo_inj {x y x' y' : Nat} (hx : x / 2 = x' / 2) (hy : y / 4 = y' / 4) (h : bitNo x y = bitNo x' y') : x = x' ∧ y = y' := by
  unfold bitNo at h
  split at h <;> split at h <;> omega
theorem cellNo_inj {W H x y x' y' : Nat} (hx : x < 2 * W) (hx' : x' < 2 * W) (h : cellNo W x y = cellNo W x' y') : x / 2 = x' / 2 ∧ y / 4 = y' / 4 := by
  unfold cellNo at h
  have h1 : x / 2 < W := by omega
  have h2 : x' / 2 < W := by omega
  have e1 : (y / 4 * W + x / 2) / W = y / 4 := by rw [Nat.add_comm, Nat.add_mul_div_right _ _ (by omega), Nat.div_eq_of_lt h1]; omega
  have e2 : (y' / 4 * W + x' / 2) / W = y' / 4 := by rw [Nat.add_comm, Nat.add_mul_div_right _ _ (by omega), Nat.div_eq_of_lt h2]; omega
  have e3 : y / 4 = y' / 4 := by rw [← e1, ← e2, h]
  exact ⟨by rw [e3] at h; omega, e3⟩

theorem Canv.of_block {w w' : World} {b g W H : Nat} {d : Nat → Nat} (h : Canv w b g W H d) (hb : w'.heap[b]? = w.heap[b]?) (hg : w'.heap[g]? = w.heap[g]?) : Canv w' b g W H d :=
  ⟨(World.cell?_of_block (w := w) (a := ⟨b, 0, none⟩) hb).trans h.h0, (World.cell?_of_block (w := w) (a := ⟨b, 1, none⟩) hb).trans h.h1, (World.cell?_of_block (w := w) (a := ⟨b, 2, none⟩) hb).trans h.h2, h.row.of_block hg, h.ne, h.small, h.wide, h.high, h.size⟩
theorem Canv.lt {w : World} {b g W H : Nat} {d : Nat → Nat} (h : Canv w b g W H d) : b < w.heap.size ∧ g < w.heap.size := ⟨run.lt_of_cell h.h0, h.row.lt⟩
theorem Canvas.below {B b g W H : Nat} {S : Int → Int → Bool} {w w' : World} (h : Canvas B b g W H S w) (hb : Below w.heap.size w w') : Canvas B b g W H S w' := by
  obtain ⟨h1, h2, d, h3, h4⟩ := h
  exact ⟨h1, h2, d, h3.of_block (hb.block b h3.lt.1) (hb.block g h3.lt.2), h4⟩
/-- a canvas stays where another row is written -/
theorem Canvas.kept {B b g W H k : Nat} {S : Int → Int → Bool} {w w' : World} (h : Canvas B b g W H S w) (hg : w.grownBy w' (some k)) (hb : b ≠ k) (hgk : g ≠ k) : Canvas B b g W H S w' := by
  obtain ⟨h1, h2, d, h3, h4⟩ := h
  exact ⟨h1, h2, d, h3.of_block (hg.block b h3.lt.1 (by simpa using hb)) (hg.block g h3.lt.2 (by simpa using hgk)), h4⟩
theorem Dots.of {w w' : World} (h : Dots w) {g : Nat} (hg : w.grownBy w' (some g)) (hne : 2 ≠ g) : Dots w' := by
  intro i j hi hj
  have hc := h i j hi hj
  exact hg.cell hc (by simpa using hne)
theorem Dots.below {w w' : World} (h : Dots w) {B : Nat} (hg : Below B w w') (hne : 2 < B) : Dots w' := by
  intro i j hi hj
  exact (hg.cell (p := ⟨2, i * 4 + j, none⟩) hne).trans (h i j hi hj)
theorem Shows.mono {W H : Nat} {d : Nat → Nat} {S S' : Int → Int → Bool} (h : Shows W H d S) (he : ∀ x y : Nat, x < 2 * W → y < 4 * H → S x y = S' x y) : Shows W H d S' := fun x y hx hy => (h x y hx hy).trans (he x y hx hy)

theorem and_dot : ∀ c : Nat, c < 256 → ∀ k : Nat, k < 8 → (bits .and .u8 c (2 ^ k : Nat) != 0) = c.testBit k := by
  have h : ∀ c ∈ List.range 256, ∀ k ∈ List.range 8, (bits .and .u8 (c : Nat) (2 ^ k : Nat) != 0) = c.testBit k := by decide +kernel
  intro c hc k hk
  exact h c (by simpa using hc) k (by simpa using hk)
theorem or_dot : ∀ c : Nat, c < 256 → ∀ k : Nat, k < 8 → bits .or .u8 c (2 ^ k : Nat) = ((c ||| 2 ^ k : Nat) : Int) ∧ c ||| 2 ^ k < 256 := by
  have h : ∀ c ∈ List.range 256, ∀ k ∈ List.range 8, bits .or .u8 (c : Nat) (2 ^ k : Nat) = ((c ||| 2 ^ k : Nat) : Int) ∧ c ||| 2 ^ k < 256 := by decide +kernel
  intro c hc k hk
  exact h c (by simpa using hc) k (by simpa using hk)

end Go.Proofs.YtbfheehaagcmeaaDoor.can
namespace Go.Proofs.YtbfheehaagcmeaaDoor.can
open Go.RowKit Go.Proofs
set_option linter.unusedVariables false

theorem setCell_grown (w : World) (g j : Nat) (u : Value) : w.grownBy (w.setCell ⟨g, j, none⟩ u) (some g) :=
  ⟨rfl, rfl, rfl, by simp [World.setCell], fun i hi hne => Below.heap_setCell _ _ _ _ (by intro e; exact hne (by rw [e]))⟩
theorem drewN_heap (w : World) (n : Nat) : (w.drewN n).heap = w.heap := rfl
theorem drewN_grown (w : World) (n : Nat) (r : Option Nat) : w.grownBy (w.drewN n) r := ⟨rfl, rfl, rfl, Nat.le_refl _, fun _ _ _ => rfl⟩
theorem drewN_below (B : Nat) (w : World) (n : Nat) : Below B w (w.drewN n) := ⟨rfl, rfl, rfl, Nat.le_refl _, fun _ _ => rfl⟩

/-- a dot put down -/
def putDot (W : Nat) (d : Nat → Nat) (x y : Nat) : Nat → Nat := fun j => if j = cellNo W x y then d j ||| dotB x y else d j
theorem testBit_or_pow (c k j : Nat) : (c ||| 2 ^ k).testBit j = (c.testBit j || decide (k = j)) := by
  rw [Nat.testBit_or, Nat.testBit_two_pow]
theorem shows_put {W H : Nat} {d : Nat → Nat} {S : Int → Int → Bool} (h : Shows W H d S) {x y : Nat} (hx : x < 2 * W) (hy : y < 4 * H) : Shows W H (putDot W d x y) (plot S x y) := by
  intro x' y' hx' hy'
  have h0 := h x' y' hx' hy'
  unfold putDot plot
  rw [← h0]
  by_cases e : cellNo W x' y' = cellNo W x y
  · rw [if_pos e, dotB, testBit_or_pow]
    congr 1
    obtain ⟨e1, e2⟩ := cellNo_inj (H := H) hx' hx e
    by_cases e3 : bitNo x y = bitNo x' y'
    · obtain ⟨rfl, rfl⟩ := bitNo_inj e1.symm e2.symm e3
      simp
    · rw [decide_eq_false e3]
      symm
      rw [Bool.and_eq_false_iff]
      by_cases e4 : x' = x
      · right
        subst e4
        have : y' ≠ y := fun e5 => e3 (by rw [e5])
        simp; omega
      · left; simp; omega
  · rw [if_neg e]
    symm
    have : ¬ (x' = x ∧ y' = y) := by rintro ⟨rfl, rfl⟩; exact e rfl
    have h2 : (((x' : Int) == x) && ((y' : Int) == y)) = false := by
      rw [Bool.and_eq_false_iff]
      by_cases e4 : x' = x
      · right; simp; omega
      · left; simp; omega
    rw [h2, Bool.or_false]
theorem shows_out {W H : Nat} {d : Nat → Nat} {S : Int → Int → Bool} (h : Shows W H d S) {x y : Int} (ho : inside W H x y = false) : Shows W H d (plot S x y) := by
  refine h.mono fun x' y' hx' hy' => ?_
  unfold plot
  have h2 : (((x' : Int) == x) && ((y' : Int) == y)) = false := by
    rw [Bool.eq_false_iff]
    intro hh
    simp only [Bool.and_eq_true, beq_iff_eq] at hh
    obtain ⟨rfl, rfl⟩ := hh
    unfold inside at ho
    simp at ho
    omega
  rw [h2, Bool.or_false]

theorem or_dotB (c : Nat) (hc : c < 256) (x y : Nat) : bits .or .u8 c (dotB x y : Nat) = ((c ||| dotB x y : Nat) : Int) ∧ c ||| dotB x y < 256 := or_dot c hc (bitNo x y) (bitNo_lt x y)
theorem and_dotB (c : Nat) (hc : c < 256) (x y : Nat) : (bits .and .u8 c (dotB x y : Nat) != 0) = c.testBit (bitNo x y) := and_dot c hc (bitNo x y) (bitNo_lt x y)

set_option maxHeartbeats 1000000 in
theorem dot_in (b g W H : Nat) (d : Nat → Nat) (x y : Nat) (w : World) (hd : Dots w) (h : Canv w b g W H d) (hx : x < 2 * W) (hy : y < 4 * H) :
    Calls Tryd.prog 19 #[.pointer (some ⟨b, 0, none⟩), .int .i64 x, .int .i64 y] w fun e w' => e = .returned (.bool true) ∧ Canv w' b g W H (putDot W d x y) ∧ w.grownBy w' (some g) := by
  have hlt := cellNo_lt hx hy
  have hc := h.row.cell hlt
  have hf := h.row.frozen (cellNo W x y)
  have hs := h.small _ hlt
  obtain ⟨ho, hsm⟩ := or_dotB (d (cellNo W x y)) hs x y
  have HO := run.hid ho
  have hC := run.hid (cell_in b g W H d x y w hd h hx hy)
  have hcv : ∀ n, Canv ((w.drewN n).setCell ⟨g, cellNo W x y, none⟩ (.int .u8 ((d (cellNo W x y) ||| dotB x y : Nat) : Int))) b g W H (putDot W d x y) := by
    intro n
    have h' : Canv (w.drewN n) b g W H d := h.of_block rfl rfl
    have hb := Below.heap_setCell (w.drewN n) ⟨g, cellNo W x y, none⟩ (.int .u8 ((d (cellNo W x y) ||| dotB x y : Nat) : Int)) b h.ne
    refine ⟨(World.cell?_of_block (w := w.drewN n) (a := ⟨b, 0, none⟩) hb).trans h'.h0, (World.cell?_of_block (w := w.drewN n) (a := ⟨b, 1, none⟩) hb).trans h'.h1, (World.cell?_of_block (w := w.drewN n) (a := ⟨b, 2, none⟩) hb).trans h'.h2, ?_, h.ne, ?_, h.wide, h.high, h.size⟩
    · refine (h'.row.set (cellNo W x y) _).congr fun i hi => ?_
      unfold putDot
      by_cases e : i = cellNo W x y
      · subst e; rw [if_pos rfl, if_pos rfl]
      · rw [if_neg e, if_neg e]
    · intro i hi
      unfold putDot
      by_cases e : i = cellNo W x y
      · subst e; rw [if_pos rfl]; exact hsm
      · rw [if_neg e]; exact h.small i hi
  have HC := run.hid hcv
  clear h hd ho hcv hsm
  go_enter Tryd.func19, Tryd.ntmps19
  go_wp2_with fail
  refine hC.out.mono ?_
  rintro e w1 ⟨rfl, n, rfl⟩
  go_wp2
  go_ret
  rw [HO.out]
  exact ⟨rfl, HC.out n, run.grown_trans (drewN_grown w n _) (setCell_grown _ _ _ _) (.inl rfl)⟩

set_option maxHeartbeats 1000000 in
theorem dot_out (b g W H : Nat) (d : Nat → Nat) (x y : Int) (w : World) (h : Canv w b g W H d) (ho : x < 0 ∨ y < 0 ∨ 2 * (W : Int) ≤ x ∨ 4 * (H : Int) ≤ y) :
    Calls Tryd.prog 19 #[.pointer (some ⟨b, 0, none⟩), .int .i64 x, .int .i64 y] w fun e w' => e = .returned (.bool false) ∧ w = w' := by
  have hC := run.hid (cell_out b g W H d x y w h ho)
  clear h ho
  go_enter Tryd.func19, Tryd.ntmps19
  go_wp2_with fail
  refine hC.out.mono ?_
  rintro e w1 ⟨rfl, rfl⟩
  go_wp2
  go_ret
  exact ⟨rfl, rfl⟩

theorem inside_out {W H : Nat} {x y : Int} (h : inside W H x y = false) : x < 0 ∨ y < 0 ∨ 2 * (W : Int) ≤ x ∨ 4 * (H : Int) ≤ y := by
  unfold inside at h
  simp at h
  omega
theorem inside_in {W H : Nat} {x y : Int} (h : inside W H x y = true) : ∃ x' y' : Nat, x = x' ∧ y = y' ∧ x' < 2 * W ∧ y' < 4 * H := by
  unfold inside at h
  simp at h
  exact ⟨x.toNat, y.toNat, by omega, by omega, by omega, by omega⟩

/-- A DOT SET. -/
theorem dot_any (B b g W H : Nat) (S : Int → Int → Bool) (x y : Int) (w : World) (hd : Dots w) (h : Canvas B b g W H S w) :
    Calls Tryd.prog 19 #[.pointer (some ⟨b, 0, none⟩), .int .i64 x, .int .i64 y] w fun e w' => e = .returned (.bool (inside W H x y)) ∧ Canvas B b g W H (plot S x y) w' ∧ w.grownBy w' (some g) := by
  obtain ⟨h1, h2, d, h3, h4⟩ := h
  cases hi : inside W H x y with
  | true =>
    obtain ⟨x', y', rfl, rfl, hx, hy⟩ := inside_in hi
    exact (dot_in b g W H d x' y' w hd h3 hx hy).mono fun e w' ⟨he, hc, hg⟩ => ⟨he, ⟨h1, h2, _, hc, shows_put h4 hx hy⟩, hg⟩
  | false =>
    refine (dot_out b g W H d x y w h3 (inside_out hi)).mono fun e w' ⟨he, hw⟩ => ?_
    subst hw
    exact ⟨he, ⟨h1, h2, d, h3, shows_out h4 hi⟩, World.grownBy.refl _ _⟩
theorem dot_nil (x y : Int) (w : World) :
    Calls Tryd.prog 19 #[.pointer none, .int .i64 x, .int .i64 y] w fun e w' => e = .returned (.bool false) ∧ w = w' := by
  have hC := run.hid (cell_nil x y w)
  go_enter Tryd.func19, Tryd.ntmps19
  go_wp2_with fail
  refine hC.out.mono ?_
  rintro e w1 ⟨rfl, rfl⟩
  go_wp2
  go_ret
  exact ⟨rfl, rfl⟩

set_option maxHeartbeats 1000000 in
theorem has_in (b g W H : Nat) (d : Nat → Nat) (x y : Nat) (w : World) (hd : Dots w) (h : Canv w b g W H d) (hx : x < 2 * W) (hy : y < 4 * H) :
    Calls Tryd.prog 22 #[.pointer (some ⟨b, 0, none⟩), .int .i64 x, .int .i64 y] w fun e w' => e = .returned (.bool ((d (cellNo W x y)).testBit (bitNo x y))) ∧ ∃ n, w' = w.drewN n := by
  have hlt := cellNo_lt hx hy
  have hc := h.row.cell hlt
  have hs := h.small _ hlt
  have HO := run.hid (and_dotB (d (cellNo W x y)) hs x y)
  have hC := run.hid (cell_in b g W H d x y w hd h hx hy)
  clear h hd
  go_enter Tryd.func22, Tryd.ntmps22
  go_wp2_with fail
  refine hC.out.mono ?_
  rintro e w1 ⟨rfl, n, rfl⟩
  go_wp2
  go_ret
  exact ⟨by rw [← HO.out]; rfl, n, rfl⟩
theorem has_any (B b g W H : Nat) (S : Int → Int → Bool) (x y : Int) (w : World) (hd : Dots w) (h : Canvas B b g W H S w) :
    Calls Tryd.prog 22 #[.pointer (some ⟨b, 0, none⟩), .int .i64 x, .int .i64 y] w fun e w' => e = .returned (.bool (inside W H x y && S x y)) ∧ Below w.heap.size w w' := by
  obtain ⟨h1, h2, d, h3, h4⟩ := h
  cases hi : inside W H x y with
  | true =>
    obtain ⟨x', y', rfl, rfl, hx, hy⟩ := inside_in hi
    refine (has_in b g W H d x' y' w hd h3 hx hy).mono fun e w' ⟨he, n, hw⟩ => ?_
    subst hw
    exact ⟨by rw [he, h4 x' y' hx hy]; rfl, drewN_below _ _ _⟩
  | false =>
    have hC := run.hid (cell_out b g W H d x y w h3 (inside_out hi))
    clear h3 h4 hd
    go_enter Tryd.func22, Tryd.ntmps22
    go_wp2_with fail
    refine hC.out.mono ?_
    rintro e w1 ⟨rfl, rfl⟩
    go_wp2
    go_ret
    exact ⟨rfl, Below.refl _ _⟩
theorem has_nil (x y : Int) (w : World) :
    Calls Tryd.prog 22 #[.pointer none, .int .i64 x, .int .i64 y] w fun e w' => e = .returned (.bool false) ∧ w = w' := by
  have hC := run.hid (cell_nil x y w)
  go_enter Tryd.func22, Tryd.ntmps22
  go_wp2_with fail
  refine hC.out.mono ?_
  rintro e w1 ⟨rfl, rfl⟩
  go_wp2
  go_ret
  exact ⟨rfl, rfl⟩

end Go.Proofs.YtbfheehaagcmeaaDoor.can
