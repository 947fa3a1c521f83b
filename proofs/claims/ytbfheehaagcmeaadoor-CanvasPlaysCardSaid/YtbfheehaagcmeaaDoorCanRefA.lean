/-
  The walks of the document's canvas: made, dots, lines, circles, and where it says no.
-/
import Derived.Test.YtbfheehaagcmeaaDoorCanNew
import Derived.Test.YtbfheehaagcmeaaDoorCanAlive
import Derived.Laws.Cover4
import Derived.Deep.DeepCutAuto
import Derived.BigQuiet
import Derived.BigRegion
import Derived.Lib.QuietBelow
import Derived.Test.YtbfheehaagcmeaaDoorCanCircs
import Derived.Lib.MinMax
namespace Go.Proofs.YtbfheehaagcmeaaDoor.can
open Go.RowKit Go.Proofs
set_option linter.unusedVariables false

theorem info_bool : (Tryd.prog.info? 4).map (fun i => (i.zero, i.size, i.bytes)) = some (some (.bool false), 1, 1) := by kernel_rfl

structure RC (w : World) (b g W H n : Nat) (d : Nat → Bool) : Prop where
  h0 : w.cell? ⟨b, 0, none⟩ = some (.int .i64 W)
  h1 : w.cell? ⟨b, 1, none⟩ = some (.int .i64 H)
  h2 : w.cell? ⟨b, 2, none⟩ = some (.slice (some ⟨g, 0, none⟩) n n)
  row : w.rowIs g 4 n fun i => .bool (d i)
  ne : b ≠ g
  hn : n = 8 * W * H
  wide : W ≤ 4096
  high : H ≤ 4096
  size : W * H ≤ 1048576
def rNo (W x y : Nat) : Nat := y * 2 * W + x
theorem rNo_lt {W H x y : Nat} (hx : x < 2 * W) (hy : y < 4 * H) : rNo W x y < 8 * W * H := by
  unfold rNo
  have h1 : (y + 1) * (2 * W) ≤ 4 * H * (2 * W) := Nat.mul_le_mul_right _ (by omega)
  have h2 : 4 * H * (2 * W) = 8 * W * H := by rw [Nat.mul_comm 4 H, Nat.mul_assoc, Nat.mul_left_comm 4 2 W, ← Nat.mul_assoc 2 4 W, Nat.mul_comm H]
  have h3 : (y + 1) * (2 * W) = y * 2 * W + 2 * W := by rw [Nat.add_mul, Nat.one_mul, ← Nat.mul_assoc]
  omega
theorem rNo_inj {W x y x' y' : Nat} (hx : x < 2 * W) (hx' : x' < 2 * W) (h : rNo W x y = rNo W x' y') : x = x' ∧ y = y' := by
  unfold rNo at h
  rw [Nat.mul_assoc, Nat.mul_assoc] at h
  have h1 : (y * (2 * W) + x) / (2 * W) = y := by rw [Nat.mul_comm y, Nat.mul_add_div (by omega), Nat.div_eq_of_lt hx, Nat.add_zero]
  have h2 : (y' * (2 * W) + x') / (2 * W) = y' := by rw [Nat.mul_comm y', Nat.mul_add_div (by omega), Nat.div_eq_of_lt hx', Nat.add_zero]
  rw [h, h2] at h1
  subst h1
  exact ⟨by omega, rfl⟩
def RShows (W H : Nat) (d : Nat → Bool) (S : Int → Int → Bool) : Prop := ∀ x y : Nat, x < 2 * W → y < 4 * H → d (rNo W x y) = S x y
def RCan (B b g W H : Nat) (S : Int → Int → Bool) (w : World) : Prop := B ≤ b ∧ B ≤ g ∧ ∃ d, RC w b g W H (8 * W * H) d ∧ RShows W H d S
theorem RC.of_block {w w' : World} {b g W H n : Nat} {d : Nat → Bool} (h : RC w b g W H n d) (hb : w'.heap[b]? = w.heap[b]?) (hg : w'.heap[g]? = w.heap[g]?) : RC w' b g W H n d :=
  ⟨(World.cell?_of_block (w := w) (a := ⟨b, 0, none⟩) hb).trans h.h0, (World.cell?_of_block (w := w) (a := ⟨b, 1, none⟩) hb).trans h.h1, (World.cell?_of_block (w := w) (a := ⟨b, 2, none⟩) hb).trans h.h2, h.row.of_block hg, h.ne, h.hn, h.wide, h.high, h.size⟩
theorem RC.lt {w : World} {b g W H n : Nat} {d : Nat → Bool} (h : RC w b g W H n d) : b < w.heap.size ∧ g < w.heap.size := ⟨run.lt_of_cell h.h0, h.row.lt⟩
theorem RCan.below {B b g W H : Nat} {S : Int → Int → Bool} {w w' : World} (h : RCan B b g W H S w) (hb : Below w.heap.size w w') : RCan B b g W H S w' := by
  obtain ⟨h1, h2, d, h3, h4⟩ := h
  exact ⟨h1, h2, d, h3.of_block (hb.block b h3.lt.1) (hb.block g h3.lt.2), h4⟩
theorem RCan.kept {B b g W H k : Nat} {S : Int → Int → Bool} {w w' : World} (h : RCan B b g W H S w) (hg : w.grownBy w' (some k)) (hb : b ≠ k) (hgk : g ≠ k) : RCan B b g W H S w' := by
  obtain ⟨h1, h2, d, h3, h4⟩ := h
  exact ⟨h1, h2, d, h3.of_block (hg.block b h3.lt.1 (by simpa using hb)) (hg.block g h3.lt.2 (by simpa using hgk)), h4⟩

theorem rcan_new (B W H : Nat) (w : World) (hB : B ≤ w.heap.size) (h1 : W ≤ 4096) (h2 : H ≤ 4096) (h3 : W * H ≤ 1048576) :
    RCan B (w.heap.size + 1) w.heap.size W H (fun _ _ => false) ((w.alloc (.cells (madeCells #[.bool false] (8 * W * H)) 4)).alloc (.cells #[.int .i64 W, .int .i64 H, .slice (some ⟨w.heap.size, 0, none⟩) (8 * W * H) (8 * W * H)] 79)) := by
  refine ⟨by omega, by omega, fun _ => false, ?_, fun x y _ _ => rfl⟩
  generalize hn : 8 * W * H = n at *
  have hrow := World.rowIs_made w (.bool false) n 4
  have hs : (w.alloc (.cells (madeCells #[.bool false] n) 4)).heap.size = w.heap.size + 1 := by simp
  generalize w.alloc (.cells (madeCells #[.bool false] n) 4) = w1 at *
  rw [← hs]
  exact ⟨World.cell?_alloc_at _ _ _ _ rfl, World.cell?_alloc_at _ _ _ _ rfl, World.cell?_alloc_at _ _ _ _ rfl, hrow.alloc _, by omega, hn.symm, h1, h2, h3⟩

set_option maxRecDepth 100000 in
set_option maxHeartbeats 1000000 in
theorem rnew_ok (W H : Nat) (w : World) (h1 : W ≤ 4096) (h2 : H ≤ 4096) (h3 : W * H ≤ 1048576) :
    Calls Tryd.prog 26 #[.int .i64 W, .int .i64 H] w fun e w' => e = .returned (.tuple #[.pointer (some ⟨w.heap.size + 1, 0, none⟩), .int .i64 0]) ∧ w' = (w.alloc (.cells (madeCells #[.bool false] (8 * W * H)) 4)).alloc (.cells #[.int .i64 W, .int .i64 H, .slice (some ⟨w.heap.size, 0, none⟩) (8 * W * H) (8 * W * H)] 79) := by
  have e8 : 8 * W * H = 8 * (W * H) := Nat.mul_assoc 8 W H
  have hmk := run_make_row' (P := Tryd.prog) 77 4 (.bool false) 1 Tryd.underlying77 info_bool rfl .i64 .i64 (8 * W * H) (by omega) (by omega) w
  rw [show ((8 * W * H : Nat) : Int) = 8 * (W : Int) * (H : Int) by push_cast; rfl] at hmk
  have hcm := Int.natCast_mul W H
  have h3' : (W : Int) * (H : Int) ≤ 1048576 := by rw [← hcm]; omega
  have h4' : 0 ≤ (W : Int) * (H : Int) := by rw [← hcm]; omega
  have h5 : (8 : Int) * (W : Int) * (H : Int) = 8 * ((W : Int) * (H : Int)) := Int.mul_assoc 8 W H
  have h6 : (8 : Int) * (W : Int) * (H : Int) ≤ 8388608 := by rw [h5]; omega
  have h7 : 0 ≤ (8 : Int) * (W : Int) * (H : Int) := by rw [h5]; omega
  clear hcm h5 e8 h3
  go_enter Tryd.func26, Tryd.ntmps26
  go_wp2
  go_ret2
  exact ⟨rfl, rfl⟩

set_option maxHeartbeats 1000000 in
theorem rhas_in (b g W H n : Nat) (d : Nat → Bool) (x y : Nat) (w : World) (h : RC w b g W H n d) (hx : x < 2 * W) (hy : y < 4 * H) :
    Calls Tryd.prog 29 #[.pointer (some ⟨b, 0, none⟩), .int .i64 x, .int .i64 y] w fun e w' => e = .returned (.bool (d (rNo W x y))) ∧ ∃ n, w' = w.drewN n := by
  have hlt := rNo_lt hx hy
  rw [← h.hn] at hlt
  have hc := h.row.cell hlt
  have e0 := h.h0
  have e1 := h.h1
  have e2 := h.h2
  have b1 := h.wide
  have b2 := h.high
  have hq : y * 2 * W ≤ 16384 * 2 * 4096 := Nat.mul_le_mul (by omega) (by omega)
  have hm : IntKind.i64.wrap ((y : Int) * 2 * (W : Int)) = (y * 2 * W : Nat) := by
    rw [show (y : Int) * 2 * (W : Int) = ((y * 2 * W : Nat) : Int) by push_cast; rfl, IntWalk.i64_in _ (by omega)]
  have hm2 : (y : Int) * 2 * (W : Int) = (y * 2 * W : Nat) := by push_cast; rfl
  unfold rNo at *
  have hx' : (x : Int) < 2 * (W : Int) := by omega
  have hy' : (y : Int) < 4 * (H : Int) := by omega
  have hx0 : (0 : Int) ≤ (x : Int) := by omega
  have hy0 : (0 : Int) ≤ (y : Int) := by omega
  generalize y * 2 * W = q at *
  have hix : (q : Int) + (x : Int) < (n : Int) := by omega
  generalize d (q + x) = v at *
  clear h
  go_enter Tryd.func29, Tryd.ntmps29
  go_upto_region 1 with fail
  go_quiet (fail)
  go_wp2
  go_ret
  exact ⟨rfl, nq, rfl⟩

set_option maxHeartbeats 2000000 in
theorem rhas_out (b g W H n : Nat) (d : Nat → Bool) (x y : Int) (w : World) (h : RC w b g W H n d) (ho : x < 0 ∨ y < 0 ∨ 2 * (W : Int) ≤ x ∨ 4 * (H : Int) ≤ y) :
    Calls Tryd.prog 29 #[.pointer (some ⟨b, 0, none⟩), .int .i64 x, .int .i64 y] w fun e w' => e = .returned (.bool false) ∧ ∃ n, w' = w.drewN n := by
  have e0 := h.h0
  have e1 := h.h1
  have b1 := h.wide
  have b2 := h.high
  clear h
  by_cases q0 : 0 ≤ x
  · by_cases q1 : x < 2 * (W : Int)
    · by_cases q2 : 0 ≤ y
      · have q3 : ¬ y < 4 * (H : Int) := by omega
        clear ho
        go_enter Tryd.func29, Tryd.ntmps29
        go_upto_region 1 with fail
        go_quiet (fail)
        go_wp2
        go_ret
        exact ⟨rfl, nq, rfl⟩
      · clear ho
        go_enter Tryd.func29, Tryd.ntmps29
        go_upto_region 1 with fail
        go_quiet (fail)
        go_wp2
        go_ret
        exact ⟨rfl, nq, rfl⟩
    · clear ho
      go_enter Tryd.func29, Tryd.ntmps29
      go_upto_region 1 with fail
      go_quiet (fail)
      go_wp2
      go_ret
      exact ⟨rfl, nq, rfl⟩
  · clear ho
    go_enter Tryd.func29, Tryd.ntmps29
    go_upto_region 1 with fail
    go_quiet (fail)
    go_wp2
    go_ret
    exact ⟨rfl, nq, rfl⟩
/-- A DOT ASKED. -/
theorem rhas_any (B b g W H : Nat) (S : Int → Int → Bool) (x y : Int) (w : World) (h : RCan B b g W H S w) :
    Calls Tryd.prog 29 #[.pointer (some ⟨b, 0, none⟩), .int .i64 x, .int .i64 y] w fun e w' => e = .returned (.bool (inside W H x y && S x y)) ∧ ∃ n, w' = w.drewN n := by
  obtain ⟨h1, h2, d, h3, h4⟩ := h
  cases hi : inside W H x y with
  | true =>
    obtain ⟨x', y', rfl, rfl, hx, hy⟩ := inside_in hi
    exact (rhas_in b g W H _ d x' y' w h3 hx hy).mono fun e w' ⟨he, hw⟩ => ⟨by rw [he, h4 x' y' hx hy]; rfl, hw⟩
  | false => exact (rhas_out b g W H _ d x y w h3 (inside_out hi)).mono fun e w' ⟨he, hw⟩ => ⟨he, hw⟩

def putR (W : Nat) (d : Nat → Bool) (x y : Nat) : Nat → Bool := fun j => if j = rNo W x y then true else d j
theorem rshows_put {W H : Nat} {d : Nat → Bool} {S : Int → Int → Bool} (h : RShows W H d S) {x y : Nat} (hx : x < 2 * W) (hy : y < 4 * H) : RShows W H (putR W d x y) (plot S x y) := by
  intro x' y' hx' hy'
  unfold putR plot
  by_cases e : rNo W x' y' = rNo W x y
  · obtain ⟨rfl, rfl⟩ := rNo_inj hx' hx e
    rw [if_pos rfl]; simp
  · rw [if_neg e, h x' y' hx' hy']
    have : ¬ (x' = x ∧ y' = y) := fun hc => e (by rw [hc.1, hc.2])
    have h2 : (((x' : Int) == x) && ((y' : Int) == y)) = false := by
      rw [Bool.and_eq_false_iff]
      by_cases ex : x' = x
      · right; have : y' ≠ y := fun e2 => this ⟨ex, e2⟩
        simp; omega
      · left; simp; omega
    rw [h2, Bool.or_false]
theorem rshows_out {W H : Nat} {d : Nat → Bool} {S : Int → Int → Bool} (h : RShows W H d S) {x y : Int} (ho : inside W H x y = false) : RShows W H d (plot S x y) := by
  intro x' y' hx' hy'
  rw [h x' y' hx' hy']
  unfold plot
  have h2 : (((x' : Int) == x) && ((y' : Int) == y)) = false := by
    rw [Bool.and_eq_false_iff]
    have := inside_out ho
    by_cases ex : (x' : Int) = x
    · right; simp; omega
    · left; simp; omega
  rw [h2, Bool.or_false]

set_option maxHeartbeats 2000000 in
theorem rdot_in (b g W H n : Nat) (d : Nat → Bool) (x y : Nat) (w : World) (h : RC w b g W H n d) (hx : x < 2 * W) (hy : y < 4 * H) :
    Calls Tryd.prog 28 #[.pointer (some ⟨b, 0, none⟩), .int .i64 x, .int .i64 y] w fun e w' => e = .returned (.bool true) ∧ RC w' b g W H n (putR W d x y) ∧ w.grownBy w' (some g) := by
  have hlt := rNo_lt hx hy
  rw [← h.hn] at hlt
  have hcv : ∀ m, RC ((w.drewN m).setCell ⟨g, rNo W x y, none⟩ (.bool true)) b g W H n (putR W d x y) := by
    intro m
    have h' : RC (w.drewN m) b g W H n d := h.of_block rfl rfl
    have hb := Below.heap_setCell (w.drewN m) ⟨g, rNo W x y, none⟩ (.bool true) b h.ne
    refine ⟨(World.cell?_of_block (w := w.drewN m) (a := ⟨b, 0, none⟩) hb).trans h'.h0, (World.cell?_of_block (w := w.drewN m) (a := ⟨b, 1, none⟩) hb).trans h'.h1, (World.cell?_of_block (w := w.drewN m) (a := ⟨b, 2, none⟩) hb).trans h'.h2, ?_, h.ne, h.hn, h.wide, h.high, h.size⟩
    refine (h'.row.set (rNo W x y) _).congr fun i hi => ?_
    unfold putR
    by_cases e : i = rNo W x y
    · subst e; rw [if_pos rfl, if_pos rfl]
    · rw [if_neg e, if_neg e]
  have HC := run.hid hcv
  have hc := h.row.cell hlt
  have hf := h.row.frozen (rNo W x y)
  have e0 := h.h0
  have e1 := h.h1
  have e2 := h.h2
  have b1 := h.wide
  have b2 := h.high
  have hq : y * 2 * W ≤ 16384 * 2 * 4096 := Nat.mul_le_mul (by omega) (by omega)
  have hm : IntKind.i64.wrap ((y : Int) * 2 * (W : Int)) = (y * 2 * W : Nat) := by
    rw [show (y : Int) * 2 * (W : Int) = ((y * 2 * W : Nat) : Int) by push_cast; rfl, IntWalk.i64_in _ (by omega)]
  have hm2 : (y : Int) * 2 * (W : Int) = (y * 2 * W : Nat) := by push_cast; rfl
  generalize putR W d x y = d' at *
  unfold rNo at *
  have hx' : (x : Int) < 2 * (W : Int) := by omega
  have hy' : (y : Int) < 4 * (H : Int) := by omega
  have hx0 : (0 : Int) ≤ (x : Int) := by omega
  have hy0 : (0 : Int) ≤ (y : Int) := by omega
  generalize y * 2 * W = q at *
  have hix : (q : Int) + (x : Int) < (n : Int) := by omega
  generalize d (q + x) = v at *
  clear h hcv hlt
  go_enter Tryd.func28, Tryd.ntmps28
  go_upto_region 3 with fail
  go_region
  all_goals go_wp2
  go_ret
  exact ⟨rfl, HC.out _, run.grown_trans (drewN_grown w _ _) (setCell_grown _ _ _ _) (.inl rfl)⟩

set_option maxHeartbeats 2000000 in
theorem rdot_out (b g W H n : Nat) (d : Nat → Bool) (x y : Int) (w : World) (h : RC w b g W H n d) (ho : x < 0 ∨ y < 0 ∨ 2 * (W : Int) ≤ x ∨ 4 * (H : Int) ≤ y) :
    Calls Tryd.prog 28 #[.pointer (some ⟨b, 0, none⟩), .int .i64 x, .int .i64 y] w fun e w' => e = .returned (.bool false) ∧ w' = w := by
  have e0 := h.h0
  have e1 := h.h1
  have b1 := h.wide
  have b2 := h.high
  clear h
  by_cases q0 : x < 0
  · clear ho
    go_enter Tryd.func28, Tryd.ntmps28
    go_wp2
    go_ret
    exact ⟨rfl, rfl⟩
  · by_cases q1 : 2 * (W : Int) ≤ x
    · clear ho
      go_enter Tryd.func28, Tryd.ntmps28
      go_wp2
      go_ret
      exact ⟨rfl, rfl⟩
    · by_cases q2 : y < 0
      · clear ho
        go_enter Tryd.func28, Tryd.ntmps28
        go_wp2
        go_ret
        exact ⟨rfl, rfl⟩
      · have q3 : 4 * (H : Int) ≤ y := by omega
        clear ho
        go_enter Tryd.func28, Tryd.ntmps28
        go_wp2
        go_ret
        exact ⟨rfl, rfl⟩
/-- A DOT SET. -/
theorem rdot_any (B b g W H : Nat) (S : Int → Int → Bool) (x y : Int) (w : World) (h : RCan B b g W H S w) :
    Calls Tryd.prog 28 #[.pointer (some ⟨b, 0, none⟩), .int .i64 x, .int .i64 y] w fun e w' => e = .returned (.bool (inside W H x y)) ∧ RCan B b g W H (plot S x y) w' ∧ w.grownBy w' (some g) := by
  obtain ⟨h1, h2, d, h3, h4⟩ := h
  cases hi : inside W H x y with
  | true =>
    obtain ⟨x', y', rfl, rfl, hx, hy⟩ := inside_in hi
    exact (rdot_in b g W H _ d x' y' w h3 hx hy).mono fun e w' ⟨he, hc, hg⟩ => ⟨he, ⟨h1, h2, _, hc, rshows_put h4 hx hy⟩, hg⟩
  | false =>
    refine (rdot_out b g W H _ d x y w h3 (inside_out hi)).mono fun e w' ⟨he, hw⟩ => ?_
    subst hw
    exact ⟨he, ⟨h1, h2, d, h3, rshows_out h4 hi⟩, World.grownBy.refl _ _⟩
end Go.Proofs.YtbfheehaagcmeaaDoor.can
namespace Go.Proofs.YtbfheehaagcmeaaDoor.can
open Go.RowKit Go.Proofs
set_option linter.unusedVariables false

theorem rplane_any (n : Int) (w : World) : Calls Tryd.prog 49 #[.int .i64 n] w fun e w' => e = .returned (.bool (inPlane n)) ∧ w' = w := by
  by_cases h1 : -1048576 ≤ n
  · have e : inPlane n = decide (n < 1048576) := by unfold inPlane; simp [h1]
    rw [e]
    go_enter Tryd.func49, Tryd.ntmps49
    go_wp2
    go_ret
    exact ⟨rfl, rfl⟩
  · have e : inPlane n = false := by unfold inPlane; simp [h1]
    rw [e]
    go_enter Tryd.func49, Tryd.ntmps49
    go_wp2
    go_ret
    exact ⟨rfl, rfl⟩

set_option maxHeartbeats 1000000 in
theorem toward_any (a b k n : Int) (w : World) (ha : -1048576 ≤ a ∧ a < 1048576) (hb : -1048576 ≤ b ∧ b < 1048576) (hk : 0 ≤ k) (hkn : k ≤ n) (hn : n ≤ 2097152) :
    Calls Tryd.prog 50 #[.int .i64 a, .int .i64 b, .int .i64 k, .int .i64 n] w fun e w' => e = .returned (.int .i64 (a + stepT (b - a) k n)) ∧ w' = w := by
  by_cases h0 : n = 0
  · subst h0
    obtain rfl : k = 0 := by omega
    have e : a + stepT (b - a) 0 0 = a := by unfold stepT; split <;> simp
    rw [e]
    clear e
    by_cases hd : b - a < 0
    · go_enter Tryd.func50, Tryd.ntmps50
      go_wp2
      go_ret
      exact ⟨rfl, rfl⟩
    · go_enter Tryd.func50, Tryd.ntmps50
      go_wp2
      go_ret
      exact ⟨rfl, rfl⟩
  · have h1 : 1 ≤ n := by omega
    by_cases hd : b - a < 0
    · obtain ⟨hm1, hm2⟩ := mul_bd (m := 0) (show 0 ≤ 2 * k by omega) (show 0 ≤ -(b - a) by omega) (by omega) (by omega)
      have hq := stepT_le (d := -(b - a)) (by omega) hk hkn h1
      have eq : stepT (-(b - a)) k n = (2 * k * (-(b - a)) + n) / (2 * n) := by unfold stepT; rw [if_neg (by omega)]
      have e := run.hid (show a + stepT (b - a) k n = a + -((2 * k * (-(b - a)) + n) / (2 * n)) by rw [stepT_neg hd, eq])
      rw [eq] at hq
      clear eq
      rw [e.out]
      clear e
      go_enter Tryd.func50, Tryd.ntmps50
      go_wp2
      go_ret
      exact ⟨rfl, rfl⟩
    · obtain ⟨hm1, hm2⟩ := mul_bd (m := 0) (show 0 ≤ 2 * k by omega) (show 0 ≤ b - a by omega) (by omega) (by omega)
      have hq := stepT_le (d := b - a) (by omega) hk hkn h1
      have eq : stepT (b - a) k n = (2 * k * (b - a) + n) / (2 * n) := by unfold stepT; rw [if_neg (by omega)]
      have e := run.hid (show a + stepT (b - a) k n = a + (2 * k * (b - a) + n) / (2 * n) by rw [eq])
      rw [eq] at hq
      clear eq
      rw [e.out]
      clear e
      go_enter Tryd.func50, Tryd.ntmps50
      go_wp2
      go_ret
      exact ⟨rfl, rfl⟩

/-- the first k dots of a line -/
def lineR (x0 y0 x1 y1 : Int) : Nat → List (Int × Int)
  | 0 => []
  | k + 1 => lineL x0 y0 x1 y1 k
theorem stepT_zero (d n : Int) (hn : 0 ≤ n) : stepT d 0 n = 0 := by
  have h : n / (2 * n) = 0 := by
    by_cases h0 : n = 0
    · subst h0; rfl
    · exact Int.ediv_eq_zero_of_lt (by omega) (by omega)
  unfold stepT
  split <;> simp [h]
theorem lineR_succ (x0 y0 x1 y1 : Int) (k : Nat) : lineR x0 y0 x1 y1 (k + 1) = lineR x0 y0 x1 y1 k ++ [(x0 + stepT (x1 - x0) k (lineN x0 y0 x1 y1), y0 + stepT (y1 - y0) k (lineN x0 y0 x1 y1))] := by
  have hn : 0 ≤ lineN x0 y0 x1 y1 := by unfold lineN; omega
  cases k with
  | zero =>
    show lineL x0 y0 x1 y1 0 = _
    simp only [lineR, lineL, List.range_zero, List.map_nil, List.nil_append]
    rw [show ((0 : Nat) : Int) = 0 from rfl, stepT_zero _ _ hn, stepT_zero _ _ hn, Int.add_zero, Int.add_zero]
  | succ j =>
    show lineL x0 y0 x1 y1 (j + 1) = lineL x0 y0 x1 y1 j ++ _
    rw [lineL_succ]
    rfl

set_option maxHeartbeats 2000000 in
theorem rline_any (B b g W H : Nat) (S : Int → Int → Bool) (x0 y0 x1 y1 : Int) (w : World) (h : RCan B b g W H S w)
    (hp : inPlane x0 = true ∧ inPlane y0 = true ∧ inPlane x1 = true ∧ inPlane y1 = true) :
    Calls Tryd.prog 30 #[.pointer (some ⟨b, 0, none⟩), .int .i64 x0, .int .i64 y0, .int .i64 x1, .int .i64 y1] w fun e w' => e = .returned (.int .i64 0) ∧ RCan B b g W H (plots S (lineL x0 y0 x1 y1 (lineN x0 y0 x1 y1).toNat)) w' ∧ w.grownBy w' (some g) := by
  obtain ⟨q1, q2, q3, q4⟩ := hp
  have HP := run.hid (fun n w => rplane_any n w)
  have HQ := run.hid (show (inPlane x0 = true ∧ inPlane y0 = true) ∧ inPlane x1 = true ∧ inPlane y1 = true from ⟨⟨q1, q2⟩, q3, q4⟩)
  unfold inPlane at q1 q2 q3 q4
  simp only [decide_eq_true_eq] at q1 q2 q3 q4
  obtain ⟨N, hN⟩ : ∃ N : Nat, (N : Int) = lineN x0 y0 x1 y1 := ⟨(lineN x0 y0 x1 y1).toNat, by unfold lineN; omega⟩
  have hn1 : (N : Int) ≤ 2097151 := by rw [hN]; unfold lineN; omega
  have hmax : max (max (x1 - x0) (x0 - x1)) (max (y1 - y0) (y0 - y1)) = (N : Int) := hN.symm
  rw [← hN, Int.toNat_natCast]
  have HN := run.hid hN
  clear hN
  have HH := run.hid h
  clear h
  go_enter Tryd.func30, Tryd.ntmps30
  go_wp2_with fail
  refine (HP.out _ _).mono ?_
  rw [HQ.out.1.1]
  rintro e w1 ⟨rfl, rfl⟩
  go_wp2_with fail
  refine (HP.out _ _).mono ?_
  rw [HQ.out.1.2]
  rintro e w1 ⟨rfl, rfl⟩
  go_wp2_with fail
  refine (HP.out _ _).mono ?_
  rw [HQ.out.2.1]
  rintro e w1 ⟨rfl, rfl⟩
  go_wp2_with fail
  refine (HP.out _ _).mono ?_
  rw [HQ.out.2.2]
  rintro e w1 ⟨rfl, rfl⟩
  clear HP HQ
  go_wp2
  go_loopw [16] (fun v wr => ∃ k : Nat, k ≤ N + 1 ∧ v = .int .i64 k ∧ Hid (RCan B b g W H (plots S (lineR x0 y0 x1 y1 k)) wr) ∧ Hid (w1.grownBy wr (some g))) (fun v _ => ((N : Int) + 1 - intOf v).toNat)
  case atStart => exact ⟨0, Nat.zero_le _, rfl, HH.out, World.grownBy.refl _ _⟩
  case round =>
    obtain ⟨k, hk, rfl, HCr, HGr⟩ := hrel
    by_cases hlt : k < N + 1
    · have hkn : (k : Int) ≤ N := by omega
      have HT1 := run.hid (toward_any x0 x1 k N wr q1 q3 (by omega) hkn (by omega))
      have HT2 := run.hid (toward_any y0 y1 k N wr q2 q4 (by omega) hkn (by omega))
      have HS := run.hid (lineR_succ x0 y0 x1 y1 k)
      rw [← HN.out] at HS
      generalize x0 + stepT (x1 - x0) k N = px at *
      generalize y0 + stepT (y1 - y0) k N = py at *
      go_wp2_with fail
      refine HT1.out.mono ?_
      rintro e w3 ⟨rfl, rfl⟩
      go_wp2_with fail
      refine HT2.out.mono ?_
      rintro e w3 ⟨rfl, rfl⟩
      go_wp2_with fail
      refine (rdot_any B b g W H _ px py _ HCr.out).mono ?_
      rintro e w4 ⟨rfl, hc3, hg3⟩
      have HC3 : Hid (RCan B b g W H (plots S (lineR x0 y0 x1 y1 (k + 1))) w4) := by rw [HS.out, plots_snoc]; exact hc3
      have HG3 := run.hid (run.grown_trans HGr.out hg3 (.inl rfl))
      clear hc3 hg3
      go_wp2
      go_roundw
      case rel => exact ⟨k + 1, by omega, by go_num, HC3, HG3⟩
      case measure => simp [intOf]; omega
    · obtain rfl : k = N + 1 := by omega
      go_wp2
      go_ret
      exact ⟨rfl, HCr.out, HGr.out⟩

theorem sq_big {z : Int} (h0 : 0 ≤ z) (h : z ≤ 4194304) : 0 ≤ z * z ∧ z * z ≤ 17592186044416 := by
  refine ⟨Int.mul_nonneg h0 h0, ?_⟩
  have := Int.mul_le_mul h h h0 (by omega : (0 : Int) ≤ 4194304)
  omega
set_option maxHeartbeats 2000000 in
/-- THE ROOT: found by halves. -/
theorem root_any (m : Int) (w : World) (hm0 : -9223372036854775808 ≤ m) (hm : m ≤ 4398046511104) :
    Calls Tryd.prog 51 #[.int .i64 m] w fun e w' => ∃ j : Nat, e = .returned (.int .i64 j) ∧ (0 < j → (2 * (j : Int) - 1) * (2 * (j : Int) - 1) ≤ m) ∧ m < (2 * (j : Int) + 1) * (2 * (j : Int) + 1) ∧ j ≤ 2097152 ∧ w' = w := by
  by_cases h1 : m < 1
  · have hr : 0 < 0 → (2 * ((0 : Nat) : Int) - 1) * (2 * ((0 : Nat) : Int) - 1) ≤ m := fun h => absurd h (by omega)
    have hr2 : m < (2 * ((0 : Nat) : Int) + 1) * (2 * ((0 : Nat) : Int) + 1) := by simp; omega
    have HR := run.hid hr
    have HR2 := run.hid hr2
    clear hr hr2
    go_enter Tryd.func51, Tryd.ntmps51
    go_wp2
    go_ret
    exact ⟨0, rfl, HR.out, HR2.out, by omega, rfl⟩
  · go_enter Tryd.func51, Tryd.ntmps51
    go_wp2
    go_loopw [3, 4] (fun vl vh wr => ∃ lo hi : Nat, vl = .int .i64 lo ∧ vh = .int .i64 hi ∧ lo < hi ∧ hi ≤ 2097152 ∧ Hid (0 < lo → (2 * (lo : Int) - 1) * (2 * (lo : Int) - 1) ≤ m) ∧ Hid (m < (2 * (hi : Int) - 1) * (2 * (hi : Int) - 1)) ∧ wr = w) (fun vl vh _ => (intOf vh - intOf vl).toNat)
    case atStart =>
      refine ⟨0, 2097152, rfl, rfl, by omega, by omega, fun h => absurd h (by omega), ?_, rfl⟩
      show m < (2 * (2097152 : Int) - 1) * (2 * (2097152 : Int) - 1)
      omega
    case round =>
      obtain ⟨lo, hi, rfl, rfl, hlh, hhi, HL, HH, rfl⟩ := hrel
      by_cases hlt : lo + 1 < hi
      · obtain ⟨j, hj⟩ : ∃ j : Nat, j = (lo + hi) / 2 := ⟨_, rfl⟩
        have hj1 : lo < j := by omega
        have hj2 : j < hi := by omega
        have hj' : ((lo : Int) + (hi : Int)) / 2 = (j : Int) := by omega
        have HJ := run.hid hj
        clear hj
        obtain ⟨s1, s2⟩ := sq_big (z := 2 * (j : Int) - 1) (by omega) (by omega)
        by_cases hc : (2 * (j : Int) - 1) * (2 * (j : Int) - 1) ≤ m
        · have HC := run.hid hc
          go_wp2
          go_roundw
          case rel => exact ⟨j, hi, by rw [hj'], rfl, by omega, hhi, fun _ => HC.out, HH, trivial⟩
          case measure => simp [intOf]; omega
        · have HC := run.hid (show m < (2 * (j : Int) - 1) * (2 * (j : Int) - 1) by omega)
          go_wp2
          go_roundw
          case rel => exact ⟨lo, j, rfl, by rw [hj'], by omega, by omega, HL, HC.out, trivial⟩
          case measure => simp [intOf]; omega
      · obtain rfl : hi = lo + 1 := by omega
        have h3 := HH.out
        rw [show 2 * ((lo + 1 : Nat) : Int) - 1 = 2 * (lo : Int) + 1 by omega] at h3
        have H3 := run.hid h3
        clear h3 HH
        go_wp2
        go_ret
        exact ⟨lo, rfl, HL.out, H3.out, by omega, rfl⟩
/-- it is what the circle's own search comes to -/
theorem root_down {m : Int} {r j : Nat} (hm : m ≤ 4 * ((r : Int) * r)) (h1 : 0 < j → (2 * (j : Int) - 1) * (2 * (j : Int) - 1) ≤ m) (h2 : m < (2 * (j : Int) + 1) * (2 * (j : Int) + 1)) : down m r = j := by
  refine down_is ?_ h1 (.inl h2)
  rcases Nat.lt_or_ge r j with h | h
  · exfalso
    have h3 := h1 (by omega)
    have h4 : (2 * (r : Int) + 1) * (2 * (r : Int) + 1) ≤ (2 * (j : Int) - 1) * (2 * (j : Int) - 1) := Int.mul_le_mul (by omega) (by omega) (by omega) (by omega)
    have h5 : (2 * (r : Int) + 1) * (2 * (r : Int) + 1) = 4 * ((r : Int) * r) + 4 * r + 1 := by
      rw [Int.add_mul, Int.mul_add, Int.one_mul, Int.mul_one, Int.mul_assoc 2 (r : Int) (2 * (r : Int)), Int.mul_left_comm (r : Int) 2 (r : Int)]; omega
    omega
  · exact h
end Go.Proofs.YtbfheehaagcmeaaDoor.can
namespace Go.Proofs.YtbfheehaagcmeaaDoor.can
open Go.RowKit Go.Proofs
set_option linter.unusedVariables false

/-- the eight dots as the document sets them -/
def refPts (x y : Int) (i j : Nat) : List (Int × Int) := [(x + -(i : Int), y + -(j : Int)), (x + -(j : Int), y + -(i : Int)), (x + -(i : Int), y + j), (x + -(j : Int), y + i), (x + i, y + -(j : Int)), (x + j, y + -(i : Int)), (x + i, y + j), (x + j, y + i)]
theorem refPts_mem (x y : Int) (i j : Nat) (p : Int × Int) : p ∈ refPts x y i j ↔ p ∈ circPts x y i j := by
  unfold refPts circPts
  simp only [List.mem_cons, List.not_mem_nil, or_false]
  constructor <;> (rintro (h | h | h | h | h | h | h | h) <;> simp [h])
theorem RCan.mono {B b g W H : Nat} {S S' : Int → Int → Bool} {w : World} (h : RCan B b g W H S w) (he : ∀ x y, S x y = S' x y) : RCan B b g W H S' w := by
  obtain ⟨h1, h2, d, h3, h4⟩ := h
  exact ⟨h1, h2, d, h3, fun x y hx hy => (h4 x y hx hy).trans (he x y)⟩
theorem plots_ref (S : Int → Int → Bool) (x y : Int) (r i : Nat) (a b : Int) : plots (plots S (circL x y r i)) (refPts x y i (circJ r i)) a b = plots S (circL x y r (i + 1)) a b := by
  rw [circL_succ, plots_app, plots_eq, plots_eq _ (circPts x y i (circJ r i))]
  congr 1
  rw [decide_eq_decide]
  exact refPts_mem _ _ _ _ _

set_option maxRecDepth 100000 in
set_option maxHeartbeats 4000000 in
theorem rcircle_any (B b g W H : Nat) (S : Int → Int → Bool) (x y : Int) (r : Nat) (w : World) (h : RCan B b g W H S w)
    (hx : inPlane x = true) (hy : inPlane y = true) (hr : r ≤ 1048576) :
    Calls Tryd.prog 31 #[.pointer (some ⟨b, 0, none⟩), .int .i64 x, .int .i64 y, .int .i64 r] w fun e w' => e = .returned (.int .i64 0) ∧ RCan B b g W H (plots S (circL x y r (circN r))) w' ∧ w.grownBy w' (some g) := by
  have HP := run.hid (fun n w => rplane_any n w)
  have HQ := run.hid (show inPlane x = true ∧ inPlane y = true from ⟨hx, hy⟩)
  unfold inPlane at hx hy
  simp only [decide_eq_true_eq] at hx hy
  have HH := run.hid h
  clear h
  have hrr2 := sq_le (z := r) (B := 1048576) (by omega)
  obtain ⟨R2, hR2⟩ : ∃ R2 : Int, R2 = (r : Int) * r := ⟨_, rfl⟩
  rw [← hR2] at hrr2
  have hrr := mul_is 3 hR2.symm (by omega)
  have HR2 := run.hid hR2
  clear hR2
  go_enter Tryd.func31, Tryd.ntmps31
  go_wp2_with fail
  refine (HP.out _ _).mono ?_
  rw [HQ.out.1]
  rintro e w1 ⟨rfl, rfl⟩
  go_wp2_with fail
  refine (HP.out _ _).mono ?_
  rw [HQ.out.2]
  rintro e w1 ⟨rfl, rfl⟩
  clear HP HQ
  go_wp2
  go_loopw [11] (fun iv wr => ∃ i : Nat, iv = .int .i64 i ∧ i ≤ r + 1 ∧ Hid (∀ i', i' < i → i' ≤ circJ r i') ∧ Hid (RCan B b g W H (plots S (circL x y r i)) wr) ∧ Hid (w1.grownBy wr (some g))) (fun iv _ => r + 1 - (intOf iv).toNat)
  case atStart => exact ⟨0, rfl, Nat.zero_le _, fun _ h => absurd h (Nat.not_lt_zero _), HH.out, World.grownBy.refl _ _⟩
  case round =>
    obtain ⟨i, rfl, hi, HI, HCr, HGr⟩ := hrel
    generalize wr = wz at *
    have hii2 := sq_le (z := i) (B := 1048577) (by omega)
    have HM0 := run.hid (show circM r i = 4 * (R2 - (i : Int) * i) by rw [HR2.out]; rfl)
    obtain ⟨I2, hI2⟩ : ∃ I2 : Int, I2 = (i : Int) * i := ⟨_, rfl⟩
    rw [← hI2] at hii2 HM0
    have hii := mul_is 3 hI2.symm (by omega)
    have HI2 := run.hid hI2
    clear hI2
    have HRT := run.hid (root_any (4 * (R2 - I2)) wz (by omega) (by omega))
    go_wp2_with fail
    refine HRT.out.mono ?_
    rintro e w2 ⟨j, rfl, h1, h2, hj, rfl⟩
    have hjd : circJ r i = j := by
      unfold circJ
      refine root_down (m := circM r i) ?_ (by rw [HM0.out]; exact h1) (by rw [HM0.out]; exact h2)
      rw [HM0.out, ← HR2.out]; omega
    have HJ := run.hid hjd
    have hjr : j ≤ r := by rw [← hjd]; exact down_le _ _
    clear h1 h2 hjd HRT
    by_cases hij : j < i
    · have HN := run.hid (circN_is (r := r) (n := i) HI.out (by rw [HJ.out]; exact hij))
      clear HM0 hii hrr
      go_wp2
      go_ret
      exact ⟨rfl, by rw [HN.out]; exact HCr.out, HGr.out⟩
    · have HI3 := run.hid (show ∀ i', i' < i + 1 → i' ≤ circJ r i' from fun i' h => by
        rcases Nat.lt_or_ge i' i with h' | h'
        · exact HI.out i' h'
        · obtain rfl : i' = i := by omega
          rw [HJ.out]; omega)
      have HPL := run.hid (fun a b => plots_ref S x y r i a b)
      rw [HJ.out] at HPL
      have hir : i ≤ r := by omega
      generalize plots S (circL x y r i) = S0 at *
      clear hii HM0 HI
      generalize hSN : plots S (circL x y r (i + 1)) = SN at *
      have HSN := run.hid hSN
      clear hSN
      go_wp2
      go_loopw [13] (fun sv wr => ∃ a : Nat, (a = 0 ∧ sv = .int .i64 (-1) ∨ a = 1 ∧ sv = .int .i64 1 ∨ a = 2 ∧ sv = .int .i64 3) ∧ Hid (RCan B b g W H (plots S0 ((refPts x y i j).take (4 * a))) wr) ∧ Hid (w1.grownBy wr (some g))) (fun sv _ => (3 - intOf sv).toNat)
      case atStart => exact ⟨0, .inl ⟨rfl, rfl⟩, HCr, HGr⟩
      case round =>
        clear HCr HGr
        obtain ⟨a, ha, HCr, HGr⟩ := hrel
        generalize wr = wy at *
        rcases ha with ⟨rfl, rfl⟩ | ⟨rfl, rfl⟩ | ⟨rfl, rfl⟩
        · go_wp2
          go_loopw [14] (fun tv wr => ∃ c : Nat, (c = 0 ∧ tv = .int .i64 (-1) ∨ c = 1 ∧ tv = .int .i64 1 ∨ c = 2 ∧ tv = .int .i64 3) ∧ Hid (RCan B b g W H (plots S0 ((refPts x y i j).take (4 * 0 + 2 * c))) wr) ∧ Hid (w1.grownBy wr (some g))) (fun tv _ => (3 - intOf tv).toNat)
          case atStart => exact ⟨0, .inl ⟨rfl, rfl⟩, HCr, HGr⟩
          case round =>
            clear HCr HGr
            obtain ⟨c, hc, HCr, HGr⟩ := hrel
            rcases hc with ⟨rfl, rfl⟩ | ⟨rfl, rfl⟩ | ⟨rfl, rfl⟩
            · go_wp2_with fail
              refine (rdot_any B b g W H _ _ _ _ HCr.out).mono ?_
              rintro e w4 ⟨rfl, hc3, hg3⟩
              have HC3 := run.hid hc3
              have HG3 := run.hid (run.grown_trans HGr.out hg3 (.inl rfl))
              clear hc3 hg3 HCr HGr
              go_wp2_with fail
              refine (rdot_any B b g W H _ _ _ _ HC3.out).mono ?_
              rintro e w5 ⟨rfl, hc4, hg4⟩
              have HC4 : Hid (RCan B b g W H (plots S0 ((refPts x y i j).take (4 * 0 + 2 * 1))) w5) := hc4
              have HG4 := run.hid (run.grown_trans HG3.out hg4 (.inl rfl))
              clear hc4 hg4 HC3 HG3
              go_wp2
              go_roundw
              case rel => exact ⟨1, .inr (.inl ⟨rfl, rfl⟩), HC4, HG4⟩
              case measure => simp [intOf]
            · go_wp2_with fail
              refine (rdot_any B b g W H _ _ _ _ HCr.out).mono ?_
              rintro e w4 ⟨rfl, hc3, hg3⟩
              have HC3 := run.hid hc3
              have HG3 := run.hid (run.grown_trans HGr.out hg3 (.inl rfl))
              clear hc3 hg3 HCr HGr
              go_wp2_with fail
              refine (rdot_any B b g W H _ _ _ _ HC3.out).mono ?_
              rintro e w5 ⟨rfl, hc4, hg4⟩
              have HC4 : Hid (RCan B b g W H (plots S0 ((refPts x y i j).take (4 * 0 + 2 * 2))) w5) := hc4
              have HG4 := run.hid (run.grown_trans HG3.out hg4 (.inl rfl))
              clear hc4 hg4 HC3 HG3
              go_wp2
              go_roundw
              case rel => exact ⟨2, .inr (.inr ⟨rfl, rfl⟩), HC4, HG4⟩
              case measure => simp [intOf]
            · go_wp2
              go_roundw
              case rel => exact ⟨1, .inr (.inl ⟨rfl, rfl⟩), HCr, HGr⟩
              case measure => simp [intOf]
        · go_wp2
          go_loopw [14] (fun tv wr => ∃ c : Nat, (c = 0 ∧ tv = .int .i64 (-1) ∨ c = 1 ∧ tv = .int .i64 1 ∨ c = 2 ∧ tv = .int .i64 3) ∧ Hid (RCan B b g W H (plots S0 ((refPts x y i j).take (4 * 1 + 2 * c))) wr) ∧ Hid (w1.grownBy wr (some g))) (fun tv _ => (3 - intOf tv).toNat)
          case atStart => exact ⟨0, .inl ⟨rfl, rfl⟩, HCr, HGr⟩
          case round =>
            clear HCr HGr
            obtain ⟨c, hc, HCr, HGr⟩ := hrel
            rcases hc with ⟨rfl, rfl⟩ | ⟨rfl, rfl⟩ | ⟨rfl, rfl⟩
            · go_wp2_with fail
              refine (rdot_any B b g W H _ _ _ _ HCr.out).mono ?_
              rintro e w4 ⟨rfl, hc3, hg3⟩
              have HC3 := run.hid hc3
              have HG3 := run.hid (run.grown_trans HGr.out hg3 (.inl rfl))
              clear hc3 hg3 HCr HGr
              go_wp2_with fail
              refine (rdot_any B b g W H _ _ _ _ HC3.out).mono ?_
              rintro e w5 ⟨rfl, hc4, hg4⟩
              have HC4 : Hid (RCan B b g W H (plots S0 ((refPts x y i j).take (4 * 1 + 2 * 1))) w5) := hc4
              have HG4 := run.hid (run.grown_trans HG3.out hg4 (.inl rfl))
              clear hc4 hg4 HC3 HG3
              go_wp2
              go_roundw
              case rel => exact ⟨1, .inr (.inl ⟨rfl, rfl⟩), HC4, HG4⟩
              case measure => simp [intOf]
            · go_wp2_with fail
              refine (rdot_any B b g W H _ _ _ _ HCr.out).mono ?_
              rintro e w4 ⟨rfl, hc3, hg3⟩
              have HC3 := run.hid hc3
              have HG3 := run.hid (run.grown_trans HGr.out hg3 (.inl rfl))
              clear hc3 hg3 HCr HGr
              go_wp2_with fail
              refine (rdot_any B b g W H _ _ _ _ HC3.out).mono ?_
              rintro e w5 ⟨rfl, hc4, hg4⟩
              have HC4 : Hid (RCan B b g W H (plots S0 ((refPts x y i j).take (4 * 1 + 2 * 2))) w5) := hc4
              have HG4 := run.hid (run.grown_trans HG3.out hg4 (.inl rfl))
              clear hc4 hg4 HC3 HG3
              go_wp2
              go_roundw
              case rel => exact ⟨2, .inr (.inr ⟨rfl, rfl⟩), HC4, HG4⟩
              case measure => simp [intOf]
            · go_wp2
              go_roundw
              case rel => exact ⟨2, .inr (.inr ⟨rfl, rfl⟩), HCr, HGr⟩
              case measure => simp [intOf]
        · have HC9 : Hid (RCan B b g W H SN wy) := HCr.out.mono HPL.out
          clear HCr HPL
          go_wp2
          go_roundw
          case rel => exact ⟨i + 1, by go_num, by omega, HI3, by rw [HSN.out]; exact HC9, HGr⟩
          case measure => simp [intOf]; omega
end Go.Proofs.YtbfheehaagcmeaaDoor.can
namespace Go.Proofs.YtbfheehaagcmeaaDoor.can
open Go.RowKit Go.Proofs
set_option linter.unusedVariables false

set_option maxHeartbeats 1000000 in
theorem rnew_no (a c : Int) (w : World) (ha : -9223372036854775808 ≤ a ∧ a ≤ 9223372036854775807) (hc : -9223372036854775808 ≤ c ∧ c ≤ 9223372036854775807) (h : sizedOk a c = false) :
    Calls Tryd.prog 26 #[.int .i64 a, .int .i64 c] w fun e w' => e = .returned (.tuple #[.pointer none, .int .i64 5]) ∧ w = w' := by
  unfold sizedOk at h
  simp only [decide_eq_false_iff_not] at h
  by_cases h1 : a < 0
  · clear h
    go_enter Tryd.func26, Tryd.ntmps26
    go_wp2
    go_ret2
    exact ⟨rfl, rfl⟩
  have h1' : 0 ≤ a := by omega
  by_cases h2 : 4096 < a
  · clear h
    go_enter Tryd.func26, Tryd.ntmps26
    go_wp2
    go_ret2
    exact ⟨rfl, rfl⟩
  have h2' : a ≤ 4096 := by omega
  by_cases h3 : c < 0
  · clear h
    go_enter Tryd.func26, Tryd.ntmps26
    go_wp2
    go_ret2
    exact ⟨rfl, rfl⟩
  have h3' : 0 ≤ c := by omega
  by_cases h4 : 4096 < c
  · clear h
    go_enter Tryd.func26, Tryd.ntmps26
    go_wp2
    go_ret2
    exact ⟨rfl, rfl⟩
  have h4' : c ≤ 4096 := by omega
  have h5 : 1048576 < a * c := by omega
  have h6 : a * c ≤ 16777216 := by
    have := Int.mul_le_mul h2' h4' h3' (by omega : (0 : Int) ≤ 4096)
    omega
  clear h
  go_enter Tryd.func26, Tryd.ntmps26
  go_wp2
  go_ret2
  exact ⟨rfl, rfl⟩

set_option maxHeartbeats 2000000 in
theorem rline_no (b : Nat) (x0 y0 x1 y1 : Int) (w : World) (hp : [x0, y0, x1, y1].all inPlane = false) :
    Calls Tryd.prog 30 #[.pointer (some ⟨b, 0, none⟩), .int .i64 x0, .int .i64 y0, .int .i64 x1, .int .i64 y1] w fun e w' => e = .returned (.int .i64 2) ∧ w' = w := by
  have P0 := run.hid (fun w => rplane_any x0 w)
  have P1 := run.hid (fun w => rplane_any y0 w)
  have P2 := run.hid (fun w => rplane_any x1 w)
  have P3 := run.hid (fun w => rplane_any y1 w)
  simp only [List.all_cons, List.all_nil, Bool.and_true] at hp
  generalize inPlane x0 = p0 at *
  generalize inPlane y0 = p1 at *
  generalize inPlane x1 = p2 at *
  generalize inPlane y1 = p3 at *
  go_enter Tryd.func30, Tryd.ntmps30
  go_wp2_with fail
  refine (P0.out _).mono ?_
  rintro e w1 ⟨rfl, rfl⟩
  go_wp2_with fail
  refine (P1.out _).mono ?_
  rintro e w1 ⟨rfl, rfl⟩
  go_wp2_with fail
  refine (P2.out _).mono ?_
  rintro e w1 ⟨rfl, rfl⟩
  go_wp2_with fail
  refine (P3.out _).mono ?_
  rintro e w1 ⟨rfl, rfl⟩
  clear P0 P1 P2 P3
  cases p0 with
  | false =>
    clear hp
    go_wp2
    go_ret
    exact ⟨rfl, rfl⟩
  | true =>
    cases p1 with
    | false =>
      clear hp
      go_wp2
      go_ret
      exact ⟨rfl, rfl⟩
    | true =>
      cases p2 with
      | false =>
        clear hp
        go_wp2
        go_ret
        exact ⟨rfl, rfl⟩
      | true =>
        obtain rfl : p3 = false := by simpa using hp
        clear hp
        go_wp2
        go_ret
        exact ⟨rfl, rfl⟩

set_option maxHeartbeats 2000000 in
theorem rcircle_no (b : Nat) (x y r : Int) (w : World) (hp : [x, y].all inPlane = false ∨ r < 0 ∨ 1048576 < r) :
    Calls Tryd.prog 31 #[.pointer (some ⟨b, 0, none⟩), .int .i64 x, .int .i64 y, .int .i64 r] w fun e w' => e = .returned (.int .i64 2) ∧ w' = w := by
  have P0 := run.hid (fun w => rplane_any x w)
  have P1 := run.hid (fun w => rplane_any y w)
  simp only [List.all_cons, List.all_nil, Bool.and_true] at hp
  generalize inPlane x = p0 at *
  generalize inPlane y = p1 at *
  go_enter Tryd.func31, Tryd.ntmps31
  go_wp2_with fail
  refine (P0.out _).mono ?_
  rintro e w1 ⟨rfl, rfl⟩
  go_wp2_with fail
  refine (P1.out _).mono ?_
  rintro e w1 ⟨rfl, rfl⟩
  clear P0 P1
  cases p0 with
  | false =>
    clear hp
    go_wp2
    go_ret
    exact ⟨rfl, rfl⟩
  | true =>
    cases p1 with
    | false =>
      clear hp
      go_wp2
      go_ret
      exact ⟨rfl, rfl⟩
    | true =>
      by_cases h1 : r < 0
      · clear hp
        go_wp2
        go_ret
        exact ⟨rfl, rfl⟩
      · have h2 : 1048576 < r := by rcases hp with h | h | h <;> first | omega | simp at h
        clear hp
        go_wp2
        go_ret
        exact ⟨rfl, rfl⟩
end Go.Proofs.YtbfheehaagcmeaaDoor.can
