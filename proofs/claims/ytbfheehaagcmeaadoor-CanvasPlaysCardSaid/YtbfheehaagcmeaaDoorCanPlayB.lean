/-
  CanvasPlays: the walks of its helper step; pairs.
-/
import Derived.Test.YtbfheehaagcmeaaDoorCanPlayA
import Derived.Deep.RegionHeld3
import Derived.BigQuiet
import Derived.Test.YtbfheehaagcmeaaDoorCanAlike
import Derived.Test.YtbfheehaagcmeaaDoorRack
import Derived.Test.YtbfheehaagcmeaaDoorAlone
namespace Go.Proofs.YtbfheehaagcmeaaDoor.can
open Go.RowKit Go.Proofs
set_option linter.unusedVariables false

abbrev pairV (b b2 : Nat) : Value := .agg #[.pointer (some ⟨b, 0, none⟩), .pointer (some ⟨b2, 0, none⟩)]
abbrev stepV (d k x y u v : Int) (p : Value) : Value := .agg #[.int .i64 d, .int .i64 k, .int .i64 x, .int .i64 y, .int .i64 u, .int .i64 v, p]
/-- the world of a step whose arguments lie in boxes -/
def boxed (w : World) (b b2 : Nat) (d k x y u v : Int) (p : Value) : World :=
  (w.alloc (.cells #[.pointer (some ⟨b, 0, none⟩), .pointer (some ⟨b2, 0, none⟩)] 28)).alloc (.cells #[.int .i64 d, .int .i64 k, .int .i64 x, .int .i64 y, .int .i64 u, .int .i64 v, p] 35)
structure Box (B b b2 : Nat) (d k x y u v : Int) (p : Value) (w : World) : Prop where
  p0 : w.cell? ⟨B, 0, none⟩ = some (.pointer (some ⟨b, 0, none⟩))
  p1 : w.cell? ⟨B, 1, none⟩ = some (.pointer (some ⟨b2, 0, none⟩))
  s0 : w.cell? ⟨B + 1, 0, none⟩ = some (.int .i64 d)
  s2 : w.cell? ⟨B + 1, 2, none⟩ = some (.int .i64 x)
  s3 : w.cell? ⟨B + 1, 3, none⟩ = some (.int .i64 y)
  s4 : w.cell? ⟨B + 1, 4, none⟩ = some (.int .i64 u)
  s5 : w.cell? ⟨B + 1, 5, none⟩ = some (.int .i64 v)
  s6 : w.cell? ⟨B + 1, 6, none⟩ = some p
theorem boxed_box (w : World) (b b2 : Nat) (d k x y u v : Int) (p : Value) : Box w.heap.size b b2 d k x y u v p (boxed w b b2 d k x y u v p) := by
  have hs : (w.alloc (.cells #[.pointer (some ⟨b, 0, none⟩), .pointer (some ⟨b2, 0, none⟩)] 28)).heap.size = w.heap.size + 1 := by simp
  unfold boxed
  constructor
  · refine (Below.cell ((Below.refl _ _).alloc (Nat.le_refl _) _) (p := ⟨w.heap.size, 0, none⟩) (by rw [hs]; simp)).trans (World.cell?_alloc_at _ _ _ _ rfl)
  · refine (Below.cell ((Below.refl _ _).alloc (Nat.le_refl _) _) (p := ⟨w.heap.size, 1, none⟩) (by rw [hs]; simp)).trans (World.cell?_alloc_at _ _ _ _ rfl)
  all_goals
    rw [← hs]
    exact World.cell?_alloc_at _ _ _ _ rfl
theorem Box.two {B b b2 n g1 g2 : Nat} {d k x y u v : Int} {p : Value} {w w' : World} (h : Box B b b2 d k x y u v p w) (ht : Two n g1 g2 w w') (h1 : g1 < B) (h2 : g2 < B) : Box B b b2 d k x y u v p w' :=
  ⟨ht.cell h.p0 (by simp; omega) (by simp; omega), ht.cell h.p1 (by simp; omega) (by simp; omega), ht.cell h.s0 (by simp; omega) (by simp; omega), ht.cell h.s2 (by simp; omega) (by simp; omega), ht.cell h.s3 (by simp; omega) (by simp; omega),
    ht.cell h.s4 (by simp; omega) (by simp; omega), ht.cell h.s5 (by simp; omega) (by simp; omega), ht.cell h.s6 (by simp; omega) (by simp; omega)⟩
theorem boxed_below (w : World) (b b2 : Nat) (d k x y u v : Int) (p : Value) : Below w.heap.size w (boxed w b b2 d k x y u v p) := run.below_two _ _ _

theorem Box.dot {B b b2 : Nat} {d k x y u v : Int} {p : Value} {w' : World} (h : Box B b b2 d k x y u v p w') : w'.cell? ⟨B, 0, none⟩ = some (.pointer (some ⟨b, 0, none⟩)) ∧ w'.cell? ⟨B, 1, none⟩ = some (.pointer (some ⟨b2, 0, none⟩)) ∧ w'.cell? ⟨B + 1, 2, none⟩ = some (.int .i64 x) ∧ w'.cell? ⟨B + 1, 3, none⟩ = some (.int .i64 y) := ⟨h.p0, h.p1, h.s2, h.s3⟩
set_option maxRecDepth 100000 in
set_option maxHeartbeats 4000000 in
theorem step_dot (n b g b2 g2 W H : Nat) (S : Int → Int → Bool) (k x y u v : Int) (p : Value) (w : World) (hA : At w n b g b2 g2 W H S S w) :
    Calls Tryd.prog 8 #[pairV b b2, stepV 0 k x y u v p] w fun e w' => e = .returned (.bool true) ∧ At w n b g b2 g2 W H (plot S x y) (plot S x y) w' := by
  have hlt := hA.lt
  have hA1 : At w n b g b2 g2 W H S S (boxed w b b2 0 k x y u v p) := hA.next (boxed_below w b b2 0 k x y u v p)
  have HB1 := run.hid (fun w' (h : Two n g g2 (boxed w b b2 0 k x y u v p) w') => (boxed_box w b b2 0 k x y u v p).two h (by omega) (by omega))
  have b0 := boxed_box w b b2 0 k x y u v p
  have HT := run.hid hA1.two
  have s0 := b0.s0
  have hA2 := hA1.from
  clear hA hA1
  generalize hB : w.heap.size = B at *
  obtain ⟨r, hr⟩ : ∃ r, r = inside W H x y := ⟨_, rfl⟩
  have D1 := run.hid (fun (w1 w2 : World) (S R : Int → Int → Bool) (h : At w1 n b g b2 g2 W H S R w2) => dot_at h x y)
  have D2 := run.hid (fun (w1 w2 : World) (S R : Int → Int → Bool) (h : At w1 n b g b2 g2 W H S R w2) => rdot_at h x y)
  rw [← hr] at D1 D2
  clear hr
  go_enter Tryd.func8, Tryd.ntmps8
  go_upto_region 1 with fail
  unfold boxed at *
  generalize (w.alloc (.cells #[.pointer (some ⟨b, 0, none⟩), .pointer (some ⟨b2, 0, none⟩)] 28)).alloc (.cells #[.int .i64 0, .int .i64 k, .int .i64 x, .int .i64 y, .int .i64 u, .int .i64 v, p] 35) = w1 at *
  go_upto_region 3 with fail
  go_region_held3 (fun w' => w'.cell? ⟨B, 0, none⟩ = some (.pointer (some ⟨b, 0, none⟩)) ∧ w'.cell? ⟨B, 1, none⟩ = some (.pointer (some ⟨b2, 0, none⟩)) ∧ w'.cell? ⟨B + 1, 2, none⟩ = some (.int .i64 x) ∧ w'.cell? ⟨B + 1, 3, none⟩ = some (.int .i64 y))
    (first
      | assumption
      | exact (HB1.out _ hA2.drew.two).dot
      | exact (HB1.out _ hA3.two).dot
      | exact (HB1.out _ hA4.two).dot
      | go_keep
      | (trace_state; fail))
    (first
      | (go_at_call 19; refine (D1.out _ _ _ _ hA2.drew).mono ?_; rintro e w7 ⟨rfl, hA3⟩)
      | (go_at_call 28; refine (D2.out _ _ _ _ hA3).mono ?_; rintro e w8 ⟨rfl, hA4⟩))
  all_goals
    go_wp2
    go_ret
    exact ⟨rfl, hA4.mono HT.out⟩

theorem Box.has {B b b2 : Nat} {d k x y u v : Int} {p : Value} {w' : World} (h : Box B b b2 d k x y u v p w') : w'.cell? ⟨B, 0, none⟩ = some (.pointer (some ⟨b, 0, none⟩)) ∧ w'.cell? ⟨B, 1, none⟩ = some (.pointer (some ⟨b2, 0, none⟩)) ∧ w'.cell? ⟨B + 1, 2, none⟩ = some (.int .i64 x) ∧ w'.cell? ⟨B + 1, 3, none⟩ = some (.int .i64 y) := ⟨h.p0, h.p1, h.s2, h.s3⟩
set_option maxRecDepth 100000 in
set_option maxHeartbeats 4000000 in
theorem step_has (n b g b2 g2 W H : Nat) (S : Int → Int → Bool) (k x y u v : Int) (p : Value) (w : World) (hA : At w n b g b2 g2 W H S S w) :
    Calls Tryd.prog 8 #[pairV b b2, stepV 1 k x y u v p] w fun e w' => e = .returned (.bool true) ∧ At w n b g b2 g2 W H S S w' := by
  have hlt := hA.lt
  have hA1 : At w n b g b2 g2 W H S S (boxed w b b2 1 k x y u v p) := hA.next (boxed_below w b b2 1 k x y u v p)
  have HB1 := run.hid (fun w' (h : Two n g g2 (boxed w b b2 1 k x y u v p) w') => (boxed_box w b b2 1 k x y u v p).two h (by omega) (by omega))
  have b0 := boxed_box w b b2 1 k x y u v p
  have HT := run.hid hA1.two
  have s0 := b0.s0
  have hA2 := hA1.from
  clear hA hA1
  generalize hB : w.heap.size = B at *
  obtain ⟨r, hr⟩ : ∃ r, r = (inside W H x y && S x y) := ⟨_, rfl⟩
  have D1 := run.hid (fun (w1 w2 : World) (h : At w1 n b g b2 g2 W H S S w2) => has_at h x y)
  have D2 := run.hid (fun (w1 w2 : World) (h : At w1 n b g b2 g2 W H S S w2) => rhas_at h x y)
  rw [← hr] at D1 D2
  clear hr
  go_enter Tryd.func8, Tryd.ntmps8
  go_upto_region 1 with fail
  unfold boxed at *
  generalize (w.alloc (.cells #[.pointer (some ⟨b, 0, none⟩), .pointer (some ⟨b2, 0, none⟩)] 28)).alloc (.cells #[.int .i64 1, .int .i64 k, .int .i64 x, .int .i64 y, .int .i64 u, .int .i64 v, p] 35) = w1 at *
  go_upto_region 5 with fail
  go_region_held3 (fun w' => w'.cell? ⟨B, 0, none⟩ = some (.pointer (some ⟨b, 0, none⟩)) ∧ w'.cell? ⟨B, 1, none⟩ = some (.pointer (some ⟨b2, 0, none⟩)) ∧ w'.cell? ⟨B + 1, 2, none⟩ = some (.int .i64 x) ∧ w'.cell? ⟨B + 1, 3, none⟩ = some (.int .i64 y))
    (first
      | assumption
      | exact (HB1.out _ hA2.drew.two).has
      | exact (HB1.out _ hA3.two).has
      | exact (HB1.out _ hA4.two).has
      | go_keep
      | (trace_state; fail))
    (first
      | (go_at_call 22; refine (D1.out _ _ hA2.drew).mono ?_; rintro e w7 ⟨rfl, hA3⟩)
      | (go_at_call 29; refine (D2.out _ _ hA3).mono ?_; rintro e w8 ⟨rfl, hA4⟩))
  all_goals
    go_wp2
    go_ret
    exact ⟨rfl, hA4.mono HT.out⟩

theorem Box.line {B b b2 : Nat} {d k x y u v : Int} {p : Value} {w' : World} (h : Box B b b2 d k x y u v p w') : w'.cell? ⟨B, 0, none⟩ = some (.pointer (some ⟨b, 0, none⟩)) ∧ w'.cell? ⟨B, 1, none⟩ = some (.pointer (some ⟨b2, 0, none⟩)) ∧ w'.cell? ⟨B + 1, 2, none⟩ = some (.int .i64 x) ∧ w'.cell? ⟨B + 1, 3, none⟩ = some (.int .i64 y) ∧ w'.cell? ⟨B + 1, 4, none⟩ = some (.int .i64 u) ∧ w'.cell? ⟨B + 1, 5, none⟩ = some (.int .i64 v) := ⟨h.p0, h.p1, h.s2, h.s3, h.s4, h.s5⟩
set_option maxRecDepth 100000 in
set_option maxHeartbeats 4000000 in
theorem step_line (n b g b2 g2 W H : Nat) (S : Int → Int → Bool) (k x y u v : Int) (p : Value) (w : World) (hA : At w n b g b2 g2 W H S S w) :
    Calls Tryd.prog 8 #[pairV b b2, stepV 2 k x y u v p] w fun e w' => e = .returned (.bool true) ∧ At w n b g b2 g2 W H (lineS S x y u v) (lineS S x y u v) w' := by
  have hlt := hA.lt
  have hA1 : At w n b g b2 g2 W H S S (boxed w b b2 2 k x y u v p) := hA.next (boxed_below w b b2 2 k x y u v p)
  have HB1 := run.hid (fun w' (h : Two n g g2 (boxed w b b2 2 k x y u v p) w') => (boxed_box w b b2 2 k x y u v p).two h (by omega) (by omega))
  have b0 := boxed_box w b b2 2 k x y u v p
  have HT := run.hid hA1.two
  have s0 := b0.s0
  have hA2 := hA1.from
  clear hA hA1
  generalize hB : w.heap.size = B at *
  obtain ⟨r, hr⟩ : ∃ r, r = (if lineIn x y u v then (0 : Int) else 2) := ⟨_, rfl⟩
  have D1 := run.hid (fun (w1 w2 : World) (S R : Int → Int → Bool) (h : At w1 n b g b2 g2 W H S R w2) => line_at h x y u v)
  have D2 := run.hid (fun (w1 w2 : World) (S R : Int → Int → Bool) (h : At w1 n b g b2 g2 W H S R w2) => rline_at h x y u v)
  rw [← hr] at D1 D2
  clear hr
  go_enter Tryd.func8, Tryd.ntmps8
  go_upto_region 1 with fail
  unfold boxed at *
  generalize (w.alloc (.cells #[.pointer (some ⟨b, 0, none⟩), .pointer (some ⟨b2, 0, none⟩)] 28)).alloc (.cells #[.int .i64 2, .int .i64 k, .int .i64 x, .int .i64 y, .int .i64 u, .int .i64 v, p] 35) = w1 at *
  go_upto_region 7 with fail
  go_region_held3 (fun w' => w'.cell? ⟨B, 0, none⟩ = some (.pointer (some ⟨b, 0, none⟩)) ∧ w'.cell? ⟨B, 1, none⟩ = some (.pointer (some ⟨b2, 0, none⟩)) ∧ w'.cell? ⟨B + 1, 2, none⟩ = some (.int .i64 x) ∧ w'.cell? ⟨B + 1, 3, none⟩ = some (.int .i64 y) ∧ w'.cell? ⟨B + 1, 4, none⟩ = some (.int .i64 u) ∧ w'.cell? ⟨B + 1, 5, none⟩ = some (.int .i64 v))
    (first
      | assumption
      | exact (HB1.out _ hA2.drew.two).line
      | exact (HB1.out _ hA3.two).line
      | exact (HB1.out _ hA4.two).line
      | go_keep
      | (trace_state; fail))
    (first
      | (go_at_call 20; refine (D1.out _ _ _ _ hA2.drew).mono ?_; rintro e w7 ⟨rfl, hA3⟩)
      | (go_at_call 30; refine (D2.out _ _ _ _ hA3).mono ?_; rintro e w8 ⟨rfl, hA4⟩))
  all_goals
    go_wp2
    go_ret
    exact ⟨rfl, hA4.mono HT.out⟩

theorem Box.circ {B b b2 : Nat} {d k x y u v : Int} {p : Value} {w' : World} (h : Box B b b2 d k x y u v p w') : w'.cell? ⟨B, 0, none⟩ = some (.pointer (some ⟨b, 0, none⟩)) ∧ w'.cell? ⟨B, 1, none⟩ = some (.pointer (some ⟨b2, 0, none⟩)) ∧ w'.cell? ⟨B + 1, 2, none⟩ = some (.int .i64 x) ∧ w'.cell? ⟨B + 1, 3, none⟩ = some (.int .i64 y) ∧ w'.cell? ⟨B + 1, 4, none⟩ = some (.int .i64 u) := ⟨h.p0, h.p1, h.s2, h.s3, h.s4⟩
set_option maxRecDepth 100000 in
set_option maxHeartbeats 4000000 in
theorem step_circ (n b g b2 g2 W H : Nat) (S : Int → Int → Bool) (k x y u v : Int) (p : Value) (w : World) (hA : At w n b g b2 g2 W H S S w) :
    Calls Tryd.prog 8 #[pairV b b2, stepV 3 k x y u v p] w fun e w' => e = .returned (.bool true) ∧ At w n b g b2 g2 W H (circS S x y u) (circS S x y u) w' := by
  have hlt := hA.lt
  have hA1 : At w n b g b2 g2 W H S S (boxed w b b2 3 k x y u v p) := hA.next (boxed_below w b b2 3 k x y u v p)
  have HB1 := run.hid (fun w' (h : Two n g g2 (boxed w b b2 3 k x y u v p) w') => (boxed_box w b b2 3 k x y u v p).two h (by omega) (by omega))
  have b0 := boxed_box w b b2 3 k x y u v p
  have HT := run.hid hA1.two
  have s0 := b0.s0
  have hA2 := hA1.from
  clear hA hA1
  generalize hB : w.heap.size = B at *
  obtain ⟨r, hr⟩ : ∃ r, r = (if circIn x y u then (0 : Int) else 2) := ⟨_, rfl⟩
  have D1 := run.hid (fun (w1 w2 : World) (S R : Int → Int → Bool) (h : At w1 n b g b2 g2 W H S R w2) => circle_at h x y u)
  have D2 := run.hid (fun (w1 w2 : World) (S R : Int → Int → Bool) (h : At w1 n b g b2 g2 W H S R w2) => rcircle_at h x y u)
  rw [← hr] at D1 D2
  clear hr
  go_enter Tryd.func8, Tryd.ntmps8
  go_upto_region 1 with fail
  unfold boxed at *
  generalize (w.alloc (.cells #[.pointer (some ⟨b, 0, none⟩), .pointer (some ⟨b2, 0, none⟩)] 28)).alloc (.cells #[.int .i64 3, .int .i64 k, .int .i64 x, .int .i64 y, .int .i64 u, .int .i64 v, p] 35) = w1 at *
  go_upto_region 9 with fail
  go_region_held3 (fun w' => w'.cell? ⟨B, 0, none⟩ = some (.pointer (some ⟨b, 0, none⟩)) ∧ w'.cell? ⟨B, 1, none⟩ = some (.pointer (some ⟨b2, 0, none⟩)) ∧ w'.cell? ⟨B + 1, 2, none⟩ = some (.int .i64 x) ∧ w'.cell? ⟨B + 1, 3, none⟩ = some (.int .i64 y) ∧ w'.cell? ⟨B + 1, 4, none⟩ = some (.int .i64 u))
    (first
      | assumption
      | exact (HB1.out _ hA2.drew.two).circ
      | exact (HB1.out _ hA3.two).circ
      | exact (HB1.out _ hA4.two).circ
      | go_keep
      | (trace_state; fail))
    (first
      | (go_at_call 21; refine (D1.out _ _ _ _ hA2.drew).mono ?_; rintro e w7 ⟨rfl, hA3⟩)
      | (go_at_call 31; refine (D2.out _ _ _ _ hA3).mono ?_; rintro e w8 ⟨rfl, hA4⟩))
  all_goals
    go_wp2
    go_ret
    exact ⟨rfl, hA4.mono HT.out⟩

set_option maxRecDepth 100000 in
set_option maxHeartbeats 4000000 in
theorem step_rows (n b g b2 g2 W H : Nat) (S : Int → Int → Bool) (k x y u v : Int) (p : Value) (w : World) (hA : At w n b g b2 g2 W H S S w) :
    Calls Tryd.prog 8 #[pairV b b2, stepV 5 k x y u v p] w fun e w' => e = .returned (.bool true) ∧ At w n b g b2 g2 W H S S w' := by
  have hlt := hA.lt
  have hA1 : At w n b g b2 g2 W H S S (boxed w b b2 5 k x y u v p) := hA.next (boxed_below w b b2 5 k x y u v p)
  have b0 := boxed_box w b b2 5 k x y u v p
  have HT := run.hid hA1.two
  have s0 := b0.s0
  have p0 := b0.p0
  have p1 := b0.p1
  have HA2 := run.hid hA1.from
  clear hA hA1 b0
  generalize hB : w.heap.size = B at *
  go_enter Tryd.func8, Tryd.ntmps8
  go_upto_region 1 with fail
  unfold boxed at *
  generalize (w.alloc (.cells #[.pointer (some ⟨b, 0, none⟩), .pointer (some ⟨b2, 0, none⟩)] 28)).alloc (.cells #[.int .i64 5, .int .i64 k, .int .i64 x, .int .i64 y, .int .i64 u, .int .i64 v, p] 35) = w1 at *
  go_wp2_with fail
  refine (rows_at HA2.out).mono ?_
  rintro e w2 ⟨rfl, hA3⟩
  go_wp2
  go_ret
  exact ⟨rfl, hA3.mono HT.out⟩

set_option maxRecDepth 100000 in
set_option maxHeartbeats 4000000 in
theorem step_other (n b g b2 g2 W H : Nat) (S : Int → Int → Bool) (d k x y u v : Int) (p : Value) (w : World) (hA : At w n b g b2 g2 W H S S w) (hd : d < 0 ∨ 6 < d) :
    Calls Tryd.prog 8 #[pairV b b2, stepV d k x y u v p] w fun e w' => e = .returned (.bool true) ∧ At w n b g b2 g2 W H S S w' := by
  have hA1 : At w n b g b2 g2 W H S S (boxed w b b2 d k x y u v p) := hA.next (boxed_below w b b2 d k x y u v p)
  have b0 := boxed_box w b b2 d k x y u v p
  have s0 := b0.s0
  have q0 : ¬ d = 0 := by omega
  have q1 : ¬ d = 1 := by omega
  have q2 : ¬ d = 2 := by omega
  have q3 : ¬ d = 3 := by omega
  have q4 : ¬ d = 4 := by omega
  have q5 : ¬ d = 5 := by omega
  have q6 : ¬ d = 6 := by omega
  have HA2 := run.hid hA1
  clear hA hA1 b0 hd
  go_enter Tryd.func8, Tryd.ntmps8
  go_upto_region 1 with fail
  unfold boxed at *
  generalize (w.alloc (.cells #[.pointer (some ⟨b, 0, none⟩), .pointer (some ⟨b2, 0, none⟩)] 28)).alloc (.cells #[.int .i64 d, .int .i64 k, .int .i64 x, .int .i64 y, .int .i64 u, .int .i64 v, p] 35) = w1 at *
  go_wp2
  go_ret
  exact ⟨rfl, HA2.out⟩
end Go.Proofs.YtbfheehaagcmeaaDoor.can
namespace Go.Proofs.YtbfheehaagcmeaaDoor.can
open Go.RowKit Go.Proofs
set_option linter.unusedVariables false

set_option maxHeartbeats 400000 in
theorem path_nil (w : World) : Calls Tryd.prog 34 #[.pointer none, .slice none 0 0] w fun e w' => e = .returned (.int .i64 1) ∧ w = w' := by
  go_enter Tryd.func34, Tryd.ntmps34
  go_wp2
  go_ret
  exact ⟨rfl, rfl⟩

set_option maxRecDepth 100000 in
set_option maxHeartbeats 8000000 in
theorem step_none (n b g b2 g2 W H : Nat) (S : Int → Int → Bool) (k x y u v : Int) (p : Value) (w : World) (hA : At w n b g b2 g2 W H S S w) :
    Calls Tryd.prog 8 #[pairV b b2, stepV 6 k x y u v p] w fun e w' => e = .returned (.bool true) ∧ At w n b g b2 g2 W H S S w' := by
  have hlt := hA.lt
  have hA1 : At w n b g b2 g2 W H S S (boxed w b b2 6 k x y u v p) := hA.next (boxed_below w b b2 6 k x y u v p)
  have b0 := boxed_box w b b2 6 k x y u v p
  have s0 := b0.s0
  have s2 := b0.s2
  have s3 := b0.s3
  have s4 := b0.s4
  have s5 := b0.s5
  have HA2 := run.hid hA1
  have N0 := run.hid (fun w => size_nil w)
  have N1 := run.hid (fun w => line_nil x y u v w)
  have N2 := run.hid (fun w => circle_nil x y u w)
  have N3 := run.hid (fun w => path_nil w)
  have N4 := run.hid (fun w => dot_nil x y w)
  have N5 := run.hid (fun w => has_nil x y w)
  have N6 := run.hid (fun w => rows_nil w)
  clear hA hA1 b0 hlt
  generalize hB : w.heap.size = B at *
  go_enter Tryd.func8, Tryd.ntmps8
  go_upto_region 1 with fail
  unfold boxed at *
  generalize (w.alloc (.cells #[.pointer (some ⟨b, 0, none⟩), .pointer (some ⟨b2, 0, none⟩)] 28)).alloc (.cells #[.int .i64 6, .int .i64 k, .int .i64 x, .int .i64 y, .int .i64 u, .int .i64 v, p] 35) = w1 at *
  go_wp2_with fail
  refine (N0.out _).mono ?_
  rintro e w2 ⟨rfl, rfl⟩
  go_wp2_with fail
  refine (N1.out _).mono ?_
  rintro e w2 ⟨rfl, rfl⟩
  go_wp2_with fail
  refine (N2.out _).mono ?_
  rintro e w2 ⟨rfl, rfl⟩
  go_wp2_with fail
  refine (N3.out _).mono ?_
  rintro e w2 ⟨rfl, rfl⟩
  go_wp2_with fail
  refine (N4.out _).mono ?_
  rintro e w2 ⟨rfl, rfl⟩
  go_wp2_with fail
  refine (N5.out _).mono ?_
  rintro e w2 ⟨rfl, rfl⟩
  go_wp2_with fail
  refine (N6.out _).mono ?_
  rintro e w2 ⟨rfl, rfl⟩
  go_wp2
  go_ret
  exact ⟨rfl, HA2.out⟩
end Go.Proofs.YtbfheehaagcmeaaDoor.can
namespace Go.Proofs.YtbfheehaagcmeaaDoor.can
open Go.RowKit Go.Proofs Go.Proofs.YtbfheehaagcmeaaDoor.flo
set_option linter.unusedVariables false

theorem own_emptyC {W : World} {B X : Nat} (h : W.heap[X]? = some (.cells #[] 44 (0, 0))) (hB : B ≤ X) : W.ownsRow B 44 1 (.slice (some ⟨X, 0, none⟩) 0 0) 0 [] :=
  ⟨rfl, .inr ⟨X, 0, #[], rfl, hB, h, Nat.le_refl _, by unfold maxLen; omega, rfl, rfl⟩⟩
theorem own_room {w : World} {B e sz n cap g : Nat} {xs : List Value} (h : w.ownsRow B e sz (.slice (some ⟨g, 0, none⟩) n cap) n xs) : n ≤ cap ∧ cap ≤ 9223372036854775807 := by
  rcases h.2 with ⟨h0, -⟩ | ⟨g', cap', cur, h0, -, -, h1, h2, -⟩
  · simp at h0
  · simp only [Value.slice.injEq] at h0
    obtain ⟨-, -, rfl⟩ := h0
    exact ⟨h1, h2⟩
theorem map_at {pa : List (Nat × Nat)} {k j : Nat} (hl : pa.length = k) (hj : j < k) : (pa.map C)[j]? = some (C (pa.getD j (0, 0))) := by
  simp [List.getD_eq_getElem?_getD, List.getElem?_eq_getElem (show j < pa.length by omega)]
theorem long_at {l : List (Nat × Nat)} {k j : Nat} (hl : l.length = k) (hj : j < k) : (l.map C ++ List.replicate 9 (C seven))[j]? = some (C (l.getD j (0, 0))) := by
  rw [List.getElem?_append_left (by simp; omega)]
  exact map_at hl hj
theorem long_at2 {l : List (Nat × Nat)} {k j : Nat} (hl : l.length = k) (hj : k ≤ j) (hj2 : j < k + 9) : (l.map C ++ List.replicate 9 (C seven))[j]? = some (C seven) := by
  rw [List.getElem?_append_right (by simp; omega)]
  rw [List.getElem?_replicate, if_pos (by simp; omega)]

theorem own_two {m g1 g2 : Nat} {w w' : World} {B e sz n : Nat} {v : Value} {xs : List Value} (h : w.ownsRow B e sz v n xs) (ht : Two m g1 g2 w w') (h1 : g1 < B) (h2 : g2 < B) : w'.ownsRow B e sz v n xs := by
  obtain ⟨hl, h⟩ := h
  refine ⟨hl, ?_⟩
  rcases h with h | ⟨g, cap, cur, hv, hg, hh, r⟩
  · exact .inl h
  · have hlt : g < w.heap.size := by
      rcases Nat.lt_or_ge g w.heap.size with h5 | h5
      · exact h5
      · simp [Array.getElem?_eq_none h5] at hh
    exact .inr ⟨g, cap, cur, hv, hg, (ht.block g hlt (by omega) (by omega)).trans hh, r⟩
section
variable {w0 w w' : World} {n b g b2 g2 W H : Nat} {S R : Int → Int → Bool}
theorem path_at (h : At w0 n b g b2 g2 W H S R w) (l : List (Nat × Nat)) (a : Option Addr) (cap : Nat) (hR : ∀ k, k < l.length → ∃ pb off, a = some ⟨pb, off, none⟩ ∧ pb ≠ g ∧ w.cell? ⟨pb, off + k, none⟩ = some (C (l.getD k (0, 0)))) (hlen : l.length ≤ 140737488355328) :
    Calls Tryd.prog 34 #[.pointer (some ⟨b, 0, none⟩), .slice a l.length cap] w fun e w' => e = .returned (.int .i64 0) ∧ At w0 n b g b2 g2 W H (pathT (none, S) l).2 R w' ∧ Two n g g2 w w' :=
  (path_any n b g W H S l a cap w h.low h.dots h.c hR hlen).mono fun e w' ⟨he, hc, hg⟩ => ⟨he, h.draw hc hg, .of_one hg h.le h.c.2.1⟩
theorem rpath_at (h : At w0 n b g b2 g2 W H S R w) (l : List (Nat × Nat)) (v : Value) (hR : run.ReadsN 2 w v l.length (cellsP l)) (hlen : l.length * 16 ≤ 140737488355328) :
    Calls Tryd.prog 32 #[.pointer (some ⟨b2, 0, none⟩), v] w fun e w' => e = .returned (.tuple #[]) ∧ At w0 n b g b2 g2 W H S (pathT (none, R) l).2 w' ∧ Two n g g2 w w' := by
  obtain ⟨hl, a0, c0, rfl, hh⟩ := hR
  refine (rpath_any n b2 g2 W H R l a0 c0 w h.r ⟨hl, a0, c0, rfl, hh⟩ hlen).mono ?_
  rintro e w' ⟨he, hc, w1, hb, hg⟩
  exact ⟨he, (h.next hb).rdraw hc hg, (Two.of_below hb h.le).trans (.of_two hg (h.next hb).le h.r.2.1)⟩
end
theorem Box.path {B b b2 : Nat} {d k x y u v : Int} {p : Value} {w' : World} (h : Box B b b2 d k x y u v p w') : w'.cell? ⟨B, 1, none⟩ = some (.pointer (some ⟨b2, 0, none⟩)) ∧ w'.cell? ⟨B + 1, 6, none⟩ = some p := ⟨h.p1, h.s6⟩

set_option maxRecDepth 100000 in
set_option maxHeartbeats 8000000 in
theorem step_path (n b g b2 g2 W H : Nat) (S : Int → Int → Bool) (k x y u v : Int) (l : List (Nat × Nat)) (a : Option Addr) (cap : Nat) (w : World) (hA : At w n b g b2 g2 W H S S w)
    (hR : run.ReadsN 2 w (.slice a l.length cap) l.length (cellsP l)) (hlen : l.length * 16 ≤ 140737488351232) :
    Calls Tryd.prog 8 #[pairV b b2, stepV 4 k x y u v (.slice a l.length cap)] w fun e w' => e = .returned (.bool true) ∧ At w n b g b2 g2 W H (pathT (none, S) l).2 (pathT (none, S) l).2 w' := by
  obtain ⟨i, hi, hz0, hz1, hz2⟩ := info_parts info_c128
  obtain ⟨N, hN⟩ : ∃ N, N = l.length := ⟨_, rfl⟩
  have HP := run.hid (fun w' (hb : Below w.heap.size w w') => points_any l a cap w' (hR.below hb) (by omega))
  have HPL := run.hid (fun w' (hb : Below w.heap.size w w') => plain_any l a cap w' (hR.below hb) (by omega))
  have hlt := hA.lt
  have HLE := run.hid hA.le
  have HBD := run.hid (boxed_below w b b2 4 k x y u v (.slice a l.length cap))
  have hsz : (boxed w b b2 4 k x y u v (.slice a l.length cap)).heap.size = w.heap.size + 2 := by unfold boxed; simp
  have HA1 : Hid (At w n b g b2 g2 W H S S (boxed w b b2 4 k x y u v (.slice a l.length cap))) := hA.next HBD.out
  have HB1 := run.hid (fun w' (h : Two n g g2 (boxed w b b2 4 k x y u v (.slice a l.length cap)) w') => (boxed_box w b b2 4 k x y u v (.slice a l.length cap)).two h (by omega) (by omega))
  have HPT := run.hid (fun w1 w2 S R (h : At w1 n b g b2 g2 W H S R w2) (v : Value) (hr : run.ReadsN 2 w2 v l.length (cellsP l)) => rpath_at h l v hr (by omega))
  have HCT := run.hid (fun w1 w2 S R (h : At w1 n b g b2 g2 W H S R w2) => path_at h l)
  have b0 := boxed_box w b b2 4 k x y u v (.slice a l.length cap)
  have s0 := b0.s0
  have s6 := b0.s6
  generalize hP : (pathT (none, S) l).2 = P' at *
  rw [← hN] at HP HPL hlen HBD hsz HA1 HB1 HPT HCT s0 s6 ⊢
  have HN := run.hid hN
  have hNl : N ≤ 8796093022208 := by omega
  have HLEN := run.hid hlen
  have HPP := run.hid hP
  clear hN hR hlen hA b0 hP
  generalize hB : w.heap.size = B at *
  have HLT := run.hid hlt
  have hgB : g < B := by omega
  have hg2B : g2 < B := by omega
  go_enter Tryd.func8, Tryd.ntmps8
  go_upto_region 1 with fail
  unfold boxed at *
  generalize (w.alloc (.cells #[.pointer (some ⟨b, 0, none⟩), .pointer (some ⟨b2, 0, none⟩)] 28)).alloc (.cells #[.int .i64 4, .int .i64 k, .int .i64 x, .int .i64 y, .int .i64 u, .int .i64 v, .slice a N cap] 35) = w1 at *
  go_wp2_with fail
  refine (HP.out _ HBD.out).mono ?_
  rintro e w3 ⟨vM, rfl, hM, hb3⟩
  have HM := run.hid hM
  have HB3 := run.hid hb3
  have hs3 := hb3.size
  clear hM hb3
  generalize hs3z : w3.heap.size = B3 at *
  go_wp2_with (at_builtin; refine run.wpList_append_any _ rfl _ _ 41 rfl B3 44 i (.complex .f64 0 0) 1 16 Tryd.underlying41 hi hz0 hz1 hz2 rfl (by decide) _ _ _ rfl (own_emptyC (by rw [← hs3z]; exact run.heap_new w3 (.cells #[] 44)) (Nat.le_refl _)) vM N (l.map C) rfl (run.readsN_own (HM.out.alloc (.cells #[] 44))) (by intro u hu; obtain ⟨p, -, rfl⟩ := List.mem_map.1 hu; rfl) (by unfold maxLen; omega) (by have := HLEN.out; omega) (by simp; omega) ?_)
  intro v' w6 hown6 hgrow hold hstep
  have HL : Hid (w6.ownsRow B3 44 1 v' (N + 0) (l.map C ++ List.replicate 0 (C seven))) := by
    show World.ownsRow _ _ _ _ _ _ _
    rw [List.replicate_zero, List.append_nil, Nat.add_zero]
    exact hown6
  have HB6 : Hid (Below B3 w3 w6) := by
    have h1 := (Below.refl B3 w3).alloc (Nat.le_of_eq hs3z.symm) (.cells #[] 44)
    exact run.below_append h1 (own_emptyC (by rw [← hs3z]; exact run.heap_new w3 (.cells #[] 44)) (Nat.le_refl _)) hgrow (by simp; omega)
  clear hown6 hgrow hold hstep
  have hs6 := HB6.out.size
  go_wp2
  go_loopw [6, 7] (fun v kv wr => ∃ k : Nat, k ≤ 9 ∧ kv = .int .i64 k ∧ Hid (wr.ownsRow B3 44 1 v (N + k) (l.map C ++ List.replicate k (C seven))) ∧ Hid (Below B3 w3 wr)) (fun _ v _ => 9 - (intOf v).toNat)
  case atStart => exact ⟨0, Nat.zero_le _, rfl, HL, HB6⟩
  case round =>
    obtain ⟨k, hk, rfl, HO, HBk⟩ := hrel
    have hsr := HBk.out.size
    by_cases hlt : k < 9
    · go_wp2_with (at_builtin; refine run.wpList_append_any _ rfl _ _ 41 rfl B3 44 i (.complex .f64 0 0) 1 16 Tryd.underlying41 hi hz0 hz1 hz2 rfl (by decide) _ _ _ rfl (HO.out.alloc _) _ 1 [C seven] rfl (run.readsN_new wr [C seven] 1 1 _ rfl) (by intro u hu; simp only [List.mem_singleton] at hu; subst hu; rfl) (by unfold maxLen; omega) (by have := HLEN.out; omega) (by simp; omega) ?_)
      intro v8 w8 hown8 hgrow hold hstep
      have HO8 : Hid (w8.ownsRow B3 44 1 v8 (N + (k + 1)) (l.map C ++ List.replicate (k + 1) (C seven))) := by
        show World.ownsRow _ _ _ _ _ _ _
        rw [List.replicate_succ']
        exact hown8
      have HB8 := run.hid (run.below_append (HBk.out.alloc (by omega) _) (HO.out.alloc (.cells #[C seven] 44)) hgrow (by simp; omega))
      clear hown8 hgrow hold hstep HO HBk
      go_wp2
      go_roundw
      case rel => exact ⟨k + 1, by omega, by go_num, HO8, HB8⟩
      case measure => simp [intOf]; omega
    · obtain rfl : k = 9 := by omega
      obtain ⟨gL, cL, rfl⟩ := own_some HO.out (by omega)
      have HROOM := own_room HO.out
      rw [show ((9 : Nat) : Int) = 9 from rfl]
      generalize wr = w4 at *
      have HX := run.hid (HB3.out.trans (HBk.out.mono (by omega)))
      have HM4 := run.hid (run.own_below HM.out (by rw [hs3z]; exact HBk.out))
      have HA4 : Hid (At w n b g b2 g2 W H S S w4) := HA1.out.next HX.out
      have HTW : Hid (Two n g g2 w1 w4) := Two.of_below HX.out (by have := HLE.out; omega)
      have HBW : Hid (Below B w w4) := HBD.out.trans (HX.out.mono (by omega))
      have hs4 := HX.out.size
      have HPL4 : Hid (∀ w', Below w4.heap.size w4 w' → Calls Tryd.prog 33 #[.slice a N cap] w' fun e w'' => ∃ v, e = .returned v ∧ run.ReadsN 2 w'' v N (cellsP l) ∧ At w n b g b2 g2 W H S S w'' ∧ Two n g g2 w4 w'') := by
        intro w' hb
        refine (HPL.out w' (HBW.out.trans (hb.mono (by omega)))).mono ?_
        rintro e w'' ⟨v, he, ho, hb2⟩
        exact ⟨v, he, run.readsN_own ho, (HA4.out.next hb).next hb2, (Two.of_below hb HA4.out.le).trans (.of_below hb2 (HA4.out.next hb).le)⟩
      have hd4 : Below w4.heap.size w4 w4.drew := (Below.refl _ _).drew
      have KB := run.hid (fun w' (h : Two n g g2 w4 w') => (HB1.out _ (HTW.out.trans h)).path)
      have HT4 : Hid (Two n g g2 w4 w4.drew) := Two.of_below hd4 HA4.out.le
      obtain ⟨aM, cM, rfl⟩ := run.own_value HM4.out
      clear s0 s6 HP HPL HM HB3 HBk HL HB6
      go_upto_region 17 with fail
      go_region_held3 (fun w' => w'.cell? ⟨B, 1, none⟩ = some (.pointer (some ⟨b2, 0, none⟩)) ∧ w'.cell? ⟨B + 1, 6, none⟩ = some (.slice a N cap))
        (first
          | assumption
          | exact KB.out _ HT4.out
          | exact KB.out _ hT7
          | exact KB.out _ (hT7.trans hT8)
          | go_keep
          | (trace_state; fail))
        (first
          | (go_at_call 33; refine (HPL4.out _ hd4).mono ?_; rintro e w7 ⟨v7, rfl, hown7, hA7, hT7⟩)
          | (go_at_call 32; refine (HPT.out _ _ _ _ hA7 _ hown7).mono ?_; rintro e w8 ⟨rfl, hA8, hT8⟩))
      have HA8 := run.hid hA8
      have HT8 : Hid (Two n g g2 w4 w8) := hT7.trans hT8
      have HO8 := run.hid (own_two HO.out HT8.out (by omega) (by omega))
      have HM8 := run.hid (own_two HM4.out HT8.out (by omega) (by omega))
      have hgL := (HO8.out.lt gL rfl).1
      have hp0 : w8.drew.cell? ⟨B, 0, none⟩ = some (.pointer (some ⟨b, 0, none⟩)) := (HB1.out _ (HTW.out.trans HT8.out)).p0
      have hRd : ∀ k, k < N → ∃ pb off, (some ⟨gL, 0, none⟩ : Option Addr) = some ⟨pb, off, none⟩ ∧ pb ≠ g ∧ w8.drew.cell? ⟨pb, off + k, none⟩ = some (C (l.getD k (0, 0))) := fun k hk =>
        ⟨gL, 0, rfl, by omega, by
          have h1 := (HO8.out.cellAt k (by omega)).trans (long_at HN.out.symm hk)
          rw [Nat.zero_add]
          exact h1⟩
      have HCTd := run.hid (HCT.out _ _ _ _ HA8.out.drew (some ⟨gL, 0, none⟩) cL hRd (by omega))
      obtain ⟨hR1, hR2⟩ := HROOM
      have c1 : (0 : Int) ≤ (N : Int) := by omega
      have c2 : (N : Int) ≤ (cL : Int) := by omega
      clear hRd hA8 hown7 hA7 hT8 hT7 HPT HPL4 HA4 HTW KB HT4 hd4 HBW HB1 HCT
      go_wp2_with fail
      go_upto_region 18 with fail
      go_region_held3 (fun w' => w'.cell? ⟨B, 0, none⟩ = some (.pointer (some ⟨b, 0, none⟩)))
        (first
          | assumption
          | exact hp9
          | go_keep
          | (trace_state; fail))
        (first
          | (go_at_call 34; refine HCTd.out.mono ?_; rintro e w9 ⟨rfl, hA9, hT9⟩; have hp9 := (hT9.cell (a := ⟨B, 0, none⟩) hp0 (by simp; omega) (by simp; omega))))
      have HA9 : Hid (At w n b g b2 g2 W H P' P' w9) := by
        have h1 := hA9
        rw [HPP.out] at h1
        exact h1
      have HT9 : Hid (Two n g g2 w8 w9) := (Two.of_below (Below.refl _ _).drew HA8.out.le).trans hT9
      have HL9 := run.hid (own_two HO8.out HT9.out (by omega) (by omega))
      have HM9 := run.hid (own_two HM8.out HT9.out (by omega) (by omega))
      have HLL : Hid (∀ (w' : World) (m : Nat), Calls Tryd.prog 35 #[C (l.getD m (0, 0)), C (l.getD m (0, 0))] w' fun e w'' => e = .returned (.bool true) ∧ w'' = w') := by
        intro w' m
        refine (alike_any _ _ w').mono ?_
        rintro e w'' ⟨rfl, rfl⟩
        exact ⟨by rw [alikeC_of rfl], rfl⟩
      clear hA9 hT9 hp9 hp0 HCTd HA8 HT8 HO8 HM8 HO HM4 HA1 HX HBD hsr hs4 hs6 hs3 hs3z hR1 hR2
      generalize N = j at *
      go_wp2
      go_loopw [9] (fun kv wx => ∃ m : Nat, m ≤ j + 9 ∧ kv = .int .i64 m ∧ Hid (Below w9.heap.size w9 wx)) (fun v _ => j + 9 - (intOf v).toNat)
      case atStart => exact ⟨0, Nat.zero_le _, rfl, run.hid (Below.refl _ _)⟩
      case round =>
        obtain ⟨m, hm, rfl, HBw⟩ := hrel
        by_cases hltm : m < j + 9
        · have HLr := run.own_below HL9.out HBw.out
          by_cases hin : m < j
          · obtain ⟨gM, cM, hM⟩ := own_some HM9.out (by omega)
            cases hM
            have hcl := (HLr.cellAt m (by omega)).trans (long_at HN.out.symm hin)
            have hcm := ((run.own_below HM9.out HBw.out).cellAt m (by omega)).trans (map_at HN.out.symm hin)
            have HLLm := run.hid (fun w' => HLL.out w' m)
            generalize l.getD m (0, 0) = pm at *
            obtain ⟨pm1, pm2⟩ := pm
            clear HLr
            generalize wr = wq at *
            have hni : ¬ j ≤ m := by omega
            go_upto_region 22 with fail
            go_cut [157] (fun c wx => c = .bool false ∧ ∃ n, wx = wq.drewN n)
            case first =>
              refine run.alone (by assumption) (by assumption) ?_
              go_light
              intro _ _ _ _
              go_quiet ((go_at_call 35; exact Calls.quiet_of_same (HLLm.out _)))
              go_wp2
              go_meet
              case rel => exact ⟨rfl, nq, rfl⟩
            obtain ⟨rfl, nq, rfl⟩ := hcut
            have HBy : Hid (Below w9.heap.size w9 (wq.drewN nq)) := run.hid (HBw.out.trans (drewN_below _ _ _))
            clear hcl hcm HLLm HBw
            go_wp2
            go_roundw
            case rel => exact ⟨m + 1, by omega, by go_num, HBy⟩
            case measure => simp [intOf]; omega
          · have hcl : wr.cell? ⟨gL, m, none⟩ = some (.complex .f64 4619567317775286272 0) := by
              have h1 := (HLr.cellAt m (by omega)).trans (long_at2 HN.out.symm (by omega) hltm)
              exact h1
            have e1 := neq_seven 44
            clear HLr
            generalize wr = wq at *
            have hni : j ≤ m := by omega
            go_upto_region 22 with fail
            go_cut [157] (fun c wx => c = .bool false ∧ ∃ n, wx = wq.drewN n)
            case first =>
              refine run.alone (by assumption) (by assumption) ?_
              go_light
              intro _ _ _ _
              go_quiet (fail)
              go_wp2
              go_meet
              case rel => exact ⟨rfl, nq, rfl⟩
            obtain ⟨rfl, nq, rfl⟩ := hcut
            have HBy : Hid (Below w9.heap.size w9 (wq.drewN nq)) := run.hid (HBw.out.trans (drewN_below _ _ _))
            clear hcl HBw
            go_wp2
            go_roundw
            case rel => exact ⟨m + 1, by omega, by go_num, HBy⟩
            case measure => simp [intOf]; omega
        · obtain rfl : m = j + 9 := by omega
          go_wp2
          go_ret
          exact ⟨rfl, HA9.out.next HBw.out⟩
end Go.Proofs.YtbfheehaagcmeaaDoor.can
namespace Go.Proofs.YtbfheehaagcmeaaDoor.can
open Go.RowKit Go.Proofs
set_option linter.unusedVariables false

theorem steps_any (n b g b2 g2 W H : Nat) (S : Int → Int → Bool) (d k x y u v : Int) (l : List (Nat × Nat)) (a : Option Addr) (cap : Nat) (w : World) (hA : At w n b g b2 g2 W H S S w)
    (hR : run.ReadsN 2 w (.slice a l.length cap) l.length (cellsP l)) (hlen : l.length * 16 ≤ 140737488351232) :
    Calls Tryd.prog 8 #[pairV b b2, stepV d k x y u v (.slice a l.length cap)] w fun e w' => e = .returned (.bool true) ∧ ∃ S', At w n b g b2 g2 W H S' S' w' := by
  by_cases q0 : d = 0
  · subst q0
    exact (step_dot n b g b2 g2 W H S k x y u v _ w hA).mono fun e w' ⟨he, h⟩ => ⟨he, _, h⟩
  by_cases q1 : d = 1
  · subst q1
    exact (step_has n b g b2 g2 W H S k x y u v _ w hA).mono fun e w' ⟨he, h⟩ => ⟨he, _, h⟩
  by_cases q2 : d = 2
  · subst q2
    exact (step_line n b g b2 g2 W H S k x y u v _ w hA).mono fun e w' ⟨he, h⟩ => ⟨he, _, h⟩
  by_cases q3 : d = 3
  · subst q3
    exact (step_circ n b g b2 g2 W H S k x y u v _ w hA).mono fun e w' ⟨he, h⟩ => ⟨he, _, h⟩
  by_cases q4 : d = 4
  · subst q4
    exact (step_path n b g b2 g2 W H S k x y u v l a cap w hA hR hlen).mono fun e w' ⟨he, h⟩ => ⟨he, _, h⟩
  by_cases q5 : d = 5
  · subst q5
    exact (step_rows n b g b2 g2 W H S k x y u v _ w hA).mono fun e w' ⟨he, h⟩ => ⟨he, _, h⟩
  by_cases q6 : d = 6
  · subst q6
    exact (step_none n b g b2 g2 W H S k x y u v _ w hA).mono fun e w' ⟨he, h⟩ => ⟨he, _, h⟩
  exact (step_other n b g b2 g2 W H S d k x y u v _ w hA (by omega)).mono fun e w' ⟨he, h⟩ => ⟨he, _, h⟩
end Go.Proofs.YtbfheehaagcmeaaDoor.can
namespace Go.Proofs.YtbfheehaagcmeaaDoor.can
open Go.RowKit Go.Proofs
set_option linter.unusedVariables false

/-- a pair of canvases whose blocks lie from lo on and below hi, or none -/
def PairIn (n lo hi : Nat) (c r : Option Addr) (w : World) : Prop :=
  (c = none ∧ r = none) ∨
  ∃ (b g b2 g2 W H : Nat) (S : Int → Int → Bool), c = some ⟨b, 0, none⟩ ∧ r = some ⟨b2, 0, none⟩ ∧ At w n b g b2 g2 W H S S w ∧ (lo ≤ b ∧ b < hi) ∧ (lo ≤ g ∧ g < hi) ∧ (lo ≤ b2 ∧ b2 < hi) ∧ (lo ≤ g2 ∧ g2 < hi)
theorem PairIn.below {n lo hi : Nat} {c r : Option Addr} {w w' : World} (h : PairIn n lo hi c r w) (hb : Below w.heap.size w w') : PairIn n lo hi c r w' := by
  rcases h with h | ⟨b, g, b2, g2, W, H, S, e1, e2, hA, h1⟩
  · exact .inl h
  · exact .inr ⟨b, g, b2, g2, W, H, S, e1, e2, (hA.next hb).from, h1⟩
/-- a pair stays where another one is drawn on -/
theorem PairIn.other {n lo hi g1 g3 : Nat} {c r : Option Addr} {w w' : World} (h : PairIn n lo hi c r w) (ht : Two n g1 g3 w w') (h1 : g1 < lo ∨ hi ≤ g1) (h3 : g3 < lo ∨ hi ≤ g3) : PairIn n lo hi c r w' := by
  rcases h with h | ⟨b, g, b2, g2, W, H, S, e1, e2, hA, hb, hg, hb2, hg2⟩
  · exact .inl h
  · refine .inr ⟨b, g, b2, g2, W, H, S, e1, e2, ?_, hb, hg, hb2, hg2⟩
    have hl := hA.lt
    obtain ⟨p1, p2, d, p3, p4⟩ := hA.c
    obtain ⟨q1, q2, d2, q3, q4⟩ := hA.r
    exact ⟨⟨p1, p2, d, p3.of_block (ht.block b hl.1 (by omega) (by omega)) (ht.block g hl.2.1 (by omega) (by omega)), p4⟩,
      ⟨q1, q2, d2, q3.of_block (ht.block b2 hl.2.2.1 (by omega) (by omega)) (ht.block g2 hl.2.2.2 (by omega) (by omega)), q4⟩,
      hA.dots.below ht.below hA.low, hA.low, hA.n1, hA.n2, hA.n3, .refl _ _ _ _⟩
theorem PairIn.mono {n lo hi lo' hi' : Nat} {c r : Option Addr} {w : World} (h : PairIn n lo hi c r w) (h1 : lo' ≤ lo) (h2 : hi ≤ hi') : PairIn n lo' hi' c r w := by
  rcases h with h | ⟨b, g, b2, g2, W, H, S, e1, e2, hA, hb, hg, hb2, hg2⟩
  · exact .inl h
  · exact .inr ⟨b, g, b2, g2, W, H, S, e1, e2, hA, by omega, by omega, by omega, by omega⟩

/-- A PAIR MADE, whatever the sizes. -/
theorem made_any (n : Nat) (a c : Int) (w : World) (ha : -9223372036854775808 ≤ a ∧ a ≤ 9223372036854775807) (hc : -9223372036854775808 ≤ c ∧ c ≤ 9223372036854775807) (hd : Dots w) (hl : 2 < n) (hn : n ≤ w.heap.size) :
    Calls Tryd.prog 6 #[.int .i64 a, .int .i64 c] w fun e w' => ∃ p r, e = .returned (.tuple #[.agg #[.pointer p, .pointer r], .bool true]) ∧ PairIn n w.heap.size w'.heap.size p r w' ∧ Below w.heap.size w w' := by
  cases h : sizedOk a c with
  | false =>
    refine (made_no a c w ha hc h).mono ?_
    rintro e w' ⟨rfl, hb⟩
    exact ⟨_, _, rfl, .inl ⟨rfl, rfl⟩, hb⟩
  | true =>
    unfold sizedOk at h
    have h := of_decide_eq_true h
    obtain ⟨W, rfl⟩ : ∃ W : Nat, a = W := ⟨a.toNat, by omega⟩
    obtain ⟨H, rfl⟩ : ∃ H : Nat, c = H := ⟨c.toNat, by omega⟩
    have h3 : W * H ≤ 1048576 := by
      have : ((W * H : Nat) : Int) ≤ 1048576 := by rw [Int.natCast_mul]; omega
      omega
    refine (made_ok W H w (by omega) (by omega) h3).mono ?_
    rintro e w' ⟨g, g2, rfl, hg, hg2, hC, hR, hb⟩
    have hC' : Canvas n (g + 1) g W H (fun _ _ => false) w' := ⟨by omega, by omega, hC.2.2⟩
    have hR' : RCan n (g2 + 1) g2 W H (fun _ _ => false) w' := ⟨by omega, by omega, hR.2.2⟩
    have hA : At w' n (g + 1) g (g2 + 1) g2 W H (fun _ _ => false) (fun _ _ => false) w' := ⟨hC', hR', hd.below hb (by omega), hl, by omega, by omega, by omega, .refl _ _ _ _⟩
    have := hA.lt
    exact ⟨_, _, rfl, .inr ⟨_, _, _, _, _, _, _, rfl, rfl, hA, by omega, by omega, by omega, by omega⟩, hb⟩
end Go.Proofs.YtbfheehaagcmeaaDoor.can
