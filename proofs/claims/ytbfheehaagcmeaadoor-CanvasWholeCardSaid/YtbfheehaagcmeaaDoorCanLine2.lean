/-
  The walks of the layer canvas: a line, drawn.
-/
import Derived.Test.YtbfheehaagcmeaaDoorCanLine
import Derived.Deep.DeepCutAuto
namespace Go.Proofs.YtbfheehaagcmeaaDoor.can
open Go.RowKit Go.Proofs
set_option linter.unusedVariables false

def plots (S : Int → Int → Bool) (l : List (Int × Int)) : Int → Int → Bool := l.foldl (fun S p => plot S p.1 p.2) S
def lineN (x0 y0 x1 y1 : Int) : Int := max (max (x1 - x0) (x0 - x1)) (max (y1 - y0) (y0 - y1))
def linePt (x0 y0 x1 y1 : Int) (k : Nat) : Int × Int := (x0 + stepT (x1 - x0) k (lineN x0 y0 x1 y1), y0 + stepT (y1 - y0) k (lineN x0 y0 x1 y1))
/-- the first k dots of a line behind its beginning -/
def lineL (x0 y0 x1 y1 : Int) (k : Nat) : List (Int × Int) := (x0, y0) :: (List.range k).map fun j => linePt x0 y0 x1 y1 (j + 1)
theorem lineL_succ (x0 y0 x1 y1 : Int) (k : Nat) : lineL x0 y0 x1 y1 (k + 1) = lineL x0 y0 x1 y1 k ++ [linePt x0 y0 x1 y1 (k + 1)] := by
  unfold lineL
  rw [List.range_succ, List.map_append]
  rfl
theorem plots_snoc (S : Int → Int → Bool) (l : List (Int × Int)) (p : Int × Int) : plots S (l ++ [p]) = plot (plots S l) p.1 p.2 := by unfold plots; rw [List.foldl_append]; rfl

theorem plane_list (l : List Int) (w : World) (hl : l.length ≤ 16) :
    Calls Tryd.prog 43 #[.slice (some ⟨w.heap.size, 0, none⟩) l.length l.length] (w.alloc (.cells (l.map (Value.int .i64)).toArray 3)) fun e w' => e = .returned (.bool (l.all inPlane)) ∧ w' = w.alloc (.cells (l.map (Value.int .i64)).toArray 3) :=
  (plane_any l w.heap.size l.length _ hl fun k hk => by
    rw [World.cell?_alloc_at _ _ _ _ rfl]
    simp [List.getD_eq_getElem?_getD, hk]).mono fun e w' ⟨h1, h2⟩ => ⟨h1, h2.symm⟩

set_option maxHeartbeats 2000000 in
theorem line_any (B b g W H : Nat) (S : Int → Int → Bool) (x0 y0 x1 y1 : Int) (w : World) (hG : 2 < B) (hd : Dots w) (h : Canvas B b g W H S w)
    (hp : inPlane x0 = true ∧ inPlane y0 = true ∧ inPlane x1 = true ∧ inPlane y1 = true) :
    Calls Tryd.prog 20 #[.pointer (some ⟨b, 0, none⟩), .int .i64 x0, .int .i64 y0, .int .i64 x1, .int .i64 y1] w fun e w' => e = .returned (.int .i64 0) ∧ Canvas B b g W H (plots S (lineL x0 y0 x1 y1 (lineN x0 y0 x1 y1).toNat)) w' ∧ w.grownBy w' (some g) := by
  have HP := run.hid (plane_list [x0, y0, x1, y1] w (by simp))
  obtain ⟨q1, q2, q3, q4⟩ := hp
  have HQ := run.hid (show [x0, y0, x1, y1].all inPlane = true by simp [q1, q2, q3, q4])
  unfold inPlane at q1 q2 q3 q4
  simp only [decide_eq_true_eq] at q1 q2 q3 q4
  obtain ⟨N, hN⟩ : ∃ N : Nat, (N : Int) = lineN x0 y0 x1 y1 := ⟨(lineN x0 y0 x1 y1).toNat, by unfold lineN; omega⟩
  have hn1 : (N : Int) ≤ 2097151 := by rw [hN]; unfold lineN; omega
  have hmx : ∀ w, (Builtin.max_ #[3, 3, 3, 3] 3 #[.int .i64 (x1 - x0), .int .i64 (-(x1 - x0)), .int .i64 (y1 - y0), .int .i64 (-(y1 - y0))]).run Tryd.prog w = .ok (.int .i64 N) w := by
    intro w
    have e : (N : Int) = max (max (max (x1 - x0) (-(x1 - x0))) (y1 - y0)) (-(y1 - y0)) := by rw [hN]; unfold lineN; omega
    rw [e]
    simp only [Int.max_def]
    simp only [Builtin.max_, Builtin.max2, List.foldlM_cons, List.foldlM_nil, Sem.run_bind, Sem.run_pure, Result.andThen_ok]
    congr 2
    repeat' split
    all_goals omega
  rw [← hN, Int.toNat_natCast]
  have HN := run.hid hN
  clear hN
  have hG2 := h.2.1
  have HH := run.hid h
  have HD := run.hid hd
  clear h hd
  go_enter Tryd.func20, Tryd.ntmps20
  go_wp2_with fail
  refine HP.out.mono ?_
  rw [HQ.out]
  rintro e w1 ⟨rfl, rfl⟩
  have hb0 := run.below_one w (.cells ([x0, y0, x1, y1].map (Value.int .i64)).toArray 3)
  have HC := run.hid (HH.out.below hb0)
  have HG := run.hid (World.grownBy_alloc w (.cells ([x0, y0, x1, y1].map (Value.int .i64)).toArray 3) (some g))
  have HD1 := run.hid (HD.out.of HG.out (show 2 ≠ g by omega))
  clear hb0 HP HQ HH
  go_wp2_with fail
  refine (dot_any B b g W H S x0 y0 _ HD1.out HC.out).mono ?_
  rintro e w2 ⟨rfl, hc2, hg2⟩
  have HC2 := run.hid hc2
  have HG2 := run.hid (run.grown_trans HG.out hg2 (.inl rfl))
  clear hc2 hg2 HG HC HD1
  clear hmx
  go_wp2
  go_loopw [14] (fun v wr => ∃ k : Nat, k ≤ N ∧ v = .int .i64 (k + 1) ∧ Hid (Canvas B b g W H (plots S (lineL x0 y0 x1 y1 k)) wr) ∧ Hid (w.grownBy wr (some g))) (fun v _ => ((N : Int) + 1 - intOf v).toNat)
  case atStart => exact ⟨0, Nat.zero_le _, rfl, HC2, HG2⟩
  case round =>
    obtain ⟨k, hk, rfl, HCr, HGr⟩ := hrel
    by_cases hlt : k < N
    · obtain ⟨a1, a2⟩ := stepT_abs (d := x1 - x0) (k := (k : Int) + 1) (n := N) (by omega) (by omega) (by omega)
      obtain ⟨b1, b2⟩ := stepT_abs (d := y1 - y0) (k := (k : Int) + 1) (n := N) (by omega) (by omega) (by omega)
      have a3 : -3145728 ≤ x0 + stepT (x1 - x0) ((k : Int) + 1) N ∧ x0 + stepT (x1 - x0) ((k : Int) + 1) N ≤ 3145728 := by omega
      have b3 : -3145728 ≤ y0 + stepT (y1 - y0) ((k : Int) + 1) N ∧ y0 + stepT (y1 - y0) ((k : Int) + 1) N ≤ 3145728 := by omega
      have HS := run.hid (lineL_succ x0 y0 x1 y1 k)
      have HE := run.hid (show linePt x0 y0 x1 y1 (k + 1) = (x0 + stepT (x1 - x0) ((k : Int) + 1) N, y0 + stepT (y1 - y0) ((k : Int) + 1) N) by unfold linePt; rw [← HN.out]; push_cast; rfl)
      clear a1 a2 b1 b2
      go_wp2_with fail
      refine (step_any (x1 - x0) ((k : Int) + 1) N _ (by omega) (by omega) (by omega) (by omega) (by omega) (by omega)).mono ?_
      rintro e w3 ⟨rfl, rfl⟩
      go_wp2_with fail
      refine (step_any (y1 - y0) ((k : Int) + 1) N _ (by omega) (by omega) (by omega) (by omega) (by omega) (by omega)).mono ?_
      rintro e w3 ⟨rfl, rfl⟩
      go_wp2_with fail
      refine (dot_any B b g W H _ _ _ _ (HD.out.of HGr.out (show 2 ≠ g by omega)) HCr.out).mono ?_
      rintro e w3 ⟨rfl, hc3, hg3⟩
      have HC3 : Hid (Canvas B b g W H (plots S (lineL x0 y0 x1 y1 (k + 1))) w3) := by rw [HS.out, plots_snoc, HE.out]; exact hc3
      have HG3 := run.hid (run.grown_trans HGr.out hg3 (.inl rfl))
      clear hc3 hg3
      go_wp2
      go_roundw
      case rel => exact ⟨k + 1, by omega, by go_num, HC3, HG3⟩
      case measure => simp [intOf]; omega
    · obtain rfl : k = N := by omega
      go_wp2
      go_ret
      exact ⟨rfl, HCr.out, HGr.out⟩

theorem line_no (b : Nat) (x0 y0 x1 y1 : Int) (w : World) (hp : [x0, y0, x1, y1].all inPlane = false) :
    Calls Tryd.prog 20 #[.pointer (some ⟨b, 0, none⟩), .int .i64 x0, .int .i64 y0, .int .i64 x1, .int .i64 y1] w fun e w' => e = .returned (.int .i64 2) ∧ Below w.heap.size w w' := by
  have HP := run.hid (plane_list [x0, y0, x1, y1] w (by simp))
  have HQ := run.hid hp
  clear hp
  go_enter Tryd.func20, Tryd.ntmps20
  go_wp2_with fail
  refine HP.out.mono ?_
  rw [HQ.out]
  rintro e w1 ⟨rfl, rfl⟩
  go_wp2
  go_ret
  exact ⟨rfl, run.below_one _ _⟩
theorem line_nil (x0 y0 x1 y1 : Int) (w : World) :
    Calls Tryd.prog 20 #[.pointer none, .int .i64 x0, .int .i64 y0, .int .i64 x1, .int .i64 y1] w fun e w' => e = .returned (.int .i64 1) ∧ w = w' := by
  go_enter Tryd.func20, Tryd.ntmps20
  go_wp2
  go_ret
  exact ⟨rfl, rfl⟩

end Go.Proofs.YtbfheehaagcmeaaDoor.can
