/-
  The walk of a line.
-/
import Derived.Test.YtbfheehaagcmeaaDoorCanNew
import Derived.Deep.DeepCutAuto
namespace Go.Proofs.YtbfheehaagcmeaaDoor.can
open Go.RowKit Go.Proofs
set_option linter.unusedVariables false

def inPlane (n : Int) : Bool := decide (-1048576 ≤ n ∧ n < 1048576)

theorem all_take_succ {l : List Int} {k : Nat} (h : k < l.length) (ha : (l.take k).all inPlane = true) (hp : inPlane l[k] = true) : (l.take (k + 1)).all inPlane = true := by
  rw [List.take_succ_eq_append_getElem h, List.all_append, ha]
  simp [hp]

set_option maxHeartbeats 1000000 in
theorem plane_any (l : List Int) (b c : Nat) (w : World) (hl : l.length ≤ 16) (hc : ∀ k, k < l.length → w.cell? ⟨b, k, none⟩ = some (.int .i64 (l.getD k 0))) :
    Calls Tryd.prog 43 #[.slice (some ⟨b, 0, none⟩) l.length c] w fun e w' => e = .returned (.bool (l.all inPlane)) ∧ w = w' := by
  have HA := run.hid (fun k (h : k < l.length) (ha : (l.take k).all inPlane = true) (hp : inPlane l[k] = true) => all_take_succ h ha hp)
  obtain ⟨N, hN⟩ : ∃ N, N = l.length := ⟨_, rfl⟩
  rw [← hN] at hl hc ⊢
  have HC := run.hid hc
  have HN := run.hid hN
  clear hc hN
  go_enter Tryd.func43, Tryd.ntmps43
  go_wp2
  go_loop [7] (fun i => ∃ k : Nat, k ≤ N ∧ i = .int .i64 k ∧ Hid ((l.take k).all inPlane = true)) (fun i => N - (intOf i).toNat)
  case atStart => exact ⟨0, Nat.zero_le _, rfl, rfl⟩
  case round =>
    obtain ⟨k, hk, rfl, HT⟩ := hrel
    by_cases hlt : k < N
    · have hcell := HC.out k hlt
      have hlt' : k < l.length := by rw [← HN.out]; exact hlt
      have hg : l.getD k 0 = l[k] := by simp [List.getD_eq_getElem?_getD, hlt']
      have HA2 := run.hid (HA.out k hlt' HT.out)
      have HM := run.hid (show l[k] ∈ l from List.getElem_mem _)
      rw [hg] at hcell
      clear hg HA HC
      generalize l[k] = z at *
      by_cases h1 : z < -1048576
      · have hf : l.all inPlane = false := by rw [List.all_eq_false]; exact ⟨z, HM.out, by unfold inPlane; simp; omega⟩
        have HF := run.hid hf
        clear hf HT HA2 HM HN
        go_wp2
        go_ret
        exact ⟨by rw [HF.out]; rfl, rfl⟩
      have h1' : -1048576 ≤ z := by omega
      by_cases h2 : 1048576 ≤ z
      · have hf : l.all inPlane = false := by rw [List.all_eq_false]; exact ⟨z, HM.out, by unfold inPlane; simp; omega⟩
        have HF := run.hid hf
        clear hf HT HA2 HM HN
        go_wp2
        go_ret
        exact ⟨by rw [HF.out]; rfl, rfl⟩
      have h2' : z < 1048576 := by omega
      have HT2 := run.hid (HA2.out (by unfold inPlane; simp; omega))
      clear HT HA2 HM HN
      go_wp2
      go_round
      case rel => exact ⟨k + 1, by omega, by go_num, HT2⟩
      case measure => simp [intOf]; omega
    · have HF := run.hid (show l.all inPlane = true by have := HT.out; rwa [List.take_of_length_le (by have := HN.out; omega)] at this)
      clear HT HA HC HN
      go_wp2
      go_ret
      exact ⟨by rw [HF.out]; rfl, rfl⟩

/-- how far along d the step k of n is -/
def stepT (d k n : Int) : Int := if d < 0 then -((2 * k * (-d) + n) / (2 * n)) else (2 * k * d + n) / (2 * n)

theorem mul_bd {a b : Int} {m : Int} (ha : 0 ≤ a) (hb : 0 ≤ b) (h1 : a ≤ 4194304) (h2 : b ≤ 2097152) : 0 ≤ a * b ∧ a * b ≤ 8796093022208 := by
  refine ⟨Int.mul_nonneg ha hb, ?_⟩
  have := Int.mul_le_mul h1 h2 hb (by omega : (0 : Int) ≤ 4194304)
  omega

set_option maxHeartbeats 1000000 in
theorem step_pos (d k n : Int) (w : World) (hd : 0 ≤ d) (hd' : d ≤ 2097152) (hk : 0 ≤ k) (hk' : k ≤ 2097152) (hn : 1 ≤ n) (hn' : n ≤ 2097152) :
    Calls Tryd.prog 44 #[.int .i64 d, .int .i64 k, .int .i64 n] w fun e w' => e = .returned (.int .i64 (stepT d k n)) ∧ w = w' := by
  have hT := run.hid (show stepT d k n = (2 * k * d + n) / (2 * n) by unfold stepT; rw [if_neg (by omega)])
  obtain ⟨hm1, hm2⟩ := mul_bd (m := 0) (show 0 ≤ 2 * k by omega) hd (by omega) hd'
  go_enter Tryd.func44, Tryd.ntmps44
  go_wp2
  go_ret
  exact ⟨by rw [hT.out]; rfl, rfl⟩

theorem stepT_neg {d k n : Int} (hd : d < 0) : stepT d k n = - stepT (-d) k n := by
  unfold stepT
  rw [if_pos hd, if_neg (by omega)]

/-- a step goes no further than to the end -/
theorem stepT_le {d k n : Int} (hd : 0 ≤ d) (hk : 0 ≤ k) (hkn : k ≤ n) (hn : 1 ≤ n) : 0 ≤ stepT d k n ∧ stepT d k n ≤ d := by
  unfold stepT
  rw [if_neg (by omega)]
  have h0 : 0 ≤ 2 * k * d := Int.mul_nonneg (by omega) hd
  refine ⟨Int.ediv_nonneg (by omega) (by omega), ?_⟩
  have h1 : 2 * k * d ≤ 2 * n * d := Int.mul_le_mul_of_nonneg_right (by omega) hd
  have h2 : (2 * k * d + n) / (2 * n) ≤ (2 * n * d + n) / (2 * n) := Int.ediv_le_ediv (by omega) (by omega)
  have h3 : (2 * n * d + n) / (2 * n) = d + n / (2 * n) := by
    rw [show 2 * n * d + n = n + d * (2 * n) by rw [Int.mul_comm d (2 * n)]; omega, Int.add_mul_ediv_right _ _ (by omega)]; omega
  have h4 : n / (2 * n) = 0 := Int.ediv_eq_zero_of_lt (by omega) (by omega)
  omega
theorem stepT_abs {d k n : Int} (hk : 0 ≤ k) (hkn : k ≤ n) (hn : 1 ≤ n) : (0 ≤ d → 0 ≤ stepT d k n ∧ stepT d k n ≤ d) ∧ (d ≤ 0 → d ≤ stepT d k n ∧ stepT d k n ≤ 0) := by
  refine ⟨fun hd => stepT_le hd hk hkn hn, fun hd => ?_⟩
  by_cases h0 : d = 0
  · subst h0
    have := stepT_le (d := 0) (Int.le_refl _) hk hkn hn
    omega
  · have := stepT_le (d := -d) (by omega) hk hkn hn
    rw [stepT_neg (by omega)]
    omega

set_option maxHeartbeats 1000000 in
theorem step_any (d k n : Int) (w : World) (hd : -2097152 ≤ d) (hd' : d ≤ 2097152) (hk : 0 ≤ k) (hkn : k ≤ n) (hn : 1 ≤ n) (hn' : n ≤ 2097152) :
    Calls Tryd.prog 44 #[.int .i64 d, .int .i64 k, .int .i64 n] w fun e w' => e = .returned (.int .i64 (stepT d k n)) ∧ w = w' := by
  by_cases h0 : d < 0
  · have hT := run.hid (stepT_neg (k := k) (n := n) h0)
    obtain ⟨hb1, hb2⟩ := stepT_le (d := -d) (by omega) hk hkn hn
    have HC := run.hid (step_pos (-d) k n w (by omega) (by omega) hk (by omega) hn hn')
    rw [hT.out]
    clear hT
    go_enter Tryd.func44, Tryd.ntmps44
    go_wp2_with fail
    refine HC.out.mono ?_
    rintro e w1 ⟨rfl, rfl⟩
    clear HC
    go_wp2
    go_ret
    exact ⟨rfl, rfl⟩
  · exact step_pos d k n w (by omega) hd' hk (by omega) hn hn'

end Go.Proofs.YtbfheehaagcmeaaDoor.can
namespace Go.Proofs.YtbfheehaagcmeaaDoor.can
open Go.RowKit Go.Proofs
set_option linter.unusedVariables false

def plots (S : Int → Int → Bool) (l : List (Int × Int)) : Int → Int → Bool := l.foldl (fun S p => plot S p.1 p.2) S
def lineN (x0 y0 x1 y1 : Int) : Int := max (max (x1 - x0) (x0 - x1)) (max (y1 - y0) (y0 - y1))
def linePt (x0 y0 x1 y1 : Int) (k : Nat) : Int × Int := (x0 + stepT (x1 - x0) k (lineN x0 y0 x1 y1), y0 + stepT (y1 - y0) k (lineN x0 y0 x1 y1))
/-- the first k dots of a line behind its beginning -/
def lineL (x0 y0 x1 y1 : Int) (k : Nat) : List (Int × Int) := (x0, y0) :: (List.range k).map fun j => linePt x0 y0 x1 y1 (j + 1)
theorem lineL_succ (x0 y0 x1 y1 : Int) (k : Nat) : lineL x0 y0 x1 y1 (k + 1) = lineL x0 y0 x1 y1 k ++ [linePt x0 y0 x1 y1 (k + 1)] := by
  unfold lineL
  rw [List.range_succ, List.map_append]
  rfl
theorem plots_snoc (S : Int → Int → Bool) (l : List (Int × Int)) (p : Int × Int) : plots S (l ++ [p]) = plot (plots S l) p.1 p.2 := by unfold plots; rw [List.foldl_append]; rfl

theorem plane_list (l : List Int) (w : World) (hl : l.length ≤ 16) :
    Calls Tryd.prog 43 #[.slice (some ⟨w.heap.size, 0, none⟩) l.length l.length] (w.alloc (.cells (l.map (Value.int .i64)).toArray 3)) fun e w' => e = .returned (.bool (l.all inPlane)) ∧ w' = w.alloc (.cells (l.map (Value.int .i64)).toArray 3) :=
  (plane_any l w.heap.size l.length _ hl fun k hk => by
    rw [World.cell?_alloc_at _ _ _ _ rfl]
    simp [List.getD_eq_getElem?_getD, hk]).mono fun e w' ⟨h1, h2⟩ => ⟨h1, h2.symm⟩

set_option maxHeartbeats 2000000 in
theorem line_any (B b g W H : Nat) (S : Int → Int → Bool) (x0 y0 x1 y1 : Int) (w : World) (hG : 2 < B) (hd : Dots w) (h : Canvas B b g W H S w)
    (hp : inPlane x0 = true ∧ inPlane y0 = true ∧ inPlane x1 = true ∧ inPlane y1 = true) :
    Calls Tryd.prog 20 #[.pointer (some ⟨b, 0, none⟩), .int .i64 x0, .int .i64 y0, .int .i64 x1, .int .i64 y1] w fun e w' => e = .returned (.int .i64 0) ∧ Canvas B b g W H (plots S (lineL x0 y0 x1 y1 (lineN x0 y0 x1 y1).toNat)) w' ∧ w.grownBy w' (some g) := by
  have HP := run.hid (plane_list [x0, y0, x1, y1] w (by simp))
  obtain ⟨q1, q2, q3, q4⟩ := hp
  have HQ := run.hid (show [x0, y0, x1, y1].all inPlane = true by simp [q1, q2, q3, q4])
  unfold inPlane at q1 q2 q3 q4
  simp only [decide_eq_true_eq] at q1 q2 q3 q4
  obtain ⟨N, hN⟩ : ∃ N : Nat, (N : Int) = lineN x0 y0 x1 y1 := ⟨(lineN x0 y0 x1 y1).toNat, by unfold lineN; omega⟩
  have hn1 : (N : Int) ≤ 2097151 := by rw [hN]; unfold lineN; omega
  have hmx : ∀ w, (Builtin.max_ #[3, 3, 3, 3] 3 #[.int .i64 (x1 - x0), .int .i64 (-(x1 - x0)), .int .i64 (y1 - y0), .int .i64 (-(y1 - y0))]).run Tryd.prog w = .ok (.int .i64 N) w := by
    intro w
    have e : (N : Int) = max (max (max (x1 - x0) (-(x1 - x0))) (y1 - y0)) (-(y1 - y0)) := by rw [hN]; unfold lineN; omega
    rw [e]
    simp only [Int.max_def]
    simp only [Builtin.max_, Builtin.max2, List.foldlM_cons, List.foldlM_nil, Sem.run_bind, Sem.run_pure, Result.andThen_ok]
    congr 2
    repeat' split
    all_goals omega
  rw [← hN, Int.toNat_natCast]
  have HN := run.hid hN
  clear hN
  have hG2 := h.2.1
  have HH := run.hid h
  have HD := run.hid hd
  clear h hd
  go_enter Tryd.func20, Tryd.ntmps20
  go_wp2_with fail
  refine HP.out.mono ?_
  rw [HQ.out]
  rintro e w1 ⟨rfl, rfl⟩
  have hb0 := run.below_one w (.cells ([x0, y0, x1, y1].map (Value.int .i64)).toArray 3)
  have HC := run.hid (HH.out.below hb0)
  have HG := run.hid (World.grownBy_alloc w (.cells ([x0, y0, x1, y1].map (Value.int .i64)).toArray 3) (some g))
  have HD1 := run.hid (HD.out.of HG.out (show 2 ≠ g by omega))
  clear hb0 HP HQ HH
  go_wp2_with fail
  refine (dot_any B b g W H S x0 y0 _ HD1.out HC.out).mono ?_
  rintro e w2 ⟨rfl, hc2, hg2⟩
  have HC2 := run.hid hc2
  have HG2 := run.hid (run.grown_trans HG.out hg2 (.inl rfl))
  clear hc2 hg2 HG HC HD1
  clear hmx
  go_wp2
  go_loopw [14] (fun v wr => ∃ k : Nat, k ≤ N ∧ v = .int .i64 (k + 1) ∧ Hid (Canvas B b g W H (plots S (lineL x0 y0 x1 y1 k)) wr) ∧ Hid (w.grownBy wr (some g))) (fun v _ => ((N : Int) + 1 - intOf v).toNat)
  case atStart => exact ⟨0, Nat.zero_le _, rfl, HC2, HG2⟩
  case round =>
    obtain ⟨k, hk, rfl, HCr, HGr⟩ := hrel
    by_cases hlt : k < N
    · obtain ⟨a1, a2⟩ := stepT_abs (d := x1 - x0) (k := (k : Int) + 1) (n := N) (by omega) (by omega) (by omega)
      obtain ⟨b1, b2⟩ := stepT_abs (d := y1 - y0) (k := (k : Int) + 1) (n := N) (by omega) (by omega) (by omega)
      have a3 : -3145728 ≤ x0 + stepT (x1 - x0) ((k : Int) + 1) N ∧ x0 + stepT (x1 - x0) ((k : Int) + 1) N ≤ 3145728 := by omega
      have b3 : -3145728 ≤ y0 + stepT (y1 - y0) ((k : Int) + 1) N ∧ y0 + stepT (y1 - y0) ((k : Int) + 1) N ≤ 3145728 := by omega
      have HS := run.hid (lineL_succ x0 y0 x1 y1 k)
      have HE := run.hid (show linePt x0 y0 x1 y1 (k + 1) = (x0 + stepT (x1 - x0) ((k : Int) + 1) N, y0 + stepT (y1 - y0) ((k : Int) + 1) N) by unfold linePt; rw [← HN.out]; push_cast; rfl)
      clear a1 a2 b1 b2
      go_wp2_with fail
      refine (step_any (x1 - x0) ((k : Int) + 1) N _ (by omega) (by omega) (by omega) (by omega) (by omega) (by omega)).mono ?_
      rintro e w3 ⟨rfl, rfl⟩
      go_wp2_with fail
      refine (step_any (y1 - y0) ((k : Int) + 1) N _ (by omega) (by omega) (by omega) (by omega) (by omega) (by omega)).mono ?_
      rintro e w3 ⟨rfl, rfl⟩
      go_wp2_with fail
      refine (dot_any B b g W H _ _ _ _ (HD.out.of HGr.out (show 2 ≠ g by omega)) HCr.out).mono ?_
      rintro e w3 ⟨rfl, hc3, hg3⟩
      have HC3 : Hid (Canvas B b g W H (plots S (lineL x0 y0 x1 y1 (k + 1))) w3) := by rw [HS.out, plots_snoc, HE.out]; exact hc3
      have HG3 := run.hid (run.grown_trans HGr.out hg3 (.inl rfl))
      clear hc3 hg3
      go_wp2
      go_roundw
      case rel => exact ⟨k + 1, by omega, by go_num, HC3, HG3⟩
      case measure => simp [intOf]; omega
    · obtain rfl : k = N := by omega
      go_wp2
      go_ret
      exact ⟨rfl, HCr.out, HGr.out⟩

theorem line_no (b : Nat) (x0 y0 x1 y1 : Int) (w : World) (hp : [x0, y0, x1, y1].all inPlane = false) :
    Calls Tryd.prog 20 #[.pointer (some ⟨b, 0, none⟩), .int .i64 x0, .int .i64 y0, .int .i64 x1, .int .i64 y1] w fun e w' => e = .returned (.int .i64 2) ∧ Below w.heap.size w w' := by
  have HP := run.hid (plane_list [x0, y0, x1, y1] w (by simp))
  have HQ := run.hid hp
  clear hp
  go_enter Tryd.func20, Tryd.ntmps20
  go_wp2_with fail
  refine HP.out.mono ?_
  rw [HQ.out]
  rintro e w1 ⟨rfl, rfl⟩
  go_wp2
  go_ret
  exact ⟨rfl, run.below_one _ _⟩
theorem line_nil (x0 y0 x1 y1 : Int) (w : World) :
    Calls Tryd.prog 20 #[.pointer none, .int .i64 x0, .int .i64 y0, .int .i64 x1, .int .i64 y1] w fun e w' => e = .returned (.int .i64 1) ∧ w = w' := by
  go_enter Tryd.func20, Tryd.ntmps20
  go_wp2
  go_ret
  exact ⟨rfl, rfl⟩

end Go.Proofs.YtbfheehaagcmeaaDoor.can
