/-
  The walk of a circle.
-/
import Derived.Test.YtbfheehaagcmeaaDoorCanLines
import Derived.Deep.DeepCutAuto
namespace Go.Proofs.YtbfheehaagcmeaaDoor.can
set_option linter.unusedVariables false

/-- the greatest number up to k that is 0 or whose odd square is no greater than m -/
def down (m : Int) : Nat → Nat
  | 0 => 0
  | j + 1 => if m < (2 * (j : Int) + 1) * (2 * (j : Int) + 1) then down m j else j + 1
theorem down_le (m : Int) : ∀ k, down m k ≤ k
  | 0 => Nat.le_refl _
  | k + 1 => by
    unfold down
    split
    · exact Nat.le_succ_of_le (down_le m k)
    · exact Nat.le_refl _
theorem down_step {m : Int} {k : Nat} (h : 0 < k) (hm : m < (2 * (k : Int) - 1) * (2 * (k : Int) - 1)) : down m k = down m (k - 1) := by
  obtain ⟨j, rfl⟩ : ∃ j, k = j + 1 := ⟨k - 1, by omega⟩
  rw [down, if_pos (by rw [show 2 * (j : Int) + 1 = 2 * ((j + 1 : Nat) : Int) - 1 by omega]; exact hm), Nat.add_sub_cancel]
theorem down_stop {m : Int} {k : Nat} (hm : 0 < k → (2 * (k : Int) - 1) * (2 * (k : Int) - 1) ≤ m) : down m k = k := by
  cases k with
  | zero => rfl
  | succ j =>
    have := hm (by omega)
    rw [show 2 * ((j + 1 : Nat) : Int) - 1 = 2 * (j : Int) + 1 by omega] at this
    rw [down, if_neg (by omega)]
theorem down_down {m m' : Int} (h : m' ≤ m) : ∀ k, down m' (down m k) = down m' k
  | 0 => rfl
  | k + 1 => by
    by_cases h1 : m < (2 * (k : Int) + 1) * (2 * (k : Int) + 1)
    · rw [down, if_pos h1, down_down h k]
      conv => rhs; rw [down, if_pos (by omega)]
    · rw [show down m (k + 1) = k + 1 by rw [down, if_neg h1]]
theorem down_holds {m : Int} : ∀ {k}, 0 < down m k → (2 * (down m k : Int) - 1) * (2 * (down m k : Int) - 1) ≤ m
  | 0, h => by simp [down] at h
  | k + 1, h => by
    by_cases h1 : m < (2 * (k : Int) + 1) * (2 * (k : Int) + 1)
    · rw [down, if_pos h1] at h ⊢; exact down_holds h
    · rw [down, if_neg h1]
      rw [show 2 * ((k + 1 : Nat) : Int) - 1 = 2 * (k : Int) + 1 by omega]; omega
theorem down_above {m : Int} : ∀ {k j : Nat}, down m k < j → j ≤ k → m < (2 * (j : Int) - 1) * (2 * (j : Int) - 1)
  | 0, j, h, h2 => by omega
  | k + 1, j, h, h2 => by
    by_cases h1 : m < (2 * (k : Int) + 1) * (2 * (k : Int) + 1)
    · rw [down, if_pos h1] at h
      rcases Nat.lt_or_ge k j with h3 | h3
      · rw [show (j : Int) = k + 1 by omega, show 2 * ((k : Int) + 1) - 1 = 2 * (k : Int) + 1 by omega]; exact h1
      · exact down_above h h3
    · rw [down, if_neg h1] at h; omega
theorem down_mono {m m' : Int} (h : m' ≤ m) (k : Nat) : down m' k ≤ down m k := by rw [← down_down h]; exact down_le _ _
/-- what is found otherwise is it -/
theorem down_is {m : Int} {k j : Nat} (hj : j ≤ k) (h1 : 0 < j → (2 * (j : Int) - 1) * (2 * (j : Int) - 1) ≤ m) (h2 : m < (2 * (j : Int) + 1) * (2 * (j : Int) + 1) ∨ j = k) : down m k = j := by
  rcases h2 with h2 | rfl
  · induction k with
    | zero => rw [show j = 0 by omega]; rfl
    | succ k ih =>
      rcases Nat.lt_or_ge k j with h3 | h3
      · obtain rfl : j = k + 1 := by omega
        exact down_stop h1
      · rw [down, if_pos, ih h3]
        have e : (2 * (j : Int) + 1) * (2 * (j : Int) + 1) ≤ (2 * (k : Int) + 1) * (2 * (k : Int) + 1) := Int.mul_le_mul (by omega) (by omega) (by omega) (by omega)
        omega
  · exact down_stop h1

def circM (r i : Nat) : Int := 4 * ((r : Int) * r - (i : Int) * i)
def circJ (r i : Nat) : Nat := down (circM r i) r
def circPts (x y : Int) (i j : Nat) : List (Int × Int) := [(x + i, y + j), (x + i, y + -(j : Int)), (x + -(i : Int), y + j), (x + -(i : Int), y + -(j : Int)), (x + j, y + i), (x + j, y + -(i : Int)), (x + -(j : Int), y + i), (x + -(j : Int), y + -(i : Int))]
def circL (x y : Int) (r n : Nat) : List (Int × Int) := (List.range n).flatMap fun i => circPts x y i (circJ r i)
theorem circL_succ (x y : Int) (r n : Nat) : circL x y r (n + 1) = circL x y r n ++ circPts x y n (circJ r n) := by
  unfold circL
  rw [List.range_succ, List.flatMap_append, List.flatMap_cons, List.flatMap_nil, List.append_nil]
/-- how many steps a circle has -/
def circN (r : Nat) : Nat := ((List.range (r + 2)).find? fun i => decide (circJ r i < i)).getD 0
theorem circM_le (r : Nat) {i i' : Nat} (h : i ≤ i') : circM r i' ≤ circM r i := by
  unfold circM
  have : (i : Int) * i ≤ (i' : Int) * i' := Int.mul_le_mul (by omega) (by omega) (by omega) (by omega)
  omega
theorem circJ_end (r : Nat) : circJ r (r + 1) < r + 1 := Nat.lt_succ_of_le (down_le _ _)
theorem find_first {p : Nat → Bool} : ∀ {n m : Nat}, n < m → p n = true → (∀ i, i < n → p i = false) → (List.range m).find? p = some n := by
  intro n m hn hp hb
  rw [List.find?_range_eq_some]
  refine ⟨by simpa using hp, by simpa using hn, fun j hj => by simp [hb j hj]⟩
theorem circN_is {r n : Nat} (hb : ∀ i, i < n → i ≤ circJ r i) (he : circJ r n < n) : circN r = n := by
  have hn : n ≤ r + 1 := by
    rcases Nat.lt_or_ge (r + 1) n with h | h
    · have := hb (r + 1) h
      have := circJ_end r
      omega
    · exact h
  unfold circN
  rw [find_first (n := n) (by omega) (by simpa using he) (fun i hi => by simpa using hb i hi)]
  rfl

theorem plots_eq (S : Int → Int → Bool) : ∀ (l : List (Int × Int)) (a b : Int), plots S l a b = (S a b || decide ((a, b) ∈ l)) := by
  intro l
  induction l generalizing S with
  | nil => intro a b; simp [plots]
  | cons p l ih =>
    intro a b
    have := ih (plot S p.1 p.2) a b
    rw [show plots S (p :: l) = plots (plot S p.1 p.2) l from rfl, this]
    unfold plot
    rw [Bool.or_assoc]
    congr 1
    obtain ⟨p1, p2⟩ := p
    rw [Bool.eq_iff_iff]
    simp [Prod.ext_iff]
theorem plots_app (S : Int → Int → Bool) (l l' : List (Int × Int)) : plots S (l ++ l') = plots (plots S l) l' := by unfold plots; rw [List.foldl_append]
end Go.Proofs.YtbfheehaagcmeaaDoor.can
namespace Go.Proofs.YtbfheehaagcmeaaDoor.can
open Go.RowKit Go.Proofs
set_option linter.unusedVariables false

theorem wrap64_in {z : Int} (h : -4611686018427387904 ≤ z ∧ z ≤ 4611686018427387904) : wrap64 z = z := by unfold wrap64; omega
theorem mul_is (t : TypeId) {a b c : Int} (h : a * b = c) (hc : -4611686018427387904 ≤ c ∧ c ≤ 4611686018427387904) : binOp .mul t (.int .i64 a) (.int .i64 b) = pure (.int .i64 c) := by
  show pure (Value.int .i64 (IntKind.i64.wrap (a * b))) = _
  rw [h, IntWalk.i64_in _ (by omega)]
theorem wrap_in {z : Int} (h : -4611686018427387904 ≤ z ∧ z ≤ 4611686018427387904) : IntKind.i64.wrap z = z := IntWalk.i64_in _ (by omega)
theorem sq_le {z B : Int} (h : -B ≤ z ∧ z ≤ B) : 0 ≤ z * z ∧ z * z ≤ B * B := by
  rcases Int.le_total 0 z with h0 | h0
  · exact ⟨Int.mul_nonneg h0 h0, Int.mul_le_mul h.2 h.2 h0 (by omega)⟩
  · have h1 : (-z) * (-z) ≤ B * B := Int.mul_le_mul (by omega) (by omega) (by omega) (by omega)
    have h2 : 0 ≤ (-z) * (-z) := Int.mul_nonneg (by omega) (by omega)
    rw [Int.neg_mul_neg] at h1 h2
    exact ⟨h2, h1⟩

set_option maxRecDepth 100000 in
theorem circ_index (i j k : Nat) (w : World) (hk : k < 8) : (Instr.index 97 (.agg #[.int .i64 i, .int .i64 j, .int .i64 i, .int .i64 (-j), .int .i64 (-i), .int .i64 j, .int .i64 (-i), .int .i64 (-j), .int .i64 j, .int .i64 i, .int .i64 j, .int .i64 (-i), .int .i64 (-j), .int .i64 i, .int .i64 (-j), .int .i64 (-i)]) (.int .i64 k)).run Tryd.prog w = .ok (.agg #[.int .i64 (((circPts 0 0 i j).getD k (0, 0)).1), .int .i64 (((circPts 0 0 i j).getD k (0, 0)).2)]) w := by
  have h8 : k = 0 ∨ k = 1 ∨ k = 2 ∨ k = 3 ∨ k = 4 ∨ k = 5 ∨ k = 6 ∨ k = 7 := by omega
  rcases h8 with rfl | rfl | rfl | rfl | rfl | rfl | rfl | rfl <;> simp only [circPts, List.getD_cons_zero, List.getD_cons_succ, Int.zero_add] <;> (show _ = _; kernel_rfl)
theorem circ_pts (x y : Int) (i j k : Nat) (hk : k < 8) : (circPts x y i j).take (k + 1) = (circPts x y i j).take k ++ [(x + ((circPts 0 0 i j).getD k (0, 0)).1, y + ((circPts 0 0 i j).getD k (0, 0)).2)] := by
  have h8 : k = 0 ∨ k = 1 ∨ k = 2 ∨ k = 3 ∨ k = 4 ∨ k = 5 ∨ k = 6 ∨ k = 7 := by omega
  rcases h8 with rfl | rfl | rfl | rfl | rfl | rfl | rfl | rfl <;> simp [circPts]
theorem circ_bd (i j k : Nat) (hk : k < 8) : -((i : Int) + j) ≤ ((circPts 0 0 i j).getD k (0, 0)).1 ∧ ((circPts 0 0 i j).getD k (0, 0)).1 ≤ i + j ∧ -((i : Int) + j) ≤ ((circPts 0 0 i j).getD k (0, 0)).2 ∧ ((circPts 0 0 i j).getD k (0, 0)).2 ≤ i + j := by
  have h8 : k = 0 ∨ k = 1 ∨ k = 2 ∨ k = 3 ∨ k = 4 ∨ k = 5 ∨ k = 6 ∨ k = 7 := by omega
  rcases h8 with rfl | rfl | rfl | rfl | rfl | rfl | rfl | rfl <;> simp [circPts] <;> omega

set_option maxRecDepth 100000 in
set_option maxHeartbeats 4000000 in
theorem circle_any (B b g W H : Nat) (S : Int → Int → Bool) (x y : Int) (r : Nat) (w : World) (hG : 2 < B) (hd : Dots w) (h : Canvas B b g W H S w)
    (hx : inPlane x = true) (hy : inPlane y = true) (hr : r ≤ 1048576) :
    Calls Tryd.prog 21 #[.pointer (some ⟨b, 0, none⟩), .int .i64 x, .int .i64 y, .int .i64 r] w fun e w' => e = .returned (.int .i64 0) ∧ Canvas B b g W H (plots S (circL x y r (circN r))) w' ∧ w.grownBy w' (some g) := by
  have HP := run.hid (plane_list [x, y] w (by simp))
  have HQ := run.hid (show [x, y].all inPlane = true by simp [hx, hy])
  unfold inPlane at hx hy
  simp only [decide_eq_true_eq] at hx hy
  have hG2 := h.2.1
  have HH := run.hid h
  have HD := run.hid hd
  clear h hd
  have hrr2 := sq_le (z := r) (B := 1048576) (by omega)
  obtain ⟨R2, hR2⟩ : ∃ R2 : Int, R2 = (r : Int) * r := ⟨_, rfl⟩
  rw [← hR2] at hrr2
  have hrr := mul_is 3 hR2.symm (by omega)
  have HR2 := run.hid hR2
  clear hR2
  go_enter Tryd.func21, Tryd.ntmps21
  go_wp2_with fail
  refine HP.out.mono ?_
  rw [HQ.out]
  rintro e w1 ⟨rfl, rfl⟩
  have hb0 := run.below_one w (.cells ([x, y].map (Value.int .i64)).toArray 3)
  have HC := run.hid (HH.out.below hb0)
  have HG := run.hid (World.grownBy_alloc w (.cells ([x, y].map (Value.int .i64)).toArray 3) (some g))
  clear hb0 HP HQ HH
  generalize w.alloc (.cells ([x, y].map (Value.int .i64)).toArray 3) = w1 at *
  go_wp2
  go_loopw [9, 10] (fun jv iv wr => ∃ j i : Nat, jv = .int .i64 j ∧ iv = .int .i64 i ∧ j ≤ r ∧ i ≤ r + 1 ∧ Hid (down (circM r i) j = circJ r i) ∧ Hid (∀ i', i' < i → i' ≤ circJ r i') ∧ Hid (Canvas B b g W H (plots S (circL x y r i)) wr) ∧ Hid (w.grownBy wr (some g))) (fun _ iv _ => r + 1 - (intOf iv).toNat)
  case atStart => exact ⟨r, 0, rfl, rfl, Nat.le_refl _, Nat.zero_le _, rfl, fun _ h => absurd h (Nat.not_lt_zero _), HC, HG⟩
  case round =>
    obtain ⟨j0, i, rfl, rfl, hj0, hi, HJ, HI, HCr, HGr⟩ := hrel
    generalize wr = wz at *
    have hii2 := sq_le (z := i) (B := 1048577) (by omega)
    have HM0 := run.hid (show circM r i = 4 * (R2 - (i : Int) * i) by rw [HR2.out]; rfl)
    obtain ⟨I2, hI2⟩ : ∃ I2 : Int, I2 = (i : Int) * i := ⟨_, rfl⟩
    rw [← hI2] at hii2 HM0
    have hii := mul_is 3 hI2.symm (by omega)
    clear hI2
    go_wp2
    go_loop [9] (fun jv => ∃ j : Nat, jv = .int .i64 j ∧ j ≤ r ∧ Hid (down (circM r i) j = circJ r i)) (fun jv => (intOf jv).toNat)
    case atStart => exact ⟨j0, rfl, hj0, HJ⟩
    case round =>
      obtain ⟨j, rfl, hj, HJ⟩ := hrel
      have hjb := sq_le (z := 2 * (j : Int) - 1) (B := 2097151) (by omega)
      have HS := run.hid (fun h1 h2 => down_step (m := circM r i) (k := j) h1 h2)
      have HT := run.hid (fun h1 => down_stop (m := circM r i) (k := j) h1)
      rw [HM0.out] at HS HT
      obtain ⟨A, hA⟩ : ∃ A : Int, A = (2 * (j : Int) - 1) * (2 * (j : Int) - 1) := ⟨_, rfl⟩
      rw [← hA] at hjb HS HT
      have hjj := mul_is 3 hA.symm (by omega)
      clear hA
      by_cases hgo : 0 < j ∧ 4 * (R2 - I2) < A
      · obtain ⟨hg1, hg2⟩ := hgo
        have HN : Hid (down (circM r i) (j - 1) = circJ r i) := by
          have := HS.out hg1 hg2
          rw [← HM0.out] at this
          rw [← this]; exact HJ.out
        clear HS HT HJ
        go_wp2
        go_round
        case rel => exact ⟨j - 1, by go_num, by omega, HN⟩
        case measure => simp [intOf]; omega
      · have hE : circJ r i = j := by
          rw [← HJ.out, HM0.out]
          exact HT.out (fun h => by omega)
        have HE := run.hid hE
        clear hE HS HT HJ HM0 HR2
        have HX : (j ≤ 0 ∨ (0 < j ∧ A ≤ 4 * (R2 - I2))) := by omega
        clear hgo
        by_cases hend : j < i
        · have HN := run.hid (circN_is HI.out (by rw [HE.out]; exact hend))
          rcases HX with hX | ⟨hX0, hX⟩
          all_goals
            go_wp2
            go_ret
            rw [HN.out]
            exact ⟨rfl, HCr.out, HGr.out⟩
        · have hij : i ≤ j := by omega
          have hir : i ≤ r := by omega
          have HIX := run.hid (circ_index i j)
          have HPT := run.hid (circ_pts x y i j)
          have HPB := run.hid (circ_bd i j)
          have HI2 : Hid (∀ i', i' < i + 1 → i' ≤ circJ r i') := fun i' h => by
            rcases Nat.lt_or_ge i' i with h1 | h1
            · exact HI.out i' h1
            · rw [show i' = i by omega, HE.out]; exact hij
          have HJ2 : Hid (down (circM r (i + 1)) j = circJ r (i + 1)) := by
            rw [← HE.out]; exact down_down (circM_le r (Nat.le_succ i)) r
          have HL := run.hid (circL_succ x y r i)
          rw [HE.out] at HL
          clear HI HE hend
          rcases HX with hX | ⟨hX0, hX⟩
          all_goals
            go_wp2
            generalize hAGG : Value.agg #[.int .i64 i, .int .i64 j, .int .i64 i, .int .i64 (-j), .int .i64 (-i), .int .i64 j, .int .i64 (-i), .int .i64 (-j), .int .i64 j, .int .i64 i, .int .i64 j, .int .i64 (-i), .int .i64 (-j), .int .i64 i, .int .i64 (-j), .int .i64 (-i)] = AGG at *
            clear hAGG hii2 hii hX
            go_loopw [89] (fun kv wr => ∃ k : Nat, k ≤ 8 ∧ kv = .int .i64 k ∧ Hid (Canvas B b g W H (plots (plots S (circL x y r i)) ((circPts x y i j).take k)) wr) ∧ Hid (w.grownBy wr (some g))) (fun kv _ => 8 - (intOf kv).toNat)
            case atStart => exact ⟨0, by omega, rfl, HCr, HGr⟩
            case round =>
              obtain ⟨k, hk, rfl, HCk, HGk⟩ := hrel
              by_cases h8 : k < 8
              · have hix := fun w => HIX.out k w h8
                obtain ⟨c1, c2, c3, c4⟩ := HPB.out k h8
                have HT := run.hid (HPT.out k h8)
                obtain ⟨p1, hp1⟩ : ∃ p1, p1 = ((circPts 0 0 i j).getD k (0, 0)).1 := ⟨_, rfl⟩
                obtain ⟨p2, hp2⟩ : ∃ p2, p2 = ((circPts 0 0 i j).getD k (0, 0)).2 := ⟨_, rfl⟩
                rw [← hp1] at hix HT c1 c2
                rw [← hp2] at hix HT c3 c4
                clear hp1 hp2
                have HC2 := run.hid (HCk.out.below (run.below_one wr (.cells #[.int .i64 p1, .int .i64 p2] 22)))
                have HG2 := run.hid (run.grown_trans HGk.out (World.grownBy_alloc wr (.cells #[.int .i64 p1, .int .i64 p2] 22) (some g)) (.inl rfl))
                go_wp2_with fail
                refine (dot_any B b g W H _ _ _ _ (HD.out.of HG2.out (show 2 ≠ g by omega)) HC2.out).mono ?_
                rintro e w3 ⟨rfl, hc3, hg3⟩
                have HC3 : Hid (Canvas B b g W H (plots (plots S (circL x y r i)) ((circPts x y i j).take (k + 1))) w3) := by rw [HT.out, plots_snoc]; exact hc3
                have HG3 := run.hid (run.grown_trans HG2.out hg3 (.inl rfl))
                clear hc3 hg3 HC2 HG2
                go_wp2
                go_roundw
                case rel => exact ⟨k + 1, by omega, by go_num, HC3, HG3⟩
                case measure => simp [intOf]; omega
              · obtain rfl : k = 8 := by omega
                have HCn : Hid (Canvas B b g W H (plots S (circL x y r (i + 1))) wr) := by
                  rw [HL.out, plots_app]; exact HCk.out
                go_wp2
                go_roundw
                case rel => exact ⟨j, i + 1, rfl, by go_num, by omega, by omega, HJ2, HI2, HCn, HGk⟩
                case measure => simp [intOf]; omega

theorem circle_no (b : Nat) (x y r : Int) (w : World) (hp : [x, y].all inPlane = false ∨ r < 0 ∨ 1048576 < r) :
    Calls Tryd.prog 21 #[.pointer (some ⟨b, 0, none⟩), .int .i64 x, .int .i64 y, .int .i64 r] w fun e w' => e = .returned (.int .i64 2) ∧ Below w.heap.size w w' := by
  have HP := run.hid (plane_list [x, y] w (by simp))
  by_cases hq : [x, y].all inPlane = true
  · have hr : r < 0 ∨ 1048576 < r := hp.resolve_left (by rw [hq]; exact fun h => by cases h)
    have HQ := run.hid hq
    clear hp hq
    rcases hr with hr | hr
    · go_enter Tryd.func21, Tryd.ntmps21
      go_wp2_with fail
      refine HP.out.mono ?_
      rw [HQ.out]
      rintro e w1 ⟨rfl, rfl⟩
      go_wp2
      go_ret
      exact ⟨rfl, run.below_one _ _⟩
    · have hr2 : ¬ r < 0 := by omega
      go_enter Tryd.func21, Tryd.ntmps21
      go_wp2_with fail
      refine HP.out.mono ?_
      rw [HQ.out]
      rintro e w1 ⟨rfl, rfl⟩
      go_wp2
      go_ret
      exact ⟨rfl, run.below_one _ _⟩
  · have HQ := run.hid (Bool.eq_false_iff.2 hq)
    clear hp hq
    go_enter Tryd.func21, Tryd.ntmps21
    go_wp2_with fail
    refine HP.out.mono ?_
    rw [HQ.out]
    rintro e w1 ⟨rfl, rfl⟩
    go_wp2
    go_ret
    exact ⟨rfl, run.below_one _ _⟩
theorem circle_nil (x y r : Int) (w : World) :
    Calls Tryd.prog 21 #[.pointer none, .int .i64 x, .int .i64 y, .int .i64 r] w fun e w' => e = .returned (.int .i64 1) ∧ w = w' := by
  go_enter Tryd.func21, Tryd.ntmps21
  go_wp2
  go_ret
  exact ⟨rfl, rfl⟩
end Go.Proofs.YtbfheehaagcmeaaDoor.can
