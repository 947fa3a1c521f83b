/-
  The law CanvasCircle: what it asks of a circle's dots, plainly; its walk.
-/
import Derived.Test.YtghbpbaopcibkaaDoorCanLawLine
import Derived.Test.YtghbpbaopcibkaaDoorCanCirc2
namespace Go.Proofs.YtghbpbaopcibkaaDoor.can
open Go.RowKit Go.Proofs
set_option linter.unusedVariables false

/-- how far across and how far down -/
def onCirc (r : Nat) (p q : Int) : Prop := ∃ t, t < circN r ∧ ((p.natAbs = t ∧ q.natAbs = circJ r t) ∨ (p.natAbs = circJ r t ∧ q.natAbs = t))
theorem mem_pts (x y p q : Int) (t j : Nat) : (x + p, y + q) ∈ circPts x y t j ↔ ((p.natAbs = t ∧ q.natAbs = j) ∨ (p.natAbs = j ∧ q.natAbs = t)) := by
  unfold circPts
  simp only [List.mem_cons, List.not_mem_nil, or_false, Prod.mk.injEq]
  omega
theorem mem_circ (x y p q : Int) (r : Nat) : (x + p, y + q) ∈ circL x y r (circN r) ↔ onCirc r p q := by
  unfold circL onCirc
  rw [List.mem_flatMap]
  constructor
  · rintro ⟨t, ht, h⟩
    exact ⟨t, by simpa using ht, (mem_pts _ _ _ _ _ _).1 h⟩
  · rintro ⟨t, ht, h⟩
    exact ⟨t, by simpa using ht, (mem_pts _ _ _ _ _ _).2 h⟩
def circS (a b : Int) (r : Nat) : Int → Int → Bool := plots (fun _ _ => false) (circL a b r (circN r))
theorem circS_iff (a b p q : Int) (r : Nat) : circS a b r (a + p) (b + q) = true ↔ onCirc r p q := by
  unfold circS
  rw [plots_eq, Bool.false_or, decide_eq_true_eq, mem_circ]
theorem bool_iff {x y : Bool} (h : x = true ↔ y = true) : x = y := by cases x <;> cases y <;> simp_all
theorem circ_same (a b p q : Int) (r : Nat) : circS a b r (a - p) (b + q) = circS a b r (a + p) (b + q) ∧ circS a b r (a + p) (b - q) = circS a b r (a + p) (b + q) ∧ circS a b r (a + q) (b + p) = circS a b r (a + p) (b + q) := by
  refine ⟨bool_iff ?_, bool_iff ?_, bool_iff ?_⟩
  · rw [show a - p = a + -p by omega, circS_iff, circS_iff]
    unfold onCirc
    rw [Int.natAbs_neg]
  · rw [show b - q = b + -q by omega, circS_iff, circS_iff]
    unfold onCirc
    rw [Int.natAbs_neg]
  · rw [circS_iff, circS_iff]
    unfold onCirc
    exact ⟨fun ⟨t, h, h2⟩ => ⟨t, h, by omega⟩, fun ⟨t, h, h2⟩ => ⟨t, h, by omega⟩⟩

theorem circ_small : ∀ r, r < 19 → 0 < circN r ∧ circN r ≤ 20 ∧ circJ r 0 = r ∧ ∀ t, t < circN r → circJ r t ≤ r ∧ t ≤ r ∧ t * t + circJ r t * circJ r t < (r + 1) * (r + 1) ∧ (0 < r → (r - 1) * (r - 1) < t * t + circJ r t * circJ r t) := by
  have h : ∀ r ∈ List.range 19, (0 < circN r ∧ circN r ≤ 20 ∧ circJ r 0 = r ∧ ∀ t ∈ List.range (circN r), circJ r t ≤ r ∧ t ≤ r ∧ t * t + circJ r t * circJ r t < (r + 1) * (r + 1) ∧ (0 < r → (r - 1) * (r - 1) < t * t + circJ r t * circJ r t)) := by decide +kernel
  intro r hr
  obtain ⟨h0, h1, h2, h3⟩ := h r (by simpa using hr)
  exact ⟨h0, h1, h2, fun t ht => h3 t (by simpa using ht)⟩

/-- the dots lie less than 1 from the circle -/
theorem circ_round {a b p q : Int} {r : Nat} (hr : r < 19) (h : circS a b r (a + p) (b + q) = true) :
    p.natAbs ≤ r ∧ q.natAbs ≤ r ∧ p * p + q * q < ((r : Int) + 1) * (r + 1) ∧ (0 < r → ((r : Int) - 1) * (r - 1) < p * p + q * q) := by
  obtain ⟨t, ht, h2⟩ := (circS_iff a b p q r).1 h
  obtain ⟨h4, h5, h6, h7⟩ := (circ_small r hr).2.2.2 t ht
  have e : p * p + q * q = ((t * t + circJ r t * circJ r t : Nat) : Int) := by
    have sq : ∀ z : Int, z * z = ((z.natAbs * z.natAbs : Nat) : Int) := fun z => (Int.natAbs_mul_self (a := z)).symm
    rw [sq p, sq q]
    rcases h2 with ⟨h1, h2⟩ | ⟨h1, h2⟩
    · rw [h1, h2]; push_cast; rfl
    · rw [h1, h2, Nat.add_comm (t * t)]; push_cast; rfl
  refine ⟨by omega, by omega, ?_, fun h0 => ?_⟩
  · rw [e]; exact_mod_cast h6
  · have h8 := h7 h0
    rw [e, show (r : Int) - 1 = ((r - 1 : Nat) : Int) by omega]
    exact_mod_cast h8
theorem circ_out {a b : Int} {r : Nat} (hr : r < 19) : circS a b r (a + r) b = true ∧ circS a b r a (b + r) = true ∧ circS a b r (a - r) b = true ∧ circS a b r a (b - r) = true := by
  obtain ⟨h0, h1, h2, h3⟩ := circ_small r hr
  have k : ∀ p q : Int, (p.natAbs = 0 ∧ q.natAbs = r) ∨ (p.natAbs = r ∧ q.natAbs = 0) → circS a b r (a + p) (b + q) = true := fun p q h => (circS_iff a b p q r).2 ⟨0, h0, by rw [h2]; exact h⟩
  refine ⟨?_, ?_, ?_, ?_⟩
  · have := k r 0 (by omega); rwa [Int.add_zero] at this
  · have := k 0 r (by omega); rwa [Int.add_zero] at this
  · have := k (-r) 0 (by omega); rwa [Int.add_zero, show a + -(r : Int) = a - r by omega] at this
  · have := k 0 (-r) (by omega); rwa [Int.add_zero, show b + -(r : Int) = b - r by omega] at this

/-- 'Has' where whatever is set lies within -/
theorem has_all {w0 w : World} {B b g W H : Nat} {S : Int → Int → Bool} (h : St w0 B b g W H S w) (hin : ∀ x y, S x y = true → inside W H x y = true) (x y : Int) :
    Calls Tryd.prog 18 #[.pointer (some ⟨b, 0, none⟩), .int .i64 x, .int .i64 y] w fun e w' => e = .returned (.bool (S x y)) ∧ St w0 B b g W H S w' :=
  (has_any B b g W H S x y w h.dots h.canvas).mono fun e w' ⟨he, hb⟩ => ⟨by
    rw [he]
    congr 2
    cases hs : S x y with
    | true => rw [hin x y hs]; rfl
    | false => rw [Bool.and_false], h.next hb⟩
theorem circ_in {a b : Int} {r : Nat} (hr : r < 19) (ha : r ≤ a ∧ a ≤ 39 - r) (hb : r ≤ b ∧ b ≤ 39 - r) : ∀ x y, circS a b r x y = true → inside 20 10 x y = true := by
  intro x y h
  have h1 := circ_round (a := a) (b := b) (p := x - a) (q := y - b) hr (by rwa [show a + (x - a) = x by omega, show b + (y - b) = y by omega])
  unfold inside
  simp only [decide_eq_true_eq]
  omega

theorem circ_law {a b : Int} {r : Nat} (hr : r < 19) (p q : Int) : (circS a b r (a + p) (b + q) = false ∨ (circS a b r (a + p) (b + q) = true ∧ p * p + q * q < ((r : Int) + 1) * (r + 1) ∧ (r = 0 ∨ (0 < r ∧ ((r : Int) - 1) * (r - 1) < p * p + q * q)))) := by
  cases h : circS a b r (a + p) (b + q) with
  | false => exact .inl rfl
  | true =>
    obtain ⟨-, -, h1, h2⟩ := circ_round hr h
    refine .inr ⟨rfl, h1, ?_⟩
    rcases Nat.eq_zero_or_pos r with h0 | h0
    · exact .inl h0
    · exact .inr ⟨h0, h2 h0⟩

set_option maxRecDepth 100000 in
set_option maxHeartbeats 8000000 in
theorem lawCircle_any (x0 y0 r0 : Int) (w : World) (h0 : (Lit.int .i64 x0).wf = true) (h1 : (Lit.int .i64 y0).wf = true) (h2 : (Lit.int .i64 r0).wf = true) (hD : Dots w) :
    Calls Tryd.prog 6 #[.int .i64 x0, .int .i64 y0, .int .i64 r0] w fun e w' => e = .returned (.bool true) ∧ Below w.heap.size w w' := by
  have N1 := run.hid (fun w => near_any r0 0 18 w (wf_i64 h2) (by omega) (by omega) (by omega))
  have b1 := near_in (n := r0) (lo := 0) (hi := 18) (by omega)
  generalize nearT r0 0 18 = r' at *
  obtain ⟨r, rfl⟩ : ∃ r : Nat, r' = r := ⟨r'.toNat, by omega⟩
  have N2 := run.hid (fun w => near_any x0 r (39 - r) w (wf_i64 h0) (by omega) (by omega) (by omega))
  have N3 := run.hid (fun w => near_any y0 r (39 - r) w (wf_i64 h1) (by omega) (by omega) (by omega))
  have b2 := near_in (n := x0) (lo := r) (hi := 39 - r) (by omega)
  have b3 := near_in (n := y0) (lo := r) (hi := 39 - r) (by omega)
  clear h0 h1 h2
  generalize nearT x0 r (39 - r) = a at *
  generalize nearT y0 r (39 - r) = b at *
  have hlt := hD.lt
  have HN := run.hid (new_ok 20 10 w (by omega) (by omega) (by omega))
  have hC0 := canvas_new w.heap.size 20 10 w (Nat.le_refl _) (by omega) (by omega) (by omega)
  have hB0 := run.below_two w (.cells (madeCells #[.int .u8 0] (20 * 10)) 5) (.cells #[.int .i64 (20 : Nat), .int .i64 (10 : Nat), .slice (some ⟨w.heap.size, 0, none⟩) (20 * 10) (20 * 10)] 89)
  generalize (w.alloc (.cells (madeCells #[.int .u8 0] (20 * 10)) 5)).alloc (.cells #[.int .i64 (20 : Nat), .int .i64 (10 : Nat), .slice (some ⟨w.heap.size, 0, none⟩) (20 * 10) (20 * 10)] 89) = wq at *
  have hd1 := hD.below hB0 hlt
  have HL := run.hid (circle_any w.heap.size (w.heap.size + 1) w.heap.size 20 10 none0 a b r wq hlt hd1 hC0 (by unfold inPlane; simp; omega) (by unfold inPlane; simp; omega) (by omega))
  change Hid (Calls _ _ _ _ fun e w' => e = .returned (.int .i64 0) ∧ Canvas w.heap.size (w.heap.size + 1) w.heap.size 20 10 (circS a b r) w' ∧ _) at HL
  have HIN := run.hid (circ_in (a := a) (b := b) (r := r) (by omega) (by omega) (by omega))
  have HLAW := run.hid (circ_law (a := a) (b := b) (r := r) (by omega))
  have HSAME := run.hid (fun p q => circ_same a b p q r)
  obtain ⟨o1, o2, o3, o4⟩ := circ_out (a := a) (b := b) (r := r) (by omega)
  have O1 := run.hid o1
  have O2 := run.hid o2
  have O3 := run.hid o3
  have O4 := run.hid o4
  clear hC0 o1 o2 o3 o4
  generalize circS a b r = S at *
  have hm1 := sq_le (z := (r : Int) + 1) (B := 19) (by omega)
  obtain ⟨M1, hM1⟩ : ∃ M1, M1 = ((r : Int) + 1) * (r + 1) := ⟨_, rfl⟩
  rw [← hM1] at HLAW hm1
  have hmul1 := mul_is 3 hM1.symm (by omega)
  have hm2 := sq_le (z := (r : Int) - 1) (B := 19) (by omega)
  obtain ⟨M2, hM2⟩ : ∃ M2, M2 = ((r : Int) - 1) * (r - 1) := ⟨_, rfl⟩
  rw [← hM2] at HLAW hm2
  have hmul2 := mul_is 3 hM2.symm (by omega)
  clear hM1 hM2
  go_enter Tryd.func6, Tryd.ntmps6
  go_wp2_with fail
  refine (N1.out _).mono ?_
  rintro e w1 ⟨rfl, rfl⟩
  go_wp2_with fail
  refine (N2.out _).mono ?_
  rintro e w1 ⟨rfl, rfl⟩
  go_wp2_with fail
  refine (N3.out _).mono ?_
  rintro e w1 ⟨rfl, rfl⟩
  go_wp2_with fail
  refine HN.out.mono ?_
  rintro e w' ⟨rfl, rfl⟩
  go_wp2_with fail
  refine HL.out.mono ?_
  rintro e w2 ⟨rfl, hc2, hg2⟩
  have hB2 := hB0.grown hg2 hB0.size (by rintro k ⟨⟩; exact Nat.le_refl _)
  have hd2 := hD.below hB2 hlt
  have HS : Hid (St w w.heap.size (w.heap.size + 1) w.heap.size 20 10 S w2) := ⟨hc2, hd2, hB2, hlt⟩
  clear HN HL hc2 hg2 hd2 hd1 hD hB0 hB2 N1 N2 N3
  go_wp2_with fail
  refine (has_all HS.out HIN.out _ _).mono ?_
  rintro e w3 ⟨rfl, hs3⟩
  rw [O1.out]
  have HS3 := run.hid hs3
  clear hs3 HS
  go_wp2_with fail
  refine (has_all HS3.out HIN.out _ _).mono ?_
  rintro e w4 ⟨rfl, hs4⟩
  rw [O2.out]
  have HS4 := run.hid hs4
  clear hs4 HS3
  go_wp2_with fail
  refine (has_all HS4.out HIN.out _ _).mono ?_
  rintro e w5 ⟨rfl, hs5⟩
  rw [O3.out]
  have HS5 := run.hid hs5
  clear hs5 HS4
  go_wp2_with fail
  refine (has_all HS5.out HIN.out _ _).mono ?_
  rintro e w6 ⟨rfl, hs6⟩
  rw [O4.out]
  have HS6 := run.hid hs6
  clear hs6 HS5 O1 O2 O3 O4
  go_wp2
  go_loopw [11] (fun iv wr => ∃ i : Int, iv = .int .i64 i ∧ -(r : Int) - 1 ≤ i ∧ i ≤ r + 2 ∧ Hid (St w w.heap.size (w.heap.size + 1) w.heap.size 20 10 S wr)) (fun iv _ => (r + 2 - intOf iv).toNat)
  case atStart => exact ⟨_, rfl, by omega, by omega, HS6⟩
  case round =>
    obtain ⟨i, rfl, hi1, hi2, HSr⟩ := hrel
    generalize wr = wz at *
    have hii2 := sq_le (z := i) (B := 20) (by omega)
    obtain ⟨I2, hI2⟩ : ∃ I2, I2 = i * i := ⟨_, rfl⟩
    rw [← hI2] at hii2
    have hmul3 := mul_is 3 hI2.symm (by omega)
    have HI2 := run.hid hI2
    clear hI2
    by_cases hlt1 : i ≤ (r : Int) + 1
    · go_wp2
      generalize decide (i ≤ (r : Int) + 1) = dq1
      go_loopw [12] (fun kv wr => ∃ k : Int, kv = .int .i64 k ∧ -(r : Int) - 1 ≤ k ∧ k ≤ r + 2 ∧ Hid (St w w.heap.size (w.heap.size + 1) w.heap.size 20 10 S wr)) (fun kv _ => (r + 2 - intOf kv).toNat)
      case atStart => exact ⟨_, rfl, by omega, by omega, HSr⟩
      case round =>
        obtain ⟨k, rfl, hk1, hk2, HSk⟩ := hrel
        by_cases hlt2 : k ≤ (r : Int) + 1
        · have hkk2 := sq_le (z := k) (B := 20) (by omega)
          have hlaw := HLAW.out i k
          obtain ⟨s1, s2, s3⟩ := HSAME.out i k
          rw [← HI2.out] at hlaw
          obtain ⟨K2, hK2⟩ : ∃ K2, K2 = k * k := ⟨_, rfl⟩
          rw [← hK2] at hkk2 hlaw
          have hmul4 := mul_is 3 hK2.symm (by omega)
          clear hK2
          have T1 := run.hid s1
          have T2 := run.hid s2
          have T3 := run.hid s3
          clear s1 s2 s3
          go_wp2_with fail
          refine (has_all HSk.out HIN.out _ _).mono ?_
          rintro e w7 ⟨rfl, hs7⟩
          have HS7 := run.hid hs7
          clear hs7
          generalize S (a + i) (b + k) = sv at *
          go_wp2_with fail
          refine (has_all HS7.out HIN.out _ _).mono ?_
          rintro e w8 ⟨rfl, hs8⟩
          rw [T1.out]
          have HS8 := run.hid hs8
          clear hs8 HS7
          go_wp2_with fail
          refine (has_all HS8.out HIN.out _ _).mono ?_
          rintro e w9 ⟨rfl, hs9⟩
          rw [T2.out]
          have HS9 := run.hid hs9
          clear hs9 HS8
          go_wp2_with fail
          refine (has_all HS9.out HIN.out _ _).mono ?_
          rintro e w10 ⟨rfl, hs10⟩
          rw [T3.out]
          have HS10 := run.hid hs10
          clear hs10 HS9 T1 T2 T3
          rcases hlaw with rfl | ⟨rfl, hl1, hl2⟩
          · go_wp2
            go_roundw
            case rel => exact ⟨k + 1, rfl, by omega, by omega, HS10⟩
            case measure => simp [intOf]; omega
          · rcases hl2 with hr0 | ⟨hr0, hl2⟩
            · have hr0' : ¬ (0 : Int) < r := by omega
              clear hr0
              go_wp2
              go_roundw
              case rel => exact ⟨k + 1, rfl, by omega, by omega, HS10⟩
              case measure => simp [intOf]; omega
            · go_wp2
              go_roundw
              case rel => exact ⟨k + 1, rfl, by omega, by omega, HS10⟩
              case measure => simp [intOf]; omega
        · go_wp2
          go_roundw
          case rel => exact ⟨i + 1, rfl, by omega, by omega, HSk⟩
          case measure => simp [intOf]; omega
    · go_wp2_with fail
      refine (alive_any _ HSr.out.dots).mono ?_
      rintro e w5 ⟨rfl, hb5⟩
      have HB5 := run.hid (HSr.out.below.trans (hb5.mono HSr.out.below.size))
      clear hb5
      go_wp2
      go_ret
      exact ⟨rfl, HB5.out⟩
end Go.Proofs.YtghbpbaopcibkaaDoor.can
