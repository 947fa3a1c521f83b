/-
  The walk of the law CanvasLine.
-/
import Derived.Test.YtghbpbaopcibkaaDoorCanNear
import Derived.Test.YtghbpbaopcibkaaDoorCanLineP
import Derived.Lib.MinMax
namespace Go.Proofs.YtghbpbaopcibkaaDoor.can
open Go.RowKit Go.Proofs
set_option linter.unusedVariables false

theorem wf_i64 {x : Int} (h : (Lit.int .i64 x).wf = true) : -9223372036854775808 ≤ x ∧ x ≤ 9223372036854775807 := by
  simpa [Lit.wf, show IntKind.i64.min = -9223372036854775808 from rfl] using h

/-- the world of a law whose canvas is made: it stays as it is drawn -/
structure St (w0 : World) (B b g W H : Nat) (S : Int → Int → Bool) (w : World) : Prop where
  canvas : Canvas B b g W H S w
  dots : Dots w
  below : Below w0.heap.size w0 w
  low : 3 < w0.heap.size
theorem St.next {w0 w w' : World} {B b g W H : Nat} {S : Int → Int → Bool} (h : St w0 B b g W H S w) (hb : Below w.heap.size w w') : St w0 B b g W H S w' :=
  ⟨h.canvas.below hb, h.dots.below hb (Nat.lt_of_lt_of_le h.low h.below.size), h.below.trans (hb.mono h.below.size), h.low⟩
theorem has_st {w0 w : World} {B b g W H : Nat} {S : Int → Int → Bool} (h : St w0 B b g W H S w) (i k : Nat) (hi : i < 2 * W) (hk : k < 4 * H) :
    Calls Tryd.prog 18 #[.pointer (some ⟨b, 0, none⟩), .int .i64 i, .int .i64 k] w fun e w' => e = .returned (.bool (S i k)) ∧ St w0 B b g W H S w' :=
  (has_any B b g W H S i k w h.dots h.canvas).mono fun e w' ⟨he, hb⟩ => ⟨by
    rw [he, show inside W H i k = true by unfold inside; simp; omega, Bool.true_and], h.next hb⟩

theorem countG_le (G : Nat → Nat → Bool) (i k : Nat) : countG G i k ≤ 40 * i + k := by
  unfold countG
  have h1 : ((List.range k).filter fun b => G i b).length ≤ k := by
    have := List.length_filter_le (fun b => G i b) (List.range k)
    simpa using this
  have h2 : ∀ i, ((List.range i).map fun a => ((List.range 40).filter fun b => G a b).length).sum ≤ 40 * i := by
    intro i
    induction i with
    | zero => simp
    | succ i ih =>
      rw [List.range_succ (n := i), List.map_append, List.sum_append]
      have := List.length_filter_le (fun b => G i b) (List.range 40)
      simp only [List.length_range] at this
      simp only [List.map_cons, List.map_nil, List.sum_cons, List.sum_nil]
      omega
  have := h2 i
  omega

def lastV (i0 n : Nat) (f : Nat → Nat) (i : Nat) : Int := if 0 < i ∧ i0 ≤ i - 1 ∧ i - 1 ≤ i0 + n then (f (i - 1) : Int) else -1
def atV (i0 n : Nat) (f : Nat → Nat) (i k : Nat) : Int := if i0 ≤ i ∧ i ≤ i0 + n ∧ f i < k then (f i : Int) else -1
theorem at_zero (i0 n : Nat) (f : Nat → Nat) (i : Nat) : atV i0 n f i 0 = -1 := by unfold atV; rw [if_neg (by omega)]
theorem last_zero (i0 n : Nat) (f : Nat → Nat) : lastV i0 n f 0 = -1 := by unfold lastV; rw [if_neg (by omega)]
theorem at_last {G : Nat → Nat → Bool} {i0 n : Nat} {f : Nat → Nat} (h : Graph G i0 n f) (i : Nat) : atV i0 n f i 40 = lastV i0 n f (i + 1) := by
  have := h.low i
  unfold atV lastV
  rw [Nat.add_sub_cancel]
  by_cases hin : i0 ≤ i ∧ i ≤ i0 + n
  · rw [if_pos (by omega), if_pos (by omega)]
  · rw [if_neg (by omega), if_neg (by omega)]
theorem at_next {G : Nat → Nat → Bool} {i0 n : Nat} {f : Nat → Nat} (h : Graph G i0 n f) {i k : Nat} (hi : i < 40) (hk : k < 40) :
    (G i k = true → atV i0 n f i k = -1 ∧ atV i0 n f i (k + 1) = k) ∧ (G i k = false → atV i0 n f i (k + 1) = atV i0 n f i k) := by
  have hiff := h.iff i k hi hk
  unfold atV
  refine ⟨fun hg => ?_, fun hg => ?_⟩
  · obtain ⟨h1, h2, h3⟩ := hiff.1 hg
    rw [if_neg (by omega), if_pos (by omega)]
    exact ⟨rfl, by rw [h3]⟩
  · have hn : ¬ (i0 ≤ i ∧ i ≤ i0 + n ∧ k = f i) := fun hc => by rw [hiff.2 hc] at hg; cases hg
    by_cases hc : i0 ≤ i ∧ i ≤ i0 + n ∧ f i < k
    · rw [if_pos hc, if_pos (by omega)]
    · rw [if_neg hc, if_neg (by omega)]
theorem last_beside {G : Nat → Nat → Bool} {i0 n : Nat} {f : Nat → Nat} (h : Graph G i0 n f) (i : Nat) : lastV i0 n f i < 0 ∨ lastV i0 n f (i + 1) < 0 ∨ (lastV i0 n f (i + 1) ≤ lastV i0 n f i + 1 ∧ lastV i0 n f i - 1 ≤ lastV i0 n f (i + 1)) := by
  unfold lastV
  rw [Nat.add_sub_cancel]
  by_cases h1 : 0 < i ∧ i0 ≤ i - 1 ∧ i - 1 ≤ i0 + n
  · by_cases h2 : 0 < i + 1 ∧ i0 ≤ i ∧ i ≤ i0 + n
    · rw [if_pos h1, if_pos h2]
      have := h.next (i - 1) (by omega) (by omega)
      rw [show i - 1 + 1 = i by omega] at this
      omega
    · rw [if_neg h2]; omega
  · rw [if_neg h1]; omega
theorem last_bd {G : Nat → Nat → Bool} {i0 n : Nat} {f : Nat → Nat} (h : Graph G i0 n f) (i : Nat) : -1 ≤ lastV i0 n f i ∧ lastV i0 n f i < 40 := by
  unfold lastV
  split
  · have := h.low (i - 1); omega
  · omega
theorem at_bd {G : Nat → Nat → Bool} {i0 n : Nat} {f : Nat → Nat} (h : Graph G i0 n f) (i k : Nat) : -1 ≤ atV i0 n f i k ∧ atV i0 n f i k < 40 := by
  unfold atV
  split
  · have := h.low i; omega
  · omega

set_option maxRecDepth 100000 in
set_option maxHeartbeats 8000000 in
theorem lawLine_any (x0 y0 x1 y1 : Int) (w : World) (h0 : (Lit.int .i64 x0).wf = true) (h1 : (Lit.int .i64 y0).wf = true) (h2 : (Lit.int .i64 x1).wf = true) (h3 : (Lit.int .i64 y1).wf = true) (hD : Dots w) :
    Calls Tryd.prog 4 #[.int .i64 x0, .int .i64 y0, .int .i64 x1, .int .i64 y1] w fun e w' => e = .returned (.bool true) ∧ Below w.heap.size w w' := by
  have N1 := run.hid (fun w => near_any x0 0 39 w (wf_i64 h0) (by omega) (by omega) (by omega))
  have N2 := run.hid (fun w => near_any y0 0 39 w (wf_i64 h1) (by omega) (by omega) (by omega))
  have N3 := run.hid (fun w => near_any x1 0 39 w (wf_i64 h2) (by omega) (by omega) (by omega))
  have N4 := run.hid (fun w => near_any y1 0 39 w (wf_i64 h3) (by omega) (by omega) (by omega))
  have b1 := near_in (n := x0) (lo := 0) (hi := 39) (by omega)
  have b2 := near_in (n := y0) (lo := 0) (hi := 39) (by omega)
  have b3 := near_in (n := x1) (lo := 0) (hi := 39) (by omega)
  have b4 := near_in (n := y1) (lo := 0) (hi := 39) (by omega)
  clear h0 h1 h2 h3
  generalize nearT x0 0 39 = a at *
  generalize nearT y0 0 39 = b at *
  generalize nearT x1 0 39 = x at *
  generalize nearT y1 0 39 = y at *
  have hlt := hD.lt
  have HN := run.hid (new_ok 20 10 w (by omega) (by omega) (by omega))
  have hC0 := canvas_new w.heap.size 20 10 w (Nat.le_refl _) (by omega) (by omega) (by omega)
  have hB0 := run.below_two w (.cells (madeCells #[.int .u8 0] (20 * 10)) 5) (.cells #[.int .i64 (20 : Nat), .int .i64 (10 : Nat), .slice (some ⟨w.heap.size, 0, none⟩) (20 * 10) (20 * 10)] 89)
  generalize (w.alloc (.cells (madeCells #[.int .u8 0] (20 * 10)) 5)).alloc (.cells #[.int .i64 (20 : Nat), .int .i64 (10 : Nat), .slice (some ⟨w.heap.size, 0, none⟩) (20 * 10) (20 * 10)] 89) = wq at *
  have hd1 := hD.below hB0 hlt
  obtain ⟨n, hn⟩ : ∃ n : Nat, lineN a b x y = n := ⟨(lineN a b x y).toNat, by unfold lineN; omega⟩
  have HL := run.hid (line_any w.heap.size (w.heap.size + 1) w.heap.size 20 10 none0 a b x y wq hlt hd1 hC0 (by unfold inPlane; simp; omega))
  change Hid (Calls _ _ _ _ fun e w' => e = .returned (.int .i64 0) ∧ Canvas w.heap.size (w.heap.size + 1) w.heap.size 20 10 (lineS a b x y) w' ∧ _) at HL
  obtain ⟨G1, G2⟩ := line_graph hn (by omega) (by omega) (by omega) (by omega)
  obtain ⟨E1, E2⟩ := line_ends hn
  have hn' := hn
  unfold lineN at hn'
  obtain ⟨a, rfl⟩ : ∃ a' : Nat, a = a' := ⟨a.toNat, by omega⟩
  obtain ⟨b, rfl⟩ : ∃ b' : Nat, b = b' := ⟨b.toNat, by omega⟩
  obtain ⟨x, rfl⟩ : ∃ x' : Nat, x = x' := ⟨x.toNat, by omega⟩
  obtain ⟨y, rfl⟩ : ∃ y' : Nat, y = y' := ⟨y.toNat, by omega⟩
  have HE := run.hid E1
  have HE2 := run.hid E2
  clear hC0 hn E1 E2
  generalize lineS a b x y = S at *
  go_enter Tryd.func4, Tryd.ntmps4
  go_wp2_with fail
  refine (N1.out _).mono ?_
  rintro e w1 ⟨rfl, rfl⟩
  go_wp2_with fail
  refine (N2.out _).mono ?_
  rintro e w1 ⟨rfl, rfl⟩
  go_wp2_with fail
  refine (N3.out _).mono ?_
  rintro e w1 ⟨rfl, rfl⟩
  go_wp2_with fail
  refine (N4.out _).mono ?_
  rintro e w1 ⟨rfl, rfl⟩
  go_wp2_with fail
  refine HN.out.mono ?_
  rintro e w' ⟨rfl, rfl⟩
  go_wp2_with fail
  refine HL.out.mono ?_
  rintro e w2 ⟨rfl, hc2, hg2⟩
  have hB2 := hB0.grown hg2 hB0.size (by rintro k ⟨⟩; exact Nat.le_refl _)
  have hd2 := hD.below hB2 hlt
  have HS : Hid (St w w.heap.size (w.heap.size + 1) w.heap.size 20 10 S w2) := ⟨hc2, hd2, hB2, hlt⟩
  clear HN HL hc2 hg2 hd2 hd1 hD hB0 hB2 N1 N2 N3 N4
  have hbn : n ≤ 39 := by omega
  have hbs : -39 ≤ (x : Int) - a ∧ (x : Int) - a ≤ 39 ∧ -39 ≤ (y : Int) - b ∧ (y : Int) - b ≤ 39 := by omega
  obtain ⟨GG, i0, f, HGR, HCT, hL⟩ : ∃ GG i0 f, Hid (Graph GG i0 n f) ∧ Hid (countG (fun i k => S i k) 40 0 = n + 1) ∧
      ((max ((x : Int) - a) (a - x) = n ∧ GG = fun i k : Nat => S i k) ∨ (max ((x : Int) - a) (a - x) ≠ n ∧ GG = fun i k : Nat => S k i)) := by
    by_cases hl : max ((x : Int) - a) (a - x) = n
    · obtain ⟨i0, f, h⟩ := G1 hl
      exact ⟨_, i0, f, h, graph_count h, .inl ⟨hl, rfl⟩⟩
    · obtain ⟨i0, f, h⟩ := G2 hl
      exact ⟨_, i0, f, h, (count_swap _).trans (graph_count h), .inr ⟨hl, rfl⟩⟩
  clear G1 G2
  obtain ⟨mx, hmx⟩ : ∃ m, m = max ((x : Int) - a) (a - x) := ⟨_, rfl⟩
  rw [← hmx] at hn' hL
  have hmx' := hmx.symm
  clear hmx
  have HO := run.hid (fun i => countG_out (fun i k => S i k) i)
  have HI := run.hid (fun i k => countG_in (fun i k => S i k) i k)
  have HLE := run.hid (fun i k => countG_le (fun i k => S i k) i k)
  have HZ := run.hid (show countG (fun i k => S i k) 0 0 = 0 from rfl)
  generalize countG (fun i k => S i k) = cG at *
  rcases hL with ⟨hL, rfl⟩ | ⟨hL, rfl⟩
  · subst hL
    clear hbs
    go_wp2
    clear hn' hmx'
    go_loopw [17, 18] (fun mv iv wr => ∃ i : Nat, i ≤ 40 ∧ mv = .int .i64 (cG i 0) ∧ iv = .int .i64 i ∧ Hid (St w w.heap.size (w.heap.size + 1) w.heap.size 20 10 S wr)) (fun _ iv _ => 40 - (intOf iv).toNat)
    case atStart => exact ⟨0, by omega, by rw [HZ.out]; rfl, rfl, HS⟩
    case round =>
      obtain ⟨i, hi, rfl, rfl, HSr⟩ := hrel
      generalize wr = wz at *
      by_cases hlt1 : i < 40
      · go_wp2
        generalize decide ((i : Int) < 40) = dq1
        go_loopw [17, 19] (fun mv kv wr => ∃ k : Nat, k ≤ 40 ∧ mv = .int .i64 (cG i k) ∧ kv = .int .i64 k ∧ Hid (St w w.heap.size (w.heap.size + 1) w.heap.size 20 10 S wr)) (fun _ kv _ => 40 - (intOf kv).toNat)
        case atStart => exact ⟨0, by omega, rfl, rfl, HSr⟩
        case round =>
          obtain ⟨k, hk, rfl, rfl, HSk⟩ := hrel
          by_cases hlt2 : k < 40
          · have hle := HLE.out i k
            have HI := run.hid (HI.out i k)
            go_wp2_with fail
            refine (has_st HSk.out i k (by omega) (by omega)).mono ?_
            rintro e w3 ⟨rfl, hs3⟩
            have HS3 := run.hid hs3
            clear hs3
            cases hg : S i k with
            | true =>
              simp only [hg, if_true] at HI
              go_wp2
              go_roundw
              case rel => exact ⟨k + 1, by omega, by rw [HI.out]; go_num, by go_num, HS3⟩
              case measure => simp [intOf]; omega
            | false =>
              simp only [hg] at HI
              go_wp2
              go_roundw
              case rel => exact ⟨k + 1, by omega, by rw [HI.out]; go_num, by go_num, HS3⟩
              case measure => simp [intOf]; omega
          · obtain rfl : k = 40 := by omega
            go_wp2
            go_roundw
            case rel => exact ⟨i + 1, by omega, by rw [HO.out i], by go_num, HSk⟩
            case measure => simp [intOf]; omega
      · obtain rfl : i = 40 := by omega
        generalize cG 40 0 = cm at *
        go_wp2
        generalize ((40 : Nat) : Int) = c40
        go_loopw [20, 21] (fun lv iv wr => ∃ i : Nat, i ≤ 40 ∧ lv = .int .i64 (lastV i0 n f i) ∧ iv = .int .i64 i ∧ Hid (St w w.heap.size (w.heap.size + 1) w.heap.size 20 10 S wr)) (fun _ iv _ => 40 - (intOf iv).toNat)
        case atStart => exact ⟨0, by omega, by rw [last_zero], rfl, HSr⟩
        case round =>
          obtain ⟨i, hi, rfl, rfl, HSr⟩ := hrel
          generalize wr = wy at *
          by_cases hlt1 : i < 40
          · have HAL := run.hid (at_last HGR.out i)
            have HLB := run.hid (last_beside HGR.out i)
            go_wp2
            generalize decide ((i : Int) < 40) = dq1
            go_loopw [22, 23] (fun av kv wr => ∃ k : Nat, k ≤ 40 ∧ av = .int .i64 (atV i0 n f i k) ∧ kv = .int .i64 k ∧ Hid (St w w.heap.size (w.heap.size + 1) w.heap.size 20 10 S wr)) (fun _ kv _ => 40 - (intOf kv).toNat)
            case atStart => exact ⟨0, by omega, by rw [at_zero], rfl, HSr⟩
            case round =>
              obtain ⟨k, hk, rfl, rfl, HSk⟩ := hrel
              by_cases hlt2 : k < 40
              · obtain ⟨A1, A2⟩ := at_next HGR.out hlt1 hlt2
                go_wp2_with fail
                refine (has_st HSk.out i k (by omega) (by omega)).mono ?_
                rintro e w3 ⟨rfl, hs3⟩
                have HS3 := run.hid hs3
                clear hs3
                cases hg : S i k with
                | true =>
                  obtain ⟨e1, e2⟩ := A1 hg
                  have E2 := run.hid e2
                  rw [e1]
                  clear A1 A2 e1 e2 hg
                  go_wp2
                  go_roundw
                  case rel => exact ⟨k + 1, by omega, by rw [E2.out], by go_num, HS3⟩
                  case measure => simp [intOf]; omega
                | false =>
                  have E2 := run.hid (A2 hg)
                  clear A1 A2 hg
                  go_wp2
                  go_roundw
                  case rel => exact ⟨k + 1, by omega, by rw [E2.out], by go_num, HS3⟩
                  case measure => simp [intOf]; omega
              · obtain rfl : k = 40 := by omega
                rw [HAL.out]
                have hbd1 := last_bd HGR.out i
                have hbd2 := last_bd HGR.out (i + 1)
                have hbes := HLB.out
                obtain ⟨lv, hlv⟩ : ∃ v, v = lastV i0 n f i := ⟨_, rfl⟩
                obtain ⟨lv2, hlv2⟩ : ∃ v, v = lastV i0 n f (i + 1) := ⟨_, rfl⟩
                rw [← hlv, ← hlv2] at hbes
                rw [← hlv] at hbd1 ⊢
                rw [← hlv2] at hbd2 ⊢
                have E1 := run.hid hlv
                have E2 := run.hid hlv2
                clear hlv hlv2 HAL HLB
                have hbes' : lv < 0 ∨ (0 ≤ lv ∧ lv2 < 0) ∨ (0 ≤ lv ∧ 0 ≤ lv2 ∧ lv2 ≤ lv + 1 ∧ lv - 1 ≤ lv2) := by omega
                clear hbes
                rcases hbes' with hb | ⟨hb0, hb⟩ | ⟨hb0, hb1, hb3, hb4⟩
                · go_wp2
                  go_roundw
                  case rel => exact ⟨i + 1, by omega, by rw [E2.out], by go_num, HSk⟩
                  case measure => simp [intOf]; omega
                · go_wp2
                  go_roundw
                  case rel => exact ⟨i + 1, by omega, by rw [E2.out], by go_num, HSk⟩
                  case measure => simp [intOf]; omega
                · go_wp2
                  go_roundw
                  case rel => exact ⟨i + 1, by omega, by rw [E2.out], by go_num, HSk⟩
                  case measure => simp [intOf]; omega
          · obtain rfl : i = 40 := by omega
            have hcm : (cm : Int) = n + 1 := by rw [HCT.out]; omega
            go_wp2_with fail
            refine (has_st HSr.out a b (by omega) (by omega)).mono ?_
            rintro e w3 ⟨rfl, hs3⟩
            rw [HE.out]
            have HS3 := run.hid hs3
            clear hs3
            go_wp2_with fail
            refine (has_st HS3.out x y (by omega) (by omega)).mono ?_
            rintro e w4 ⟨rfl, hs4⟩
            rw [HE2.out]
            have HS4 := run.hid hs4
            clear hs4 HS3
            go_wp2_with fail
            refine (alive_any _ HS4.out.dots).mono ?_
            rintro e w5 ⟨rfl, hb5⟩
            have HB5 := run.hid (HS4.out.below.trans (hb5.mono HS4.out.below.size))
            clear hb5 HS4
            go_wp2
            go_ret
            exact ⟨rfl, HB5.out⟩
  · have hL' : ¬ (mx = (n : Int)) := hL
    clear hL
    clear hbs
    go_wp2
    rw [show (mx == (n : Int)) = false by simp; omega]
    clear hn' hmx' hL'
    go_loopw [17, 18] (fun mv iv wr => ∃ i : Nat, i ≤ 40 ∧ mv = .int .i64 (cG i 0) ∧ iv = .int .i64 i ∧ Hid (St w w.heap.size (w.heap.size + 1) w.heap.size 20 10 S wr)) (fun _ iv _ => 40 - (intOf iv).toNat)
    case atStart => exact ⟨0, by omega, by rw [HZ.out]; rfl, rfl, HS⟩
    case round =>
      obtain ⟨i, hi, rfl, rfl, HSr⟩ := hrel
      generalize wr = wz at *
      by_cases hlt1 : i < 40
      · go_wp2
        generalize decide ((i : Int) < 40) = dq1
        go_loopw [17, 19] (fun mv kv wr => ∃ k : Nat, k ≤ 40 ∧ mv = .int .i64 (cG i k) ∧ kv = .int .i64 k ∧ Hid (St w w.heap.size (w.heap.size + 1) w.heap.size 20 10 S wr)) (fun _ kv _ => 40 - (intOf kv).toNat)
        case atStart => exact ⟨0, by omega, rfl, rfl, HSr⟩
        case round =>
          obtain ⟨k, hk, rfl, rfl, HSk⟩ := hrel
          by_cases hlt2 : k < 40
          · have hle := HLE.out i k
            have HI := run.hid (HI.out i k)
            go_wp2_with fail
            refine (has_st HSk.out i k (by omega) (by omega)).mono ?_
            rintro e w3 ⟨rfl, hs3⟩
            have HS3 := run.hid hs3
            clear hs3
            cases hg : S i k with
            | true =>
              simp only [hg, if_true] at HI
              go_wp2
              go_roundw
              case rel => exact ⟨k + 1, by omega, by rw [HI.out]; go_num, by go_num, HS3⟩
              case measure => simp [intOf]; omega
            | false =>
              simp only [hg] at HI
              go_wp2
              go_roundw
              case rel => exact ⟨k + 1, by omega, by rw [HI.out]; go_num, by go_num, HS3⟩
              case measure => simp [intOf]; omega
          · obtain rfl : k = 40 := by omega
            go_wp2
            go_roundw
            case rel => exact ⟨i + 1, by omega, by rw [HO.out i], by go_num, HSk⟩
            case measure => simp [intOf]; omega
      · obtain rfl : i = 40 := by omega
        generalize cG 40 0 = cm at *
        go_wp2
        generalize ((40 : Nat) : Int) = c40
        go_loopw [20, 21] (fun lv iv wr => ∃ i : Nat, i ≤ 40 ∧ lv = .int .i64 (lastV i0 n f i) ∧ iv = .int .i64 i ∧ Hid (St w w.heap.size (w.heap.size + 1) w.heap.size 20 10 S wr)) (fun _ iv _ => 40 - (intOf iv).toNat)
        case atStart => exact ⟨0, by omega, by rw [last_zero], rfl, HSr⟩
        case round =>
          obtain ⟨i, hi, rfl, rfl, HSr⟩ := hrel
          generalize wr = wy at *
          by_cases hlt1 : i < 40
          · have HAL := run.hid (at_last HGR.out i)
            have HLB := run.hid (last_beside HGR.out i)
            go_wp2
            generalize decide ((i : Int) < 40) = dq1
            go_loopw [22, 23] (fun av kv wr => ∃ k : Nat, k ≤ 40 ∧ av = .int .i64 (atV i0 n f i k) ∧ kv = .int .i64 k ∧ Hid (St w w.heap.size (w.heap.size + 1) w.heap.size 20 10 S wr)) (fun _ kv _ => 40 - (intOf kv).toNat)
            case atStart => exact ⟨0, by omega, by rw [at_zero], rfl, HSr⟩
            case round =>
              obtain ⟨k, hk, rfl, rfl, HSk⟩ := hrel
              by_cases hlt2 : k < 40
              · obtain ⟨A1, A2⟩ := at_next HGR.out hlt1 hlt2
                go_wp2_with fail
                refine (has_st HSk.out k i (by omega) (by omega)).mono ?_
                rintro e w3 ⟨rfl, hs3⟩
                have HS3 := run.hid hs3
                clear hs3
                cases hg : S k i with
                | true =>
                  obtain ⟨e1, e2⟩ := A1 hg
                  have E2 := run.hid e2
                  rw [e1]
                  clear A1 A2 e1 e2 hg
                  go_wp2
                  go_roundw
                  case rel => exact ⟨k + 1, by omega, by rw [E2.out], by go_num, HS3⟩
                  case measure => simp [intOf]; omega
                | false =>
                  have E2 := run.hid (A2 hg)
                  clear A1 A2 hg
                  go_wp2
                  go_roundw
                  case rel => exact ⟨k + 1, by omega, by rw [E2.out], by go_num, HS3⟩
                  case measure => simp [intOf]; omega
              · obtain rfl : k = 40 := by omega
                rw [HAL.out]
                have hbd1 := last_bd HGR.out i
                have hbd2 := last_bd HGR.out (i + 1)
                have hbes := HLB.out
                obtain ⟨lv, hlv⟩ : ∃ v, v = lastV i0 n f i := ⟨_, rfl⟩
                obtain ⟨lv2, hlv2⟩ : ∃ v, v = lastV i0 n f (i + 1) := ⟨_, rfl⟩
                rw [← hlv, ← hlv2] at hbes
                rw [← hlv] at hbd1 ⊢
                rw [← hlv2] at hbd2 ⊢
                have E1 := run.hid hlv
                have E2 := run.hid hlv2
                clear hlv hlv2 HAL HLB
                have hbes' : lv < 0 ∨ (0 ≤ lv ∧ lv2 < 0) ∨ (0 ≤ lv ∧ 0 ≤ lv2 ∧ lv2 ≤ lv + 1 ∧ lv - 1 ≤ lv2) := by omega
                clear hbes
                rcases hbes' with hb | ⟨hb0, hb⟩ | ⟨hb0, hb1, hb3, hb4⟩
                · go_wp2
                  go_roundw
                  case rel => exact ⟨i + 1, by omega, by rw [E2.out], by go_num, HSk⟩
                  case measure => simp [intOf]; omega
                · go_wp2
                  go_roundw
                  case rel => exact ⟨i + 1, by omega, by rw [E2.out], by go_num, HSk⟩
                  case measure => simp [intOf]; omega
                · go_wp2
                  go_roundw
                  case rel => exact ⟨i + 1, by omega, by rw [E2.out], by go_num, HSk⟩
                  case measure => simp [intOf]; omega
          · obtain rfl : i = 40 := by omega
            have hcm : (cm : Int) = n + 1 := by rw [HCT.out]; omega
            go_wp2_with fail
            refine (has_st HSr.out a b (by omega) (by omega)).mono ?_
            rintro e w3 ⟨rfl, hs3⟩
            rw [HE.out]
            have HS3 := run.hid hs3
            clear hs3
            go_wp2_with fail
            refine (has_st HS3.out x y (by omega) (by omega)).mono ?_
            rintro e w4 ⟨rfl, hs4⟩
            rw [HE2.out]
            have HS4 := run.hid hs4
            clear hs4 HS3
            go_wp2_with fail
            refine (alive_any _ HS4.out.dots).mono ?_
            rintro e w5 ⟨rfl, hb5⟩
            have HB5 := run.hid (HS4.out.below.trans (hb5.mono HS4.out.below.size))
            clear hb5 HS4
            go_wp2
            go_ret
            exact ⟨rfl, HB5.out⟩
end Go.Proofs.YtghbpbaopcibkaaDoor.can
