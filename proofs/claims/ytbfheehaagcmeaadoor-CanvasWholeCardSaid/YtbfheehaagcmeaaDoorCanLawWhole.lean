/-
  The walk of the law CanvasWhole.
-/
import Derived.Test.YtbfheehaagcmeaaDoorCanWholeP
import Derived.Test.YtbfheehaagcmeaaDoorCanOpenArr
import Derived.Test.YtbfheehaagcmeaaDoorCanTells
import Derived.Test.YtbfheehaagcmeaaDoorCanAlive
import Derived.Test.YtbfheehaagcmeaaDoorUtfUse
import Derived.Test.YtbfheehaagcmeaaDoorCanWholeW
import Derived.Lib.MinMax
import Derived.Lib.QuietBelow
namespace Go.Proofs.YtbfheehaagcmeaaDoor.can
open Go.RowKit Go.Proofs
set_option linter.unusedVariables false

theorem wfI {x : Int} (h : (Lit.int .i64 x).wf = true) : -9223372036854775808 ≤ x ∧ x ≤ 9223372036854775807 := by simpa [Lit.wf, show IntKind.i64.min = -9223372036854775808 from rfl] using h
/-- what is set within stays set -/
def Held (W H : Nat) (f : Nat → Nat → Int) (n : Nat) (S : Int → Int → Bool) : Prop := ∀ i, i < n → inside W H (f i 0) (f i 1) = true → S (f i 0) (f i 1) = true
theorem Held.next {W H : Nat} {f : Nat → Nat → Int} {n : Nat} {S : Int → Int → Bool} (h : Held W H f n S) : Held W H f (n + 1) (plot S (f n 0) (f n 1)) := fun i hi hin => by
  rcases Nat.lt_or_ge i n with h1 | h1
  · exact plot_keep _ _ _ (h i h1 hin)
  · obtain rfl : i = n := by omega
    exact plot_here _ _ _
theorem Held.plots {W H : Nat} {f : Nat → Nat → Int} {n : Nat} {S : Int → Int → Bool} (h : Held W H f n S) (l : List (Int × Int)) : Held W H f n (plots S l) := fun i hi hin => plots_keep _ _ (h i hi hin)
theorem St.drawn {w0 w w' : World} {b g W H : Nat} {S S' : Int → Int → Bool} (h : St w0 w0.heap.size b g W H S w) (hc : Canvas w0.heap.size b g W H S' w') (hg : w.grownBy w' (some g)) (hge : w0.heap.size ≤ g) : St w0 w0.heap.size b g W H S' w' :=
  ⟨hc, h.dots.of hg (by have := h.low; omega), h.below.grown hg h.below.size (by rintro k ⟨⟩; exact hge), h.low⟩

theorem reads_rune {w : World} {v : Value} {l : List Int} (h : run.Reads w v (utf.rv l)) {k : Nat} (hk : k < l.length) : ∃ b off c, v = .slice (some ⟨b, off, none⟩) l.length c ∧ b < w.heap.size ∧ w.cell? ⟨b, off + k, none⟩ = some (.int .i32 (l.getD k 0)) := by
  obtain ⟨a, c, rfl, hc, -⟩ := h
  obtain ⟨b, off, rfl, hlt, hcell⟩ := hc (by intro e; have := congrArg List.length e; rw [utf.rv_length, List.length_nil] at this; omega)
  exact ⟨b, off, c, by rw [utf.rv_length], hlt, hcell k _ (utf.rv_get hk)⟩
theorem reads_row {w : World} {a : Option Addr} {H c : Nat} {f : Nat → ByteArray} (h : run.Reads w (.slice a H c) ((List.range H).map fun y => .string (f y))) {y : Nat} (hy : y < H) : ∃ b off, a = some ⟨b, off, none⟩ ∧ b < w.heap.size ∧ w.cell? ⟨b, off + y, none⟩ = some (.string (f y)) := by
  obtain ⟨a0, c0, he, hc, -⟩ := h
  simp only [Value.slice.injEq] at he
  obtain ⟨rfl, -, rfl⟩ := he
  obtain ⟨b, off, e, hb, hcl⟩ := hc (by intro e; have := congrArg List.length e; simp at this; omega)
  exact ⟨b, off, e, hb, hcl y _ (by simp [hy])⟩

set_option maxRecDepth 100000 in
set_option maxHeartbeats 8000000 in
theorem lawWhole_any (w1 h1 : Int) (v2 v3 : Value) (N M : Nat) (f l : Nat → Nat → Int) (w : World) (hw1 : (Lit.int .i64 w1).wf = true) (hh1 : (Lit.int .i64 h1).wf = true) (hA : Arrs 2 w v2 N f) (hB : Arrs 4 w v3 M l) (hD : Dots w) :
    Calls Tryd.prog 5 #[.int .i64 w1, .int .i64 h1, v2, v3] w fun e w' => e = .returned (.bool true) ∧ Below w.heap.size w w' := by
  have N1 := run.hid (fun w => near_any w1 0 12 w (wfI hw1) (by omega) (by omega) (by omega))
  have N2 := run.hid (fun w => near_any h1 0 8 w (wfI hh1) (by omega) (by omega) (by omega))
  have b1 := near_in (n := w1) (lo := 0) (hi := 12) (by omega)
  have b2 := near_in (n := h1) (lo := 0) (hi := 8) (by omega)
  generalize nearT w1 0 12 = n' at *
  generalize nearT h1 0 8 = m' at *
  obtain ⟨W, rfl⟩ : ∃ r : Nat, n' = r := ⟨n'.toNat, by omega⟩
  obtain ⟨H, rfl⟩ : ∃ r : Nat, m' = r := ⟨m'.toNat, by omega⟩
  clear hw1 hh1
  have hWH : W * H ≤ 12 * 8 := Nat.mul_le_mul (by omega) (by omega)
  obtain ⟨a2, c2, rfl, hN, hA⟩ := hA
  obtain ⟨a3, c3, rfl, hM, hB⟩ := hB
  have HA := run.hid hA
  have HB := run.hid hB
  clear hA hB
  have hlt := hD.lt
  have HNW := run.hid (new_ok W H w (by omega) (by omega) (by omega))
  have hC0 := canvas_new w.heap.size W H w (Nat.le_refl _) (by omega) (by omega) (by omega)
  have hB0 := run.below_two w (.cells (madeCells #[.int .u8 0] (W * H)) 5) (.cells #[.int .i64 W, .int .i64 H, .slice (some ⟨w.heap.size, 0, none⟩) (W * H) (W * H)] 76)
  generalize (w.alloc (.cells (madeCells #[.int .u8 0] (W * H)) 5)).alloc (.cells #[.int .i64 W, .int .i64 H, .slice (some ⟨w.heap.size, 0, none⟩) (W * H) (W * H)] 76) = wq at *
  have HS0 : Hid (St w w.heap.size (w.heap.size + 1) w.heap.size W H (fun _ _ => false) wq) := ⟨hC0, hD.below hB0 hlt, hB0, hlt⟩
  have HAL := run.hid (alive_any wq HS0.out.dots)
  clear hC0 hB0 hD hlt
  go_enter Tryd.func5, Tryd.ntmps5
  go_wp2_with fail
  refine (N1.out _).mono ?_
  rintro e w2 ⟨rfl, rfl⟩
  go_wp2_with fail
  refine (N2.out _).mono ?_
  rintro e w2 ⟨rfl, rfl⟩
  go_wp2_with fail
  refine HNW.out.mono ?_
  rintro e w2 ⟨rfl, rfl⟩
  go_wp2_with fail
  refine HAL.out.mono ?_
  rintro e w2 ⟨rfl, hb2⟩
  have HS1 := run.hid (HS0.out.next hb2)
  clear HAL HS0 N1 N2 HNW hb2
  go_wp2
  go_loopw [13] (fun vi wr => ∃ (i : Nat) (S : Int → Int → Bool), i ≤ N ∧ vi = .int .i64 i ∧ Hid (St w w.heap.size (w.heap.size + 1) w.heap.size W H S wr) ∧ Hid (Held W H f i S)) (fun vi _ => (N - intOf vi).toNat)
  case atStart => exact ⟨0, _, by omega, rfl, HS1, fun i hi => absurd hi (by omega)⟩
  case round =>
    obtain ⟨i, S, hi, rfl, HSr, HHr⟩ := hrel
    by_cases hil : i < N
    · obtain ⟨bd, od, rfl, hbd, hcd⟩ := HA.out i hil
      obtain ⟨g0, x0⟩ := hcd 0 (by omega)
      obtain ⟨g1, x1⟩ := hcd 1 (by omega)
      have y0 := wfI x0
      have y1 := wfI x1
      have HX := run.hid (HHr.out.next)
      have HDT := run.hid (fun n => dot_any w.heap.size (w.heap.size + 1) w.heap.size W H S (f i 0) (f i 1) (wr.drewN n) (HSr.out.next (drewN_below _ wr n)).dots (HSr.out.next (drewN_below _ wr n)).canvas)
      generalize f i 0 = px at *
      generalize f i 1 = py at *
      have k0 := (HSr.out.below.cell (p := ⟨bd, od + i * 2 + 0, none⟩) hbd).trans g0
      have k1 := (HSr.out.below.cell (p := ⟨bd, od + i * 2 + 1, none⟩) hbd).trans g1
      rw [Nat.add_zero] at k0
      have K0 := run.hid k0
      have K1 := run.hid k1
      clear hcd x0 x1 g0 g1
      obtain ⟨BI, hBI⟩ : ∃ BI, BI = inside W H px py := ⟨_, rfl⟩
      go_upto_region 9 with fail
      go_cut [14] from 48 to 81 (fun v wx => v = .bool BI ∧ wx = wr)
      case first =>
        unfold inside at hBI
        by_cases q0 : 0 ≤ px
        · by_cases q1 : px < 2 * (W : Int)
          · by_cases q2 : 0 ≤ py
            · by_cases q3 : py < 4 * (H : Int)
              · have hb : BI = true := by rw [hBI]; simp; omega
                subst hb
                clear hBI
                go_wp2
                go_meet
                case rel => exact ⟨rfl, rfl⟩
              · have hb : BI = false := by rw [hBI]; simp; omega
                subst hb
                clear hBI
                go_wp2
                go_meet
                case rel => exact ⟨rfl, rfl⟩
            · have hb : BI = false := by rw [hBI]; simp; omega
              subst hb
              clear hBI
              go_wp2
              go_meet
              case rel => exact ⟨rfl, rfl⟩
          · have hb : BI = false := by rw [hBI]; simp; omega
            subst hb
            clear hBI
            go_wp2
            go_meet
            case rel => exact ⟨rfl, rfl⟩
        · have hb : BI = false := by rw [hBI]; simp; omega
          subst hb
          clear hBI
          go_wp2
          go_meet
          case rel => exact ⟨rfl, rfl⟩
      obtain ⟨rfl, rfl⟩ := hcut
      have kk0 : ∀ (D : Nat → Bool) W', (wc.grownBy W' (some w.heap.size) ∧ (D 11 = false → ∃ k, W' = wc.drewN k) ∧ (D 11 = true → Canvas w.heap.size (w.heap.size + 1) w.heap.size W H (plot S px py) W')) → W'.cell? ⟨bd, od + i * 2 + 0, none⟩ = some (.int .i64 px) := fun D W' hC => hC.1.cell K0.out (by simp; omega)
      have kk1 : ∀ (D : Nat → Bool) W', (wc.grownBy W' (some w.heap.size) ∧ (D 11 = false → ∃ k, W' = wc.drewN k) ∧ (D 11 = true → Canvas w.heap.size (w.heap.size + 1) w.heap.size W H (plot S px py) W')) → W'.cell? ⟨bd, od + i * 2 + 1, none⟩ = some (.int .i64 py) := fun D W' hC => hC.1.cell K1.out (by simp; omega)
      obtain ⟨it2, hi1, hi2⟩ := lex.info_arr2
      rw [← hBI] at HDT
      go_upto_region 10 with fail
      go_cut [95] from 82 to 95 (fun v wx => v = .bool false ∧ wc.grownBy wx (some w.heap.size) ∧ Canvas w.heap.size (w.heap.size + 1) w.heap.size W H (plot S px py) wx)
      case first =>
        --R10
        refine lex.region (fun d W' => wc.grownBy W' (some w.heap.size) ∧ (d 11 = false → ∃ k, W' = wc.drewN k) ∧ (d 11 = true → Canvas w.heap.size (w.heap.size + 1) w.heap.size W H (plot S px py) W')) (by kernel_rfl) (by kernel_rfl) (by kernel_rfl) (⟨drewN_grown wc 1 _, fun _ => ⟨1, rfl⟩, (fun h => by cases h)⟩) ?_
        refine lex.begin 245 rfl ?_
        refine lex.o_pure (.pointer (some ⟨w.heap.size + 1, 0, none⟩)) (fun D W' hC => lex.w_move rfl rfl) ?_
        refine lex.o_pure (.slice (some ⟨bd, od, none⟩) N c2) (fun D W' hC => lex.w_move rfl rfl) ?_
        refine lex.o_pure (.int .i64 (i : Nat)) (fun D W' hC => lex.w_move rfl rfl) ?_
        refine lex.o_pure (.pointer (some ⟨bd, od + i * 2, none⟩)) (fun D W' hC => lex.run_at (size := 2) rfl rfl rfl hil Tryd.underlying49 hi1 hi2) ?_
        refine lex.o_pure (.pointer (some ⟨bd, od + i * 2 + 0, none⟩)) (fun D W' hC => lex.w_ix (j := 0) rfl rfl rfl Tryd.underlying22 (by decide)) ?_
        refine lex.o_pure (.int .i64 px) (fun D W' hC => lex.run_load rfl rfl Tryd.underlying3 rfl (kk0 D W' hC)) ?_
        refine lex.o_pure (.slice (some ⟨bd, od, none⟩) N c2) (fun D W' hC => lex.w_move rfl rfl) ?_
        refine lex.o_pure (.int .i64 (i : Nat)) (fun D W' hC => lex.w_move rfl rfl) ?_
        refine lex.o_pure (.pointer (some ⟨bd, od + i * 2, none⟩)) (fun D W' hC => lex.run_at (size := 2) rfl rfl rfl hil Tryd.underlying49 hi1 hi2) ?_
        refine lex.o_pure (.pointer (some ⟨bd, od + i * 2 + 1, none⟩)) (fun D W' hC => lex.w_ix (j := 1) rfl rfl rfl Tryd.underlying22 (by decide)) ?_
        refine lex.o_pure (.int .i64 py) (fun D W' hC => lex.run_load rfl rfl Tryd.underlying3 rfl (kk1 D W' hC)) ?_
        refine lex.o_callE (.bool BI) 19 #[.pointer (some ⟨w.heap.size + 1, 0, none⟩), .int .i64 px, .int .i64 py] (fun _ _ _ => lex.run_fn rfl rfl rfl (enters_of Tryd.func19 (by kernel_rfl) rfl)) (fun D W' h0 hC => ?_) ?_
        · obtain ⟨hg, hk, -⟩ := hC
          obtain ⟨k, rfl⟩ := hk h0
          refine (HDT.out k).mono ?_
          rintro e w2 ⟨rfl, hc2, hg2⟩
          exact ⟨rfl, run.grown_trans (drewN_grown wc k _) hg2 (.inl rfl), (fun h => by cases h), fun _ => hc2⟩
        refine lex.o_pure (.bool BI) (fun D W' hC => lex.w_move rfl rfl) ?_
        refine lex.o_pure (.bool false) (fun D W' hC => lex.w_neq rfl rfl rfl) ?_
        refine lex.o_end_at { tmps := #[Value.int IntKind.i64 w1, Value.int IntKind.i64 h1, Value.slice (some ⟨bd, od, none⟩) N c2, Value.slice a3 M c3, undef, undef, undef, undef, u8, Value.int IntKind.i64 ↑W, Value.int IntKind.i64 ↑H, Value.pointer (some ⟨w.heap.size + 1, 0, none⟩), Value.int IntKind.i64 0, Value.int IntKind.i64 ↑i, Value.bool BI, undef, undef, undef, undef, undef, undef, undef, Value.int IntKind.i64 w1, Value.int IntKind.i64 ↑W, Value.int IntKind.i64 h1, Value.int IntKind.i64 ↑H, Value.tuple #[Value.pointer (some ⟨w.heap.size + 1, 0, none⟩), Value.int IntKind.i64 0], Value.int IntKind.i64 ↑W, Value.int IntKind.i64 ↑H, Value.tuple #[Value.pointer (some ⟨w.heap.size + 1, 0, none⟩), Value.int IntKind.i64 0], Value.pointer (some ⟨w.heap.size + 1, 0, none⟩), Value.int IntKind.i64 0, Value.int IntKind.i64 0, Value.bool false, Value.bool false, Value.pointer (some ⟨w.heap.size + 1, 0, none⟩), Value.bool false, Value.bool false, Value.bool false, Value.bool true, Value.bool false, Value.bool false, Value.int IntKind.i64 ↑i, Value.slice (some ⟨bd, od, none⟩) N c2, Value.int IntKind.i64 ↑N, Value.bool true, u46, u47, u48, u49, u50, u51, u52, u53, u54, u55, u56, u57, u58, u59, u60, u61, u62, u63, u64, u65, u66, u67, u68, u69, u70, u71, u72, u73, u74, u75, u76, u77, u78, u79, u80, u81, .pointer (some ⟨w.heap.size + 1, 0, none⟩), .slice (some ⟨bd, od, none⟩) N c2, .int .i64 (i : Nat), .pointer (some ⟨bd, od + i * 2, none⟩), .pointer (some ⟨bd, od + i * 2 + 0, none⟩), .int .i64 px, .slice (some ⟨bd, od, none⟩) N c2, .int .i64 (i : Nat), .pointer (some ⟨bd, od + i * 2, none⟩), .pointer (some ⟨bd, od + i * 2 + 1, none⟩), .int .i64 py, .bool BI, .bool BI, .bool false, undef, undef, undef, undef, undef, undef, undef, undef, undef, undef, undef, undef, undef, undef, undef, undef, undef, undef, undef, undef, undef, undef, undef, undef, undef, undef, undef, undef, undef, undef, undef, undef, undef, undef, undef, undef, undef, undef, undef, undef, undef, undef, undef, undef, undef, undef, undef, undef, undef, undef, undef, undef, undef, undef, undef, undef, undef, undef, undef, undef, undef, undef, undef, undef, undef, undef, undef, undef, undef, undef, undef, undef, undef, undef, undef, undef, undef, undef, undef, undef, undef, undef, undef, undef, undef, undef, undef, undef, undef, undef, undef, undef, undef, undef, undef, undef, undef, undef, undef, undef, undef, undef, undef, undef, undef, undef, undef, undef, undef, undef, undef, undef, undef, undef, undef, undef, undef, undef, undef, undef, undef, undef, undef, undef, undef, undef, undef, undef, undef, undef, undef, undef, undef, undef, undef, undef, undef, undef, undef, undef, undef, undef, undef, undef, undef, undef, undef, undef, undef], defers := [] } (by kernel_rfl) ?_
        rintro w' d hd ⟨hg, -, hc⟩
        go_wp2
        go_meet
        case rel => exact ⟨rfl, hg, hc (hd 11 (by decide))⟩
        --END R10
      obtain ⟨rfl, hg, hc⟩ := hcut
      have HS2 := run.hid (HSr.out.drawn hc hg (Nat.le_refl _))
      clear kk0 kk1 hg hc K0 K1 k0 k1 HDT HSr HHr
      go_wp2
      go_roundw
      case rel => exact ⟨i + 1, _, by omega, by go_num, HS2, HX⟩
      case measure => simp [intOf]; omega
    · obtain rfl : i = N := by omega
      clear hil
      generalize wr = wz at *
      go_wp2
      go_loopw [15] (fun vi wr => ∃ (j : Nat) (S : Int → Int → Bool), j ≤ M ∧ vi = .int .i64 j ∧ Hid (St w w.heap.size (w.heap.size + 1) w.heap.size W H S wr) ∧ Hid (Held W H f i S)) (fun vi _ => (M - intOf vi).toNat)
      case atStart => exact ⟨0, _, by omega, rfl, HSr, HHr⟩
      case round =>
        clear HSr HHr HS1 S
        obtain ⟨j, S, hj, rfl, HSr, HHr⟩ := hrel
        by_cases hjl : j < M
        · obtain ⟨bd, od, rfl, hbd, hcd⟩ := HB.out j hjl
          obtain ⟨g0, x0⟩ := hcd 0 (by omega)
          obtain ⟨g1, x1⟩ := hcd 1 (by omega)
          obtain ⟨g2, x2⟩ := hcd 2 (by omega)
          obtain ⟨g3, x3⟩ := hcd 3 (by omega)
          have y0 := wfI x0
          have y1 := wfI x1
          have y2 := wfI x2
          have y3 := wfI x3
          generalize l j 0 = p0 at *
          generalize l j 1 = p1 at *
          generalize l j 2 = p2 at *
          generalize l j 3 = p3 at *
          clear hcd x0 x1 x2 x3
          have HN0 := run.hid (fun w => near_any p0 (-9) 30 w y0 (by omega) (by omega) (by omega))
          have d0 := near_in (n := p0) (lo := -9) (hi := 30) (by omega)
          generalize nearT p0 (-9) 30 = n0 at *
          have HN1 := run.hid (fun w => near_any p1 (-9) 40 w y1 (by omega) (by omega) (by omega))
          have d1 := near_in (n := p1) (lo := -9) (hi := 40) (by omega)
          generalize nearT p1 (-9) 40 = n1 at *
          have HN2 := run.hid (fun w => near_any p2 (-9) 30 w y2 (by omega) (by omega) (by omega))
          have d2 := near_in (n := p2) (lo := -9) (hi := 30) (by omega)
          generalize nearT p2 (-9) 30 = n2 at *
          have HN3 := run.hid (fun w => near_any p3 (-9) 40 w y3 (by omega) (by omega) (by omega))
          have d3 := near_in (n := p3) (lo := -9) (hi := 40) (by omega)
          generalize nearT p3 (-9) 40 = n3 at *
          have HNR := run.hid (fun w => near_any p2 0 30 w y2 (by omega) (by omega) (by omega))
          have dr := near_in (n := p2) (lo := 0) (hi := 30) (by omega)
          generalize nearT p2 0 30 = r' at *
          obtain ⟨rr, rfl⟩ : ∃ r : Nat, r' = r := ⟨r'.toNat, by omega⟩
          have i0 : inPlane n0 = true := by unfold inPlane; simp; omega
          have i1 : inPlane n1 = true := by unfold inPlane; simp; omega
          have i2 : inPlane n2 = true := by unfold inPlane; simp; omega
          have i3 : inPlane n3 = true := by unfold inPlane; simp; omega
          have HDR := run.hid (fun k => line_any w.heap.size (w.heap.size + 1) w.heap.size W H S n0 n1 n2 n3 (wr.drewN k) HSr.out.low (HSr.out.next (drewN_below _ wr k)).dots (HSr.out.next (drewN_below _ wr k)).canvas ⟨i0, i1, i2, i3⟩)
          have hx1 : Held W H f i (plots S (lineL n0 n1 n2 n3 (lineN n0 n1 n2 n3).toNat)) := HHr.out.plots _
          generalize plots S (lineL n0 n1 n2 n3 (lineN n0 n1 n2 n3).toNat) = S1 at *
          have hx2 : Held W H f i (plots S1 (circL n0 n1 rr (circN rr))) := hx1.plots _
          have HX2 := run.hid hx2
          clear hx1 hx2
          have kk0 : ∀ (D : Nat → Bool) W', (wr.grownBy W' (some w.heap.size) ∧ (D 25 = false → ∃ k, W' = wr.drewN k) ∧ (D 25 = true → Canvas w.heap.size (w.heap.size + 1) w.heap.size W H S1 W')) → W'.cell? ⟨bd, od + j * 4 + 0, none⟩ = some (.int .i64 p0) := fun D W' hC => hC.1.cell ((HSr.out.below.cell (p := ⟨bd, od + j * 4 + 0, none⟩) hbd).trans g0) (by simp; omega)
          have kk1 : ∀ (D : Nat → Bool) W', (wr.grownBy W' (some w.heap.size) ∧ (D 25 = false → ∃ k, W' = wr.drewN k) ∧ (D 25 = true → Canvas w.heap.size (w.heap.size + 1) w.heap.size W H S1 W')) → W'.cell? ⟨bd, od + j * 4 + 1, none⟩ = some (.int .i64 p1) := fun D W' hC => hC.1.cell ((HSr.out.below.cell (p := ⟨bd, od + j * 4 + 1, none⟩) hbd).trans g1) (by simp; omega)
          have kk2 : ∀ (D : Nat → Bool) W', (wr.grownBy W' (some w.heap.size) ∧ (D 25 = false → ∃ k, W' = wr.drewN k) ∧ (D 25 = true → Canvas w.heap.size (w.heap.size + 1) w.heap.size W H S1 W')) → W'.cell? ⟨bd, od + j * 4 + 2, none⟩ = some (.int .i64 p2) := fun D W' hC => hC.1.cell ((HSr.out.below.cell (p := ⟨bd, od + j * 4 + 2, none⟩) hbd).trans g2) (by simp; omega)
          have kk3 : ∀ (D : Nat → Bool) W', (wr.grownBy W' (some w.heap.size) ∧ (D 25 = false → ∃ k, W' = wr.drewN k) ∧ (D 25 = true → Canvas w.heap.size (w.heap.size + 1) w.heap.size W H S1 W')) → W'.cell? ⟨bd, od + j * 4 + 3, none⟩ = some (.int .i64 p3) := fun D W' hC => hC.1.cell ((HSr.out.below.cell (p := ⟨bd, od + j * 4 + 3, none⟩) hbd).trans g3) (by simp; omega)
          obtain ⟨it2, hi1, hi2⟩ := lex.info_arr4
          have G0 := run.hid g0
          have G1 := run.hid g1
          have G2 := run.hid g2
          have G3 := run.hid g3
          clear g0 g1 g2 g3
          go_upto_region 15 with fail
          go_cut [127] from 102 to 127 (fun v wx => wr.grownBy wx (some w.heap.size) ∧ Canvas w.heap.size (w.heap.size + 1) w.heap.size W H S1 wx)
          case first =>
            --R15
            refine lex.region (fun d W' => wr.grownBy W' (some w.heap.size) ∧ (d 25 = false → ∃ k, W' = wr.drewN k) ∧ (d 25 = true → Canvas w.heap.size (w.heap.size + 1) w.heap.size W H S1 W')) (by kernel_rfl) (by kernel_rfl) (by kernel_rfl) (⟨drewN_grown wr 1 _, fun _ => ⟨1, rfl⟩, (fun h => by cases h)⟩) ?_
            refine lex.begin 245 rfl ?_
            refine lex.o_pure (.pointer (some ⟨w.heap.size + 1, 0, none⟩)) (fun D W' hC => lex.w_move rfl rfl) ?_
            refine lex.o_pure (Value.slice (some ⟨bd, od, none⟩) M c3) (fun D W' hC => lex.w_move rfl rfl) ?_
            refine lex.o_pure (.int .i64 (j : Nat)) (fun D W' hC => lex.w_move rfl rfl) ?_
            refine lex.o_pure (.pointer (some ⟨bd, od + j * 4, none⟩)) (fun D W' hC => lex.run_at (size := 4) rfl rfl rfl hjl Tryd.underlying50 hi1 hi2) ?_
            refine lex.o_pure (.pointer (some ⟨bd, od + j * 4 + 0, none⟩)) (fun D W' hC => lex.w_ix (j := 0) rfl rfl rfl Tryd.underlying57 (by decide)) ?_
            refine lex.o_pure (.int .i64 p0) (fun D W' hC => lex.run_load rfl rfl Tryd.underlying3 rfl (kk0 D W' hC)) ?_
            refine lex.o_call (.int .i64 n0) 17 #[.int .i64 p0, .int .i64 (-9), .int .i64 30] (fun _ _ _ => lex.run_fn rfl rfl rfl (enters_of Tryd.func17 (by kernel_rfl) rfl)) (fun D W' hC => (HN0.out W').mono fun e w2 ⟨he, hw⟩ => ⟨he, by rw [← hw]; exact hC⟩) ?_
            refine lex.o_pure (Value.slice (some ⟨bd, od, none⟩) M c3) (fun D W' hC => lex.w_move rfl rfl) ?_
            refine lex.o_pure (.int .i64 (j : Nat)) (fun D W' hC => lex.w_move rfl rfl) ?_
            refine lex.o_pure (.pointer (some ⟨bd, od + j * 4, none⟩)) (fun D W' hC => lex.run_at (size := 4) rfl rfl rfl hjl Tryd.underlying50 hi1 hi2) ?_
            refine lex.o_pure (.pointer (some ⟨bd, od + j * 4 + 1, none⟩)) (fun D W' hC => lex.w_ix (j := 1) rfl rfl rfl Tryd.underlying57 (by decide)) ?_
            refine lex.o_pure (.int .i64 p1) (fun D W' hC => lex.run_load rfl rfl Tryd.underlying3 rfl (kk1 D W' hC)) ?_
            refine lex.o_call (.int .i64 n1) 17 #[.int .i64 p1, .int .i64 (-9), .int .i64 40] (fun _ _ _ => lex.run_fn rfl rfl rfl (enters_of Tryd.func17 (by kernel_rfl) rfl)) (fun D W' hC => (HN1.out W').mono fun e w2 ⟨he, hw⟩ => ⟨he, by rw [← hw]; exact hC⟩) ?_
            refine lex.o_pure (Value.slice (some ⟨bd, od, none⟩) M c3) (fun D W' hC => lex.w_move rfl rfl) ?_
            refine lex.o_pure (.int .i64 (j : Nat)) (fun D W' hC => lex.w_move rfl rfl) ?_
            refine lex.o_pure (.pointer (some ⟨bd, od + j * 4, none⟩)) (fun D W' hC => lex.run_at (size := 4) rfl rfl rfl hjl Tryd.underlying50 hi1 hi2) ?_
            refine lex.o_pure (.pointer (some ⟨bd, od + j * 4 + 2, none⟩)) (fun D W' hC => lex.w_ix (j := 2) rfl rfl rfl Tryd.underlying57 (by decide)) ?_
            refine lex.o_pure (.int .i64 p2) (fun D W' hC => lex.run_load rfl rfl Tryd.underlying3 rfl (kk2 D W' hC)) ?_
            refine lex.o_call (.int .i64 n2) 17 #[.int .i64 p2, .int .i64 (-9), .int .i64 30] (fun _ _ _ => lex.run_fn rfl rfl rfl (enters_of Tryd.func17 (by kernel_rfl) rfl)) (fun D W' hC => (HN2.out W').mono fun e w2 ⟨he, hw⟩ => ⟨he, by rw [← hw]; exact hC⟩) ?_
            refine lex.o_pure (Value.slice (some ⟨bd, od, none⟩) M c3) (fun D W' hC => lex.w_move rfl rfl) ?_
            refine lex.o_pure (.int .i64 (j : Nat)) (fun D W' hC => lex.w_move rfl rfl) ?_
            refine lex.o_pure (.pointer (some ⟨bd, od + j * 4, none⟩)) (fun D W' hC => lex.run_at (size := 4) rfl rfl rfl hjl Tryd.underlying50 hi1 hi2) ?_
            refine lex.o_pure (.pointer (some ⟨bd, od + j * 4 + 3, none⟩)) (fun D W' hC => lex.w_ix (j := 3) rfl rfl rfl Tryd.underlying57 (by decide)) ?_
            refine lex.o_pure (.int .i64 p3) (fun D W' hC => lex.run_load rfl rfl Tryd.underlying3 rfl (kk3 D W' hC)) ?_
            refine lex.o_call (.int .i64 n3) 17 #[.int .i64 p3, .int .i64 (-9), .int .i64 40] (fun _ _ _ => lex.run_fn rfl rfl rfl (enters_of Tryd.func17 (by kernel_rfl) rfl)) (fun D W' hC => (HN3.out W').mono fun e w2 ⟨he, hw⟩ => ⟨he, by rw [← hw]; exact hC⟩) ?_
            refine lex.o_callE (.int .i64 0) 20 #[.pointer (some ⟨w.heap.size + 1, 0, none⟩), .int .i64 n0, .int .i64 n1, .int .i64 n2, .int .i64 n3] (fun _ _ _ => lex.run_fn rfl rfl rfl (enters_of Tryd.func20 (by kernel_rfl) rfl)) (fun D W' h0 hC => ?_) ?_
            · obtain ⟨hg, hk, -⟩ := hC
              obtain ⟨k, rfl⟩ := hk h0
              refine (HDR.out k).mono ?_
              rintro e w2 ⟨rfl, hc2, hg2⟩
              exact ⟨rfl, run.grown_trans (drewN_grown wr k _) hg2 (.inl rfl), (fun h => by cases h), fun _ => hc2⟩
            refine lex.o_end_at { tmps := #[Value.int IntKind.i64 w1, Value.int IntKind.i64 h1, Value.slice a2 i c2, Value.slice (some ⟨bd, od, none⟩) M c3, undef, undef, undef, undef, u8, Value.int IntKind.i64 ↑W, Value.int IntKind.i64 ↑H, Value.pointer (some ⟨w.heap.size + 1, 0, none⟩), Value.int IntKind.i64 0, Value.int IntKind.i64 ↑i, u14, Value.int IntKind.i64 ↑j, undef, undef, undef, undef, undef, undef, Value.int IntKind.i64 w1, Value.int IntKind.i64 ↑W, Value.int IntKind.i64 h1, Value.int IntKind.i64 ↑H, Value.tuple #[Value.pointer (some ⟨w.heap.size + 1, 0, none⟩), Value.int IntKind.i64 0], Value.int IntKind.i64 ↑W, Value.int IntKind.i64 ↑H, Value.tuple #[Value.pointer (some ⟨w.heap.size + 1, 0, none⟩), Value.int IntKind.i64 0], Value.pointer (some ⟨w.heap.size + 1, 0, none⟩), Value.int IntKind.i64 0, Value.int IntKind.i64 0, Value.bool false, Value.bool false, Value.pointer (some ⟨w.heap.size + 1, 0, none⟩), Value.bool false, Value.bool false, Value.bool false, Value.bool true, Value.bool false, Value.bool false, Value.int IntKind.i64 ↑i, Value.slice a2 i c2, Value.int IntKind.i64 ↑i, Value.bool false, u46, u47, u48, u49, u50, u51, u52, u53, u54, u55, u56, u57, u58, u59, u60, u61, u62, u63, u64, u65, u66, u67, u68, u69, u70, u71, u72, u73, u74, u75, u76, u77, u78, u79, u80, u81, u82, u83, u84, u85, u86, u87, u88, u89, u90, u91, u92, u93, u94, u95, Value.int IntKind.i64 ↑j, Value.slice (some ⟨bd, od, none⟩) M c3, Value.int IntKind.i64 ↑M, Value.bool true, u100, u101, .pointer (some ⟨w.heap.size + 1, 0, none⟩), Value.slice (some ⟨bd, od, none⟩) M c3, .int .i64 (j : Nat), .pointer (some ⟨bd, od + j * 4, none⟩), .pointer (some ⟨bd, od + j * 4 + 0, none⟩), .int .i64 p0, .int .i64 n0, Value.slice (some ⟨bd, od, none⟩) M c3, .int .i64 (j : Nat), .pointer (some ⟨bd, od + j * 4, none⟩), .pointer (some ⟨bd, od + j * 4 + 1, none⟩), .int .i64 p1, .int .i64 n1, Value.slice (some ⟨bd, od, none⟩) M c3, .int .i64 (j : Nat), .pointer (some ⟨bd, od + j * 4, none⟩), .pointer (some ⟨bd, od + j * 4 + 2, none⟩), .int .i64 p2, .int .i64 n2, Value.slice (some ⟨bd, od, none⟩) M c3, .int .i64 (j : Nat), .pointer (some ⟨bd, od + j * 4, none⟩), .pointer (some ⟨bd, od + j * 4 + 3, none⟩), .int .i64 p3, .int .i64 n3, .int .i64 0, u128, u129, u130, u131, u132, u133, u134, u135, u136, u137, u138, u139, u140, u141, u142, u143, u144, u145, u146, u147, undef, undef, undef, undef, undef, undef, undef, undef, undef, undef, undef, undef, undef, undef, undef, undef, undef, undef, undef, undef, undef, undef, undef, undef, undef, undef, undef, undef, undef, undef, undef, undef, undef, undef, undef, undef, undef, undef, undef, undef, undef, undef, undef, undef, undef, undef, undef, undef, undef, undef, undef, undef, undef, undef, undef, undef, undef, undef, undef, undef, undef, undef, undef, undef, undef, undef, undef, undef, undef, undef, undef, undef, undef, undef, undef, undef, undef, undef, undef, undef, undef, undef, undef, undef, undef, undef, undef, undef, undef, undef, undef, undef, undef, undef, undef, undef, undef], defers := [] } (by kernel_rfl) ?_
            rintro w' d hd ⟨hg, -, hc⟩
            go_wp2
            go_meet
            case rel => exact ⟨hg, hc (hd 25 (by decide))⟩
            --END R15
          obtain ⟨hg, hc⟩ := hcut
          have HS2 := run.hid (HSr.out.drawn hc hg (Nat.le_refl _))
          clear kk0 kk1 kk2 kk3 hg hc HDR
          have HDR := run.hid (fun k => circle_any w.heap.size (w.heap.size + 1) w.heap.size W H S1 n0 n1 rr (wc.drewN k) HS2.out.low (HS2.out.next (drewN_below _ wc k)).dots (HS2.out.next (drewN_below _ wc k)).canvas i0 i1 (by omega))
          obtain ⟨S2, hS2⟩ : ∃ S2, S2 = plots S1 (circL n0 n1 rr (circN rr)) := ⟨_, rfl⟩
          rw [← hS2] at HDR HX2
          have kk0 : ∀ (D : Nat → Bool) W', (wc.grownBy W' (some w.heap.size) ∧ (D 19 = false → ∃ k, W' = wc.drewN k) ∧ (D 19 = true → Canvas w.heap.size (w.heap.size + 1) w.heap.size W H S2 W')) → W'.cell? ⟨bd, od + j * 4 + 0, none⟩ = some (.int .i64 p0) := fun D W' hC => hC.1.cell ((HS2.out.below.cell (p := ⟨bd, od + j * 4 + 0, none⟩) hbd).trans G0.out) (by simp; omega)
          have kk1 : ∀ (D : Nat → Bool) W', (wc.grownBy W' (some w.heap.size) ∧ (D 19 = false → ∃ k, W' = wc.drewN k) ∧ (D 19 = true → Canvas w.heap.size (w.heap.size + 1) w.heap.size W H S2 W')) → W'.cell? ⟨bd, od + j * 4 + 1, none⟩ = some (.int .i64 p1) := fun D W' hC => hC.1.cell ((HS2.out.below.cell (p := ⟨bd, od + j * 4 + 1, none⟩) hbd).trans G1.out) (by simp; omega)
          have kk2 : ∀ (D : Nat → Bool) W', (wc.grownBy W' (some w.heap.size) ∧ (D 19 = false → ∃ k, W' = wc.drewN k) ∧ (D 19 = true → Canvas w.heap.size (w.heap.size + 1) w.heap.size W H S2 W')) → W'.cell? ⟨bd, od + j * 4 + 2, none⟩ = some (.int .i64 p2) := fun D W' hC => hC.1.cell ((HS2.out.below.cell (p := ⟨bd, od + j * 4 + 2, none⟩) hbd).trans G2.out) (by simp; omega)
          go_upto_region 16 with fail
          --R16
          refine lex.region (fun d W' => wc.grownBy W' (some w.heap.size) ∧ (d 19 = false → ∃ k, W' = wc.drewN k) ∧ (d 19 = true → Canvas w.heap.size (w.heap.size + 1) w.heap.size W H S2 W')) (by kernel_rfl) (by kernel_rfl) (by kernel_rfl) (⟨drewN_grown wc 1 _, fun _ => ⟨1, rfl⟩, (fun h => by cases h)⟩) ?_
          refine lex.begin 245 rfl ?_
          refine lex.o_pure (.pointer (some ⟨w.heap.size + 1, 0, none⟩)) (fun D W' hC => lex.w_move rfl rfl) ?_
          refine lex.o_pure (Value.slice (some ⟨bd, od, none⟩) M c3) (fun D W' hC => lex.w_move rfl rfl) ?_
          refine lex.o_pure (.int .i64 (j : Nat)) (fun D W' hC => lex.w_move rfl rfl) ?_
          refine lex.o_pure (.pointer (some ⟨bd, od + j * 4, none⟩)) (fun D W' hC => lex.run_at (size := 4) rfl rfl rfl hjl Tryd.underlying50 hi1 hi2) ?_
          refine lex.o_pure (.pointer (some ⟨bd, od + j * 4 + 0, none⟩)) (fun D W' hC => lex.w_ix (j := 0) rfl rfl rfl Tryd.underlying57 (by decide)) ?_
          refine lex.o_pure (.int .i64 p0) (fun D W' hC => lex.run_load rfl rfl Tryd.underlying3 rfl (kk0 D W' hC)) ?_
          refine lex.o_call (.int .i64 n0) 17 #[.int .i64 p0, .int .i64 (-9), .int .i64 30] (fun _ _ _ => lex.run_fn rfl rfl rfl (enters_of Tryd.func17 (by kernel_rfl) rfl)) (fun D W' hC => (HN0.out W').mono fun e w2 ⟨he, hw⟩ => ⟨he, by rw [← hw]; exact hC⟩) ?_
          refine lex.o_pure (Value.slice (some ⟨bd, od, none⟩) M c3) (fun D W' hC => lex.w_move rfl rfl) ?_
          refine lex.o_pure (.int .i64 (j : Nat)) (fun D W' hC => lex.w_move rfl rfl) ?_
          refine lex.o_pure (.pointer (some ⟨bd, od + j * 4, none⟩)) (fun D W' hC => lex.run_at (size := 4) rfl rfl rfl hjl Tryd.underlying50 hi1 hi2) ?_
          refine lex.o_pure (.pointer (some ⟨bd, od + j * 4 + 1, none⟩)) (fun D W' hC => lex.w_ix (j := 1) rfl rfl rfl Tryd.underlying57 (by decide)) ?_
          refine lex.o_pure (.int .i64 p1) (fun D W' hC => lex.run_load rfl rfl Tryd.underlying3 rfl (kk1 D W' hC)) ?_
          refine lex.o_call (.int .i64 n1) 17 #[.int .i64 p1, .int .i64 (-9), .int .i64 40] (fun _ _ _ => lex.run_fn rfl rfl rfl (enters_of Tryd.func17 (by kernel_rfl) rfl)) (fun D W' hC => (HN1.out W').mono fun e w2 ⟨he, hw⟩ => ⟨he, by rw [← hw]; exact hC⟩) ?_
          refine lex.o_pure (Value.slice (some ⟨bd, od, none⟩) M c3) (fun D W' hC => lex.w_move rfl rfl) ?_
          refine lex.o_pure (.int .i64 (j : Nat)) (fun D W' hC => lex.w_move rfl rfl) ?_
          refine lex.o_pure (.pointer (some ⟨bd, od + j * 4, none⟩)) (fun D W' hC => lex.run_at (size := 4) rfl rfl rfl hjl Tryd.underlying50 hi1 hi2) ?_
          refine lex.o_pure (.pointer (some ⟨bd, od + j * 4 + 2, none⟩)) (fun D W' hC => lex.w_ix (j := 2) rfl rfl rfl Tryd.underlying57 (by decide)) ?_
          refine lex.o_pure (.int .i64 p2) (fun D W' hC => lex.run_load rfl rfl Tryd.underlying3 rfl (kk2 D W' hC)) ?_
          refine lex.o_call (.int .i64 (rr : Nat)) 17 #[.int .i64 p2, .int .i64 (0), .int .i64 30] (fun _ _ _ => lex.run_fn rfl rfl rfl (enters_of Tryd.func17 (by kernel_rfl) rfl)) (fun D W' hC => (HNR.out W').mono fun e w2 ⟨he, hw⟩ => ⟨he, by rw [← hw]; exact hC⟩) ?_
          refine lex.o_callE (.int .i64 0) 21 #[.pointer (some ⟨w.heap.size + 1, 0, none⟩), .int .i64 n0, .int .i64 n1, .int .i64 (rr : Nat)] (fun _ _ _ => lex.run_fn rfl rfl rfl (enters_of Tryd.func21 (by kernel_rfl) rfl)) (fun D W' h0 hC => ?_) ?_
          · obtain ⟨hg, hk, -⟩ := hC
            obtain ⟨k, rfl⟩ := hk h0
            refine (HDR.out k).mono ?_
            rintro e w2 ⟨rfl, hc2, hg2⟩
            exact ⟨rfl, run.grown_trans (drewN_grown wc k _) hg2 (.inl rfl), (fun h => by cases h), fun _ => hc2⟩
          refine lex.o_end_at { tmps := #[Value.int IntKind.i64 w1, Value.int IntKind.i64 h1, Value.slice a2 i c2, Value.slice (some ⟨bd, od, none⟩) M c3, undef, undef, undef, undef, u8, Value.int IntKind.i64 ↑W, Value.int IntKind.i64 ↑H, Value.pointer (some ⟨w.heap.size + 1, 0, none⟩), Value.int IntKind.i64 0, Value.int IntKind.i64 ↑i, u14, Value.int IntKind.i64 ↑j, undef, undef, undef, undef, undef, undef, Value.int IntKind.i64 w1, Value.int IntKind.i64 ↑W, Value.int IntKind.i64 h1, Value.int IntKind.i64 ↑H, Value.tuple #[Value.pointer (some ⟨w.heap.size + 1, 0, none⟩), Value.int IntKind.i64 0], Value.int IntKind.i64 ↑W, Value.int IntKind.i64 ↑H, Value.tuple #[Value.pointer (some ⟨w.heap.size + 1, 0, none⟩), Value.int IntKind.i64 0], Value.pointer (some ⟨w.heap.size + 1, 0, none⟩), Value.int IntKind.i64 0, Value.int IntKind.i64 0, Value.bool false, Value.bool false, Value.pointer (some ⟨w.heap.size + 1, 0, none⟩), Value.bool false, Value.bool false, Value.bool false, Value.bool true, Value.bool false, Value.bool false, Value.int IntKind.i64 ↑i, Value.slice a2 i c2, Value.int IntKind.i64 ↑i, Value.bool false, u46, u47, u48, u49, u50, u51, u52, u53, u54, u55, u56, u57, u58, u59, u60, u61, u62, u63, u64, u65, u66, u67, u68, u69, u70, u71, u72, u73, u74, u75, u76, u77, u78, u79, u80, u81, u82, u83, u84, u85, u86, u87, u88, u89, u90, u91, u92, u93, u94, u95, Value.int IntKind.i64 ↑j, Value.slice (some ⟨bd, od, none⟩) M c3, Value.int IntKind.i64 ↑M, Value.bool true, u100, u101, u102, u103, u104, u105, u106, u107, u108, u109, u110, u111, u112, u113, u114, u115, u116, u117, u118, u119, u120, u121, u122, u123, u124, u125, u126, u127, .pointer (some ⟨w.heap.size + 1, 0, none⟩), Value.slice (some ⟨bd, od, none⟩) M c3, .int .i64 (j : Nat), .pointer (some ⟨bd, od + j * 4, none⟩), .pointer (some ⟨bd, od + j * 4 + 0, none⟩), .int .i64 p0, .int .i64 n0, Value.slice (some ⟨bd, od, none⟩) M c3, .int .i64 (j : Nat), .pointer (some ⟨bd, od + j * 4, none⟩), .pointer (some ⟨bd, od + j * 4 + 1, none⟩), .int .i64 p1, .int .i64 n1, Value.slice (some ⟨bd, od, none⟩) M c3, .int .i64 (j : Nat), .pointer (some ⟨bd, od + j * 4, none⟩), .pointer (some ⟨bd, od + j * 4 + 2, none⟩), .int .i64 p2, .int .i64 (rr : Nat), .int .i64 0, undef, undef, undef, undef, undef, undef, undef, undef, undef, undef, undef, undef, undef, undef, undef, undef, undef, undef, undef, undef, undef, undef, undef, undef, undef, undef, undef, undef, undef, undef, undef, undef, undef, undef, undef, undef, undef, undef, undef, undef, undef, undef, undef, undef, undef, undef, undef, undef, undef, undef, undef, undef, undef, undef, undef, undef, undef, undef, undef, undef, undef, undef, undef, undef, undef, undef, undef, undef, undef, undef, undef, undef, undef, undef, undef, undef, undef, undef, undef, undef, undef, undef, undef, undef, undef, undef, undef, undef, undef, undef, undef, undef, undef, undef, undef, undef, undef], defers := [] } (by kernel_rfl) ?_
          rintro w' d hd ⟨hg, -, hc⟩
          have HS3 := run.hid (HS2.out.drawn (hc (hd 19 (by decide))) hg (Nat.le_refl _))
          clear kk0 kk1 kk2 hc hg HS2 HSr HHr hd
          go_wp2
          go_roundw
          case rel => exact ⟨j + 1, _, by omega, by go_num, HS3, HX2⟩
          case measure => simp [intOf]; omega
          --END R16
        · obtain rfl : j = M := by omega
          clear hjl HB
          generalize wr = wy at *
          go_wp2
          go_loopw [16] (fun vi wr => ∃ k : Nat, k ≤ i ∧ vi = .int .i64 k ∧ Hid (St w w.heap.size (w.heap.size + 1) w.heap.size W H S wr)) (fun vi _ => (i - intOf vi).toNat)
          case atStart => exact ⟨0, by omega, rfl, HSr⟩
          case round =>
            clear HSr
            obtain ⟨k, hk, rfl, HSr⟩ := hrel
            by_cases hkl : k < i
            · obtain ⟨bd, od, rfl, hbd, hcd⟩ := HA.out k hkl
              obtain ⟨g0, x0⟩ := hcd 0 (by omega)
              obtain ⟨g1, x1⟩ := hcd 1 (by omega)
              have y0 := wfI x0
              have y1 := wfI x1
              have hx := HHr.out k hkl
              generalize f k 0 = px at *
              generalize f k 1 = py at *
              have HDT := run.hid (fun W' (hb : Below wr.heap.size wr W') => (has_any w.heap.size (w.heap.size + 1) w.heap.size W H S px py W' (HSr.out.next hb).dots (HSr.out.next hb).canvas))
              have hand : (inside W H px py && S px py) = inside W H px py := by cases hi : inside W H px py with | true => rw [hx hi]; rfl | false => rfl
              rw [hand] at HDT
              have k0 := (HSr.out.below.cell (p := ⟨bd, od + k * 2 + 0, none⟩) hbd).trans g0
              have k1 := (HSr.out.below.cell (p := ⟨bd, od + k * 2 + 1, none⟩) hbd).trans g1
              rw [Nat.add_zero] at k0
              have K0 := run.hid k0
              have K1 := run.hid k1
              clear hcd x0 x1 g0 g1 hx hand
              have hsz := HSr.out.below.size
              obtain ⟨BI, hBI⟩ : ∃ BI, BI = inside W H px py := ⟨_, rfl⟩
              rw [← hBI] at HDT
              go_upto_region 20 with fail
              go_cut [17] from 154 to 187 (fun v wx => v = .bool BI ∧ wx = wr)
              case first =>
                unfold inside at hBI
                by_cases q0 : 0 ≤ px
                · by_cases q1 : px < 2 * (W : Int)
                  · by_cases q2 : 0 ≤ py
                    · by_cases q3 : py < 4 * (H : Int)
                      · have hb : BI = true := by rw [hBI]; simp; omega
                        subst hb
                        clear hBI
                        go_wp2
                        go_meet
                        case rel => exact ⟨rfl, rfl⟩
                      · have hb : BI = false := by rw [hBI]; simp; omega
                        subst hb
                        clear hBI
                        go_wp2
                        go_meet
                        case rel => exact ⟨rfl, rfl⟩
                    · have hb : BI = false := by rw [hBI]; simp; omega
                      subst hb
                      clear hBI
                      go_wp2
                      go_meet
                      case rel => exact ⟨rfl, rfl⟩
                  · have hb : BI = false := by rw [hBI]; simp; omega
                    subst hb
                    clear hBI
                    go_wp2
                    go_meet
                    case rel => exact ⟨rfl, rfl⟩
                · have hb : BI = false := by rw [hBI]; simp; omega
                  subst hb
                  clear hBI
                  go_wp2
                  go_meet
                  case rel => exact ⟨rfl, rfl⟩
              obtain ⟨rfl, rfl⟩ := hcut
              have kk0 : ∀ (D : Nat → Bool) W', Below wc.heap.size wc W' → W'.cell? ⟨bd, od + k * 2 + 0, none⟩ = some (.int .i64 px) := fun D W' hC => (hC.cell (p := ⟨bd, od + k * 2 + 0, none⟩) (by show bd < _; omega)).trans K0.out
              have kk1 : ∀ (D : Nat → Bool) W', Below wc.heap.size wc W' → W'.cell? ⟨bd, od + k * 2 + 1, none⟩ = some (.int .i64 py) := fun D W' hC => (hC.cell (p := ⟨bd, od + k * 2 + 1, none⟩) (by show bd < _; omega)).trans K1.out
              obtain ⟨it2, hi1, hi2⟩ := lex.info_arr2
              go_upto_region 21 with fail
              go_cut [201] from 188 to 201 (fun v wx => v = .bool false ∧ Below wc.heap.size wc wx)
              case first =>
                --R21
                refine lex.region (fun d W' => Below wc.heap.size wc W') (by kernel_rfl) (by kernel_rfl) (by kernel_rfl) (drewN_below _ wc 1) ?_
                refine lex.begin 245 rfl ?_
                refine lex.o_pure (.pointer (some ⟨w.heap.size + 1, 0, none⟩)) (fun D W' hC => lex.w_move rfl rfl) ?_
                refine lex.o_pure (Value.slice (some ⟨bd, od, none⟩) i c2) (fun D W' hC => lex.w_move rfl rfl) ?_
                refine lex.o_pure (.int .i64 (k : Nat)) (fun D W' hC => lex.w_move rfl rfl) ?_
                refine lex.o_pure (.pointer (some ⟨bd, od + k * 2, none⟩)) (fun D W' hC => lex.run_at (size := 2) rfl rfl rfl hkl Tryd.underlying49 hi1 hi2) ?_
                refine lex.o_pure (.pointer (some ⟨bd, od + k * 2 + 0, none⟩)) (fun D W' hC => lex.w_ix (j := 0) rfl rfl rfl Tryd.underlying22 (by decide)) ?_
                refine lex.o_pure (.int .i64 px) (fun D W' hC => lex.run_load rfl rfl Tryd.underlying3 rfl (kk0 D W' hC)) ?_
                refine lex.o_pure (Value.slice (some ⟨bd, od, none⟩) i c2) (fun D W' hC => lex.w_move rfl rfl) ?_
                refine lex.o_pure (.int .i64 (k : Nat)) (fun D W' hC => lex.w_move rfl rfl) ?_
                refine lex.o_pure (.pointer (some ⟨bd, od + k * 2, none⟩)) (fun D W' hC => lex.run_at (size := 2) rfl rfl rfl hkl Tryd.underlying49 hi1 hi2) ?_
                refine lex.o_pure (.pointer (some ⟨bd, od + k * 2 + 1, none⟩)) (fun D W' hC => lex.w_ix (j := 1) rfl rfl rfl Tryd.underlying22 (by decide)) ?_
                refine lex.o_pure (.int .i64 py) (fun D W' hC => lex.run_load rfl rfl Tryd.underlying3 rfl (kk1 D W' hC)) ?_
                refine lex.o_call (.bool BI) 22 #[.pointer (some ⟨w.heap.size + 1, 0, none⟩), .int .i64 px, .int .i64 py] (fun _ _ _ => lex.run_fn rfl rfl rfl (enters_of Tryd.func22 (by kernel_rfl) rfl)) (fun D W' hC => (HDT.out W' hC).mono fun e w2 ⟨he, hw⟩ => ⟨he, hC.trans (hw.mono hC.size)⟩) ?_
                refine lex.o_pure (.bool BI) (fun D W' hC => lex.w_move rfl rfl) ?_
                refine lex.o_pure (.bool false) (fun D W' hC => lex.w_neq rfl rfl rfl) ?_
                refine lex.o_end_at { tmps := #[Value.int IntKind.i64 w1, Value.int IntKind.i64 h1, Value.slice (some ⟨bd, od, none⟩) i c2, Value.slice a3 j c3, undef, undef, undef, undef, u8, Value.int IntKind.i64 ↑W, Value.int IntKind.i64 ↑H, Value.pointer (some ⟨w.heap.size + 1, 0, none⟩), Value.int IntKind.i64 0, Value.int IntKind.i64 ↑i, u14, Value.int IntKind.i64 ↑j, Value.int IntKind.i64 ↑k, Value.bool BI, undef, undef, undef, undef, Value.int IntKind.i64 w1, Value.int IntKind.i64 ↑W, Value.int IntKind.i64 h1, Value.int IntKind.i64 ↑H, Value.tuple #[Value.pointer (some ⟨w.heap.size + 1, 0, none⟩), Value.int IntKind.i64 0], Value.int IntKind.i64 ↑W, Value.int IntKind.i64 ↑H, Value.tuple #[Value.pointer (some ⟨w.heap.size + 1, 0, none⟩), Value.int IntKind.i64 0], Value.pointer (some ⟨w.heap.size + 1, 0, none⟩), Value.int IntKind.i64 0, Value.int IntKind.i64 0, Value.bool false, Value.bool false, Value.pointer (some ⟨w.heap.size + 1, 0, none⟩), Value.bool false, Value.bool false, Value.bool false, Value.bool true, Value.bool false, Value.bool false, Value.int IntKind.i64 ↑i, Value.slice (some ⟨bd, od, none⟩) i c2, Value.int IntKind.i64 ↑i, Value.bool false, u46, u47, u48, u49, u50, u51, u52, u53, u54, u55, u56, u57, u58, u59, u60, u61, u62, u63, u64, u65, u66, u67, u68, u69, u70, u71, u72, u73, u74, u75, u76, u77, u78, u79, u80, u81, u82, u83, u84, u85, u86, u87, u88, u89, u90, u91, u92, u93, u94, u95, Value.int IntKind.i64 ↑j, Value.slice a3 j c3, Value.int IntKind.i64 ↑j, Value.bool false, u100, u101, u102, u103, u104, u105, u106, u107, u108, u109, u110, u111, u112, u113, u114, u115, u116, u117, u118, u119, u120, u121, u122, u123, u124, u125, u126, u127, u128, u129, u130, u131, u132, u133, u134, u135, u136, u137, u138, u139, u140, u141, u142, u143, u144, u145, u146, u147, Value.int IntKind.i64 ↑k, Value.slice (some ⟨bd, od, none⟩) i c2, Value.int IntKind.i64 ↑i, Value.bool true, u152, u153, u154, u155, u156, u157, u158, u159, u160, u161, u162, u163, u164, u165, u166, u167, u168, u169, u170, u171, u172, u173, u174, u175, u176, u177, u178, u179, u180, u181, u182, u183, u184, u185, u186, u187, .pointer (some ⟨w.heap.size + 1, 0, none⟩), Value.slice (some ⟨bd, od, none⟩) i c2, .int .i64 (k : Nat), .pointer (some ⟨bd, od + k * 2, none⟩), .pointer (some ⟨bd, od + k * 2 + 0, none⟩), .int .i64 px, Value.slice (some ⟨bd, od, none⟩) i c2, .int .i64 (k : Nat), .pointer (some ⟨bd, od + k * 2, none⟩), .pointer (some ⟨bd, od + k * 2 + 1, none⟩), .int .i64 py, .bool BI, .bool BI, .bool false, undef, undef, undef, undef, undef, undef, undef, undef, undef, undef, undef, undef, undef, undef, undef, undef, undef, undef, undef, undef, undef, undef, undef, undef, undef, undef, undef, undef, undef, undef, undef, undef, undef, undef, undef, undef, undef, undef, undef, undef, undef, undef, undef], defers := [] } (by kernel_rfl) ?_
                rintro w' d hd hb
                go_wp2
                go_meet
                case rel => exact ⟨rfl, hb⟩
                --END R21
              obtain ⟨rfl, hb⟩ := hcut
              have HS2 := run.hid (HSr.out.next hb)
              clear kk0 kk1 hb K0 K1 k0 k1 HDT HSr hsz
              go_wp2
              go_roundw
              case rel => exact ⟨k + 1, by omega, by go_num, HS2⟩
              case measure => simp [intOf]; omega
            · obtain rfl : k = i := by omega
              clear hkl HA HHr hk
              have HRW := run.hid (rows_any w.heap.size (w.heap.size + 1) w.heap.size W H S wr HSr.out.canvas)
              go_wp2_with fail
              refine HRW.out.mono ?_
              rintro e w5 ⟨v5, rfl, hown5, hb5⟩
              obtain ⟨a5, c5, rfl⟩ := run.own_value hown5
              have HS5 := run.hid (HSr.out.next hb5)
              have HR5 := run.hid (run.reads_own hown5)
              clear hown5 hb5 HRW HSr
              go_wp2
              go_loopw [19] (fun vi wr => ∃ y : Nat, y ≤ H ∧ vi = .int .i64 y ∧ Hid (St w w.heap.size (w.heap.size + 1) w.heap.size W H S wr) ∧ Hid (Below w5.heap.size w5 wr)) (fun vi _ => (H - intOf vi).toNat)
              case atStart => exact ⟨0, by omega, rfl, HS5, Below.refl _ _⟩
              case round =>
                clear HS5
                obtain ⟨y, hy, rfl, HSr, HBr⟩ := hrel
                have hsr := HBr.out.size
                by_cases hyl : y < H
                · obtain ⟨g5, o5, rfl, hlt5, hc5⟩ := reads_row HR5.out hyl
                  have cr := (HBr.out.cell (p := ⟨g5, o5 + y, none⟩) hlt5).trans hc5
                  have HRR := row_runes S W y
                  have HWD := row_width S W y
                  have HSZ := row_size S W y
                  have HGL := glyphs_length S W y
                  have HGG := run.hid (fun x hx => glyphs_get S W y (x := x) hx)
                  generalize hT : rowS S W y = T at *
                  clear hc5 hT
                  have HU := run.hid (utf.runes_use T wr (by omega) (by rw [HRR, HGL]; omega))
                  have HWI := run.hid (fun X => clu.width_any T X (by omega))
                  rw [HRR, HGL] at HU
                  rw [HWD] at HWI
                  clear HRR HWD HSZ
                  go_wp2_with fail
                  refine HU.out.mono ?_
                  rintro e w6 ⟨v6, rfl, hown6, hr6, hb6, -⟩
                  have cr6 := (hb6.cell (p := ⟨g5, o5 + y, none⟩) (by show g5 < _; omega)).trans cr
                  have HS6 := run.hid (HSr.out.next hb6)
                  have HB6 := run.hid (HBr.out.trans (hb6.mono hsr))
                  have hs6 := hb6.size
                  obtain ⟨a6, c6, rfl⟩ := run.own_value hown6
                  have HR6 := run.hid hr6
                  clear hown6 hr6 hb6 HU cr HSr HBr
                  go_wp2_with fail
                  refine (HWI.out _).mono ?_
                  rintro e w7 ⟨rfl, hb7⟩
                  have HS7 := run.hid (HS6.out.next hb7)
                  have HB7 := run.hid (HB6.out.trans (hb7.mono HB6.out.size))
                  have HR7 := run.hid (HR6.out.below hb7)
                  clear cr6 HS6 HB6 HR6 hb7 HWI
                  go_wp2
                  go_loopw [21] (fun vi wr => ∃ x : Nat, x ≤ W ∧ vi = .int .i64 x ∧ Hid (St w w.heap.size (w.heap.size + 1) w.heap.size W H S wr) ∧ Hid (Below w7.heap.size w7 wr)) (fun vi _ => (W - intOf vi).toNat)
                  case atStart => exact ⟨0, by omega, rfl, HS7, Below.refl _ _⟩
                  case round =>
                    clear HS7
                    obtain ⟨x, hx, rfl, HSx, HBx⟩ := hrel
                    by_cases hxl : x < W
                    · obtain ⟨b6, o6, c6', e6, hlt6, hc6⟩ := reads_rune HR7.out (k := x) (by rw [HGL]; exact hxl)
                      simp only [Value.slice.injEq] at e6
                      obtain ⟨rfl, -, rfl⟩ := e6
                      rw [HGG.out x hxl] at hc6
                      have cx := (HBx.out.cell (p := ⟨b6, o6 + x, none⟩) hlt6).trans hc6
                      have HTL := run.hid (tells_any HSx.out x y hxl hyl (by omega) (by omega))
                      clear hc6
                      generalize glyphC (cellByte S x y) = gl at *
                      go_wp2_with fail
                      refine HTL.out.mono ?_
                      rintro e w8 ⟨rfl, hb8⟩
                      have HS8 := run.hid (HSx.out.next hb8)
                      have HB8 := run.hid (HBx.out.trans (hb8.mono HBx.out.size))
                      clear HSx HBx hb8 cx HTL
                      go_wp2
                      go_roundw
                      case rel => exact ⟨x + 1, by omega, by go_num, HS8, HB8⟩
                      case measure => simp [intOf]; omega
                    · obtain rfl : x = W := by omega
                      have HB9 := run.hid (HB7.out.trans (HBx.out.mono HB7.out.size))
                      clear HBx HB7 HR7 HGG
                      go_wp2
                      go_roundw
                      case rel => exact ⟨y + 1, by omega, by go_num, HSx, HB9⟩
                      case measure => simp [intOf]; omega
                · obtain rfl : y = H := by omega
                  have HF := run.hid HSr.out.below
                  clear HSr HBr HR5
                  go_wp2
                  go_ret
                  exact ⟨rfl, HF.out⟩
end Go.Proofs.YtbfheehaagcmeaaDoor.can
