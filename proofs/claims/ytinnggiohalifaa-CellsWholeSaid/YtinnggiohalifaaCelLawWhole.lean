/-
  The walk of the law CellsWhole.
-/
import Derived.Test.YtinnggiohalifaaCelLawR
import Derived.Test.YtinnggiohalifaaCelLawRight
namespace Go.Proofs.Ytinnggiohalifaa.cel
open Go Go.RowKit Go.Proofs
set_option linter.unusedVariables false

theorem mend_fit {L : List CV} (h : ∀ c ∈ L, Fit c) : ∀ c ∈ mendT L, Fit c := by
  intro c hc
  obtain ⟨i, hi, rfl⟩ := List.mem_iff_getElem.1 hc
  have hi2 : i < L.length := by rw [mend_len _ L (Nat.le_refl _)] at hi; exact hi
  have e : (mendT L)[i] = (mendT L).getD i z0 := by simp [List.getD_eq_getElem?_getD, hi]
  rw [e]
  rcases mend_each _ L (Nat.le_refl _) i hi2 with h1 | h1
  · rw [h1, List.getD_eq_getElem?_getD, List.getElem?_eq_getElem hi2]; exact h _ (List.getElem_mem _)
  · rw [h1]; exact ⟨by show (1 : Nat) ≤ _; omega, by show (-128 : Int) ≤ 1; omega, by show (1 : Int) ≤ 127; omega⟩

set_option maxRecDepth 100000 in
set_option maxHeartbeats 8000000 in
theorem lawWhole_any (ra : Option Addr) (rc : Nat) (L : List CV) (w : World) (hR : Reads5 w (.slice ra L.length rc) L) (h0 : ra = none → rc = 0) (hcap : L.length ≤ rc) (hby : rc * 32 ≤ 140737488351232) (hL : ∀ c ∈ L, c.fine) :
    Calls Try.prog 6 #[.slice ra L.length rc] w fun e w' => e = .returned (.bool true) ∧ Below w.heap.size w w' := by
  obtain ⟨it, hinf, -, hsz, -⟩ := info_parts info_cell
  have HLONG := run.hid (long_any ra rc L 0 w hR (by omega) (fun c hc => (hL c hc).1) (by omega))
  have HW := run.hid (fun w => wakes_any w)
  cases hlo : (longT L 0).2 with
  | true =>
    rw [hlo] at HLONG
    clear hlo hR hL h0
    generalize (longT L 0).1 = lm at *
    generalize L.length = N at *
    go_enter Try.func6, Try.ntmps6
    go_wp2_with fail
    refine HLONG.out.mono ?_
    rintro e w1 ⟨rfl, hb1⟩
    go_wp2
    go_ret
    exact ⟨rfl, hb1⟩
  | false =>
    rw [hlo] at HLONG
    obtain ⟨hfit0, hbig⟩ := fit_of hL hlo
    have hfit : ∀ c ∈ L, Fit c := fun c hc => (hfit0 c hc).1
    have HM1 := run.hid (fun X (hX : Below w.heap.size w X) => mend_any ra rc L X (hR.below hX) h0 hcap (by omega) hfit)
    have hml := mend_len _ L (Nat.le_refl _)
    have HLR := run.hid (fun X a c (h : Reads5 X (.slice a L.length c) (mendT L)) => show Calls _ _ _ X fun e w' => e = .returned (.bool true) ∧ _ from by
      have := lawr_any a c (mendT L) X (by rw [hml]; exact h) (by omega) (mend_fit hfit)
      rw [mend_whole _ L (Nat.le_refl _), hml] at this
      exact this)
    have HM2 := run.hid (fun X a c (h : Reads5 X (.slice a L.length c) (mendT L)) (hn : a = none → c = 0) (hc : L.length ≤ c) => show Calls _ _ _ X fun e w' => ∃ v, e = .returned v ∧ w'.ownsRow X.heap.size 44 5 v L.length (cells5 (mendT L)) ∧ _ from by
      have := mend_any a c (mendT L) X (by rw [hml]; exact h) hn (by omega) (by omega) (mend_fit hfit)
      rw [mend_stays _ (mendT L) (Nat.le_refl _) (mend_whole _ L (Nat.le_refl _)), hml] at this
      exact this)
    have HR0 := run.hid (fun X (hX : Below w.heap.size w X) i (hi : i < L.length) => reads_cell (hR.below hX) hi)
    have HRD := run.hid (fun X base v (h : World.ownsRow X base 44 5 v L.length (cells5 (mendT L))) => show Reads5 X v (mendT L) from reads5_own (by rw [hml]; exact h))
    have HRC := run.hid (fun X a c (h : Reads5 X (.slice a L.length c) (mendT L)) i (hi : i < L.length) => reads_cell (L := mendT L) (by rw [hml]; exact h) (i := i) (by omega))
    have HEA := run.hid (mend_each _ L (Nat.le_refl _))
    clear hlo hR hL h0 hfit0 hfit hml
    generalize (longT L 0).1 = lm at *
    generalize mendT L = M at *
    obtain ⟨N, hN⟩ : ∃ N, N = L.length := ⟨_, rfl⟩
    rw [← hN] at HLONG hbig HM1 HLR HM2 HR0 HRD HRC HEA hcap ⊢
    clear hN
    go_enter Try.func6, Try.ntmps6
    go_wp2_with fail
    refine HLONG.out.mono ?_
    rintro e w1 ⟨rfl, hb1⟩
    have HMa := run.hid (HM1.out w1 hb1)
    clear HM1 HLONG
    go_wp2_with fail
    refine HMa.out.mono ?_
    rintro e w2 ⟨v1, rfl, ho1, hb2⟩
    have hB2 := hb1.trans (hb2.mono hb1.size)
    have hr1 := HRD.out w2 _ v1 ho1
    obtain ⟨a1, c1, hv1, hc1, hn1⟩ : ∃ a1 c1, v1 = .slice a1 N c1 ∧ N ≤ c1 ∧ (a1 = none → c1 = 0) := by
      rcases ho1.2 with ⟨rfl, h⟩ | ⟨g, cap, cur, h1, h2, h3, h4, -⟩
      · exact ⟨none, 0, by rw [h], by omega, fun _ => rfl⟩
      · exact ⟨some ⟨g, 0, none⟩, cap, h1, h4, fun h => by cases h⟩
    subst hv1
    have HO1 := run.hid ho1
    have HR1 := run.hid hr1
    have HLa := run.hid (HLR.out w2 a1 c1 hr1)
    clear ho1 hr1 HMa hb2 hb1 HLR
    go_wp2_with fail
    refine HLa.out.mono ?_
    rintro e w3 ⟨rfl, hb3⟩
    have hB3 := hB2.trans (hb3.mono hB2.size)
    have HR3 := run.hid (HR1.out.below hb3)
    have HMb := run.hid (HM2.out w3 a1 c1 HR3.out hn1 hc1)
    clear HLa HM2 HR1
    have HO3 := run.hid (run.own_below HO1.out hb3)
    go_wp2_with fail
    refine HMb.out.mono ?_
    rintro e w4 ⟨v2, rfl, ho2, hb4⟩
    have hB4 := hB3.trans (hb4.mono hB3.size)
    have hr2 := HRD.out w4 _ v2 ho2
    obtain ⟨a2, c2, hv2⟩ : ∃ a2 c2, v2 = .slice a2 N c2 := by
      rcases ho2.2 with ⟨rfl, h⟩ | ⟨g, cap, cur, h1, -⟩
      · exact ⟨none, 0, by rw [h]⟩
      · exact ⟨some ⟨g, 0, none⟩, cap, h1⟩
    subst hv2
    have HR2 := run.hid hr2
    have HR4 := run.hid (HR3.out.below hb4)
    have HO4 := run.hid (run.own_below HO3.out hb4)
    have HO2 := run.hid ho2
    clear ho2 hr2 HMb hb4 hb3 hB2 hB3 HR3 HO3 HO1
    go_wp2
    go_loopw [7] (fun vi wr => ∃ i : Nat, i ≤ N ∧ vi = .int .i64 i ∧ Below w4.heap.size w4 wr) (fun vi _ => ((N : Int) - intOf vi).toNat)
    case atStart => exact ⟨0, Nat.zero_le _, rfl, Below.refl _ _⟩
    case round =>
      obtain ⟨i, hi, rfl, hbel⟩ := hrel
      by_cases hlt : i < N
      · obtain ⟨b0, o0, rfl, hb0, hc0⟩ := HR0.out _ hB4 i hlt
        obtain ⟨g1, o1, e1, hg1, hd1⟩ := HRC.out _ a1 c1 HR4.out i hlt
        obtain ⟨g2, o2, e2, hg2, hd2⟩ := HRC.out _ a2 c2 HR2.out i hlt
        obtain rfl : o1 = 0 := by
          rcases HO4.out.2 with ⟨h, -⟩ | ⟨g, cap, cur, h1, -⟩
          · simp only [Value.slice.injEq] at h; rw [h.1] at e1; cases e1
          · simp only [Value.slice.injEq] at h1; rw [h1.1] at e1; simp only [Option.some.injEq, Addr.mk.injEq] at e1; exact e1.2.1.symm
        obtain rfl : o2 = 0 := by
          rcases HO2.out.2 with ⟨h, -⟩ | ⟨g, cap, cur, h1, -⟩
          · simp only [Value.slice.injEq] at h; rw [h.1] at e2; cases e2
          · simp only [Value.slice.injEq] at h1; rw [h1.1] at e2; simp only [Option.some.injEq, Addr.mk.injEq] at e2; exact e2.2.1.symm
        subst e1 e2
        have hs := hbel.size
        have H0 := run.hid (fun X (hX : Below wr.heap.size wr X) => hc0.below (hbel.trans (hX.mono hs)) hb0)
        have H1 := run.hid (fun X (hX : Below wr.heap.size wr X) => hd1.below (hbel.trans (hX.mono hs)) hg1)
        have H2 := run.hid (fun X (hX : Below wr.heap.size wr X) => hd2.below (hbel.trans (hX.mono hs)) hg2)
        have HB := run.hid hbel
        have hea := HEA.out i hlt
        have HBL := run.hid (fun w => blank_any (L.getD i z0).sty w)
        clear hc0 hd1 hd2 HR0 HRC HEA HR4 HR2 HO4 HO2 hbel HW HRD
        generalize M.getD i z0 = x at *
        generalize L.getD i z0 = y at *
        by_cases hxy : x = y
        · subst hxy
          have HXY := run.hid (show x = x from rfl)
          clear hea
          go_upto_region 13 with fail
          refine lx.region (fun D X => Below wr.heap.size wr X) (by kernel_rfl) (by kernel_rfl) (by kernel_rfl) (drewB (Below.refl _ _)) ?_
          refine lx.begin 73 rfl ?_
          refine lx.o_pure (.slice (some ⟨g2, 0, none⟩) N c2) (fun _ _ h => by first | rfl | kernel_rfl) ?_
          refine lx.o_pure (.int .i64 (i : Nat)) (fun _ _ h => by first | rfl | kernel_rfl) ?_
          refine lx.o_pure (.pointer (some ⟨g2, 0 + i * 5, none⟩)) (fun D X hC => lx.run_at rfl rfl rfl hlt Try.underlying35 hinf hsz) ?_
          refine lx.o_pure (x.val) (fun D X hC => run_load5 rfl rfl (H2.out _ hC)) ?_
          refine lx.o_pure (.slice (some ⟨g1, 0, none⟩) N c1) (fun _ _ h => by first | rfl | kernel_rfl) ?_
          refine lx.o_pure (.int .i64 (i : Nat)) (fun _ _ h => by first | rfl | kernel_rfl) ?_
          refine lx.o_pure (.pointer (some ⟨g1, 0 + i * 5, none⟩)) (fun D X hC => lx.run_at rfl rfl rfl hlt Try.underlying35 hinf hsz) ?_
          refine lx.o_pure (x.val) (fun D X hC => run_load5 rfl rfl (H1.out _ hC)) ?_
          refine lx.o_pure (.bool false) (fun D X hC => run_necell_f rfl rfl rfl rfl) ?_
          refine lx.o_pure (.bool false) (fun _ _ h => by first | rfl | kernel_rfl) ?_
          refine lx.o_pure (.slice (some ⟨g1, 0, none⟩) N c1) (fun _ _ h => by first | rfl | kernel_rfl) ?_
          refine lx.o_pure (.int .i64 (i : Nat)) (fun _ _ h => by first | rfl | kernel_rfl) ?_
          refine lx.o_pure (.pointer (some ⟨g1, 0 + i * 5, none⟩)) (fun D X hC => lx.run_at rfl rfl rfl hlt Try.underlying35 hinf hsz) ?_
          refine lx.o_pure (x.val) (fun D X hC => run_load5 rfl rfl (H1.out _ hC)) ?_
          refine lx.o_pure (.slice (some ⟨b0, o0, none⟩) N rc) (fun _ _ h => by first | rfl | kernel_rfl) ?_
          refine lx.o_pure (.int .i64 (i : Nat)) (fun _ _ h => by first | rfl | kernel_rfl) ?_
          refine lx.o_pure (.pointer (some ⟨b0, o0 + i * 5, none⟩)) (fun D X hC => lx.run_at rfl rfl rfl hlt Try.underlying35 hinf hsz) ?_
          refine lx.o_pure (x.val) (fun D X hC => run_load5 rfl rfl (H0.out _ hC)) ?_
          refine lx.o_pure (.bool false) (fun D X hC => run_necell_f rfl rfl rfl HXY.out) ?_
          refine lx.o_pure (.bool false) (fun _ _ h => by first | rfl | kernel_rfl) ?_
          refine lx.o_skip ?_
          refine lx.o_skip ?_
          refine lx.o_skip ?_
          refine lx.o_skip ?_
          refine lx.o_skip ?_
          refine lx.o_skip ?_
          refine lx.o_skip ?_
          refine lx.o_skip ?_
          refine lx.o_skip ?_
          refine lx.o_skip ?_
          refine lx.o_skip ?_
          refine lx.o_pure (.bool false) (fun _ _ h => by first | rfl | kernel_rfl) ?_
          refine lx.o_pure (.bool false) (fun _ _ h => by first | rfl | kernel_rfl) ?_
          refine lx.o_end ?_
          simp only [lx.ov]
          rintro X d hd hC
          have HF := run.hid (HB.out.trans (hC.mono HB.out.size))
          clear hC hd HBL H0 H1 H2 HXY HB
          go_simp
          go_wp2
          go_roundw
          case rel => exact ⟨i + 1, by omega, by go_num, HF.out⟩
          case measure => simp [intOf]; omega
        · have hxb : x = blankT y.sty := hea.resolve_left hxy
          rw [← hxb] at HBL
          have HXY := run.hid hxy
          clear hea hxy hxb
          go_upto_region 13 with fail
          refine lx.region (fun D X => Below wr.heap.size wr X) (by kernel_rfl) (by kernel_rfl) (by kernel_rfl) (drewB (Below.refl _ _)) ?_
          refine lx.begin 73 rfl ?_
          refine lx.o_pure (.slice (some ⟨g2, 0, none⟩) N c2) (fun _ _ h => by first | rfl | kernel_rfl) ?_
          refine lx.o_pure (.int .i64 (i : Nat)) (fun _ _ h => by first | rfl | kernel_rfl) ?_
          refine lx.o_pure (.pointer (some ⟨g2, 0 + i * 5, none⟩)) (fun D X hC => lx.run_at rfl rfl rfl hlt Try.underlying35 hinf hsz) ?_
          refine lx.o_pure (x.val) (fun D X hC => run_load5 rfl rfl (H2.out _ hC)) ?_
          refine lx.o_pure (.slice (some ⟨g1, 0, none⟩) N c1) (fun _ _ h => by first | rfl | kernel_rfl) ?_
          refine lx.o_pure (.int .i64 (i : Nat)) (fun _ _ h => by first | rfl | kernel_rfl) ?_
          refine lx.o_pure (.pointer (some ⟨g1, 0 + i * 5, none⟩)) (fun D X hC => lx.run_at rfl rfl rfl hlt Try.underlying35 hinf hsz) ?_
          refine lx.o_pure (x.val) (fun D X hC => run_load5 rfl rfl (H1.out _ hC)) ?_
          refine lx.o_pure (.bool false) (fun D X hC => run_necell_f rfl rfl rfl rfl) ?_
          refine lx.o_pure (.bool false) (fun _ _ h => by first | rfl | kernel_rfl) ?_
          refine lx.o_pure (.slice (some ⟨g1, 0, none⟩) N c1) (fun _ _ h => by first | rfl | kernel_rfl) ?_
          refine lx.o_pure (.int .i64 (i : Nat)) (fun _ _ h => by first | rfl | kernel_rfl) ?_
          refine lx.o_pure (.pointer (some ⟨g1, 0 + i * 5, none⟩)) (fun D X hC => lx.run_at rfl rfl rfl hlt Try.underlying35 hinf hsz) ?_
          refine lx.o_pure (x.val) (fun D X hC => run_load5 rfl rfl (H1.out _ hC)) ?_
          refine lx.o_pure (.slice (some ⟨b0, o0, none⟩) N rc) (fun _ _ h => by first | rfl | kernel_rfl) ?_
          refine lx.o_pure (.int .i64 (i : Nat)) (fun _ _ h => by first | rfl | kernel_rfl) ?_
          refine lx.o_pure (.pointer (some ⟨b0, o0 + i * 5, none⟩)) (fun D X hC => lx.run_at rfl rfl rfl hlt Try.underlying35 hinf hsz) ?_
          refine lx.o_pure (y.val) (fun D X hC => run_load5 rfl rfl (H0.out _ hC)) ?_
          refine lx.o_pure (.bool true) (fun D X hC => run_necell_t rfl rfl rfl HXY.out) ?_
          refine lx.o_pure (.bool true) (fun _ _ h => by first | rfl | kernel_rfl) ?_
          refine lx.o_pure (.slice (some ⟨g1, 0, none⟩) N c1) (fun _ _ h => by first | rfl | kernel_rfl) ?_
          refine lx.o_pure (.int .i64 (i : Nat)) (fun _ _ h => by first | rfl | kernel_rfl) ?_
          refine lx.o_pure (.pointer (some ⟨g1, 0 + i * 5, none⟩)) (fun D X hC => lx.run_at rfl rfl rfl hlt Try.underlying35 hinf hsz) ?_
          refine lx.o_pure (x.val) (fun D X hC => run_load5 rfl rfl (H1.out _ hC)) ?_
          refine lx.o_pure (.slice (some ⟨b0, o0, none⟩) N rc) (fun _ _ h => by first | rfl | kernel_rfl) ?_
          refine lx.o_pure (.int .i64 (i : Nat)) (fun _ _ h => by first | rfl | kernel_rfl) ?_
          refine lx.o_pure (.pointer (some ⟨b0, o0 + i * 5, none⟩)) (fun D X hC => lx.run_at rfl rfl rfl hlt Try.underlying35 hinf hsz) ?_
          refine lx.o_pure (.pointer (some ⟨b0, o0 + i * 5 + 2, none⟩)) (fun D X hC => by first | rfl | kernel_rfl) ?_
          refine lx.o_pure (y.sty.val) (fun D X hC => run_sty3 rfl rfl (H0.out _ hC)) ?_
          refine lx.o_call x.val 24 #[y.sty.val] (fun _ _ _ => lx.run_fn rfl rfl rfl (enters_of Try.func24 (by kernel_rfl) rfl)) (fun D X hC => (HBL.out X).mono fun e w2 ⟨he, hw⟩ => ⟨he, hC.trans (hw.mono hC.size)⟩) ?_
          refine lx.o_pure (.bool false) (fun D X hC => run_necell_f rfl rfl rfl rfl) ?_
          refine lx.o_pure (.bool false) (fun _ _ h => by first | rfl | kernel_rfl) ?_
          refine lx.o_pure (.bool false) (fun _ _ h => by first | rfl | kernel_rfl) ?_
          refine lx.o_end ?_
          simp only [lx.ov]
          rintro X d hd hC
          have HF := run.hid (HB.out.trans (hC.mono HB.out.size))
          clear hC hd HBL H0 H1 H2 HXY HB
          go_simp
          go_wp2
          go_roundw
          case rel => exact ⟨i + 1, by omega, by go_num, HF.out⟩
          case measure => simp [intOf]; omega
      · obtain rfl : i = N := by omega
        have hB5 := hB4.trans (hbel.mono hB4.size)
        clear HR0 HRC HEA HR4 HR2 HO4 HO2 HRD
        go_wp2_with fail
        refine (HW.out _).mono ?_
        rintro e w6 ⟨rfl, hb6⟩
        have hB6 := hB5.trans (hb6.mono hB5.size)
        go_wp2
        go_ret
        exact ⟨rfl, hB6⟩
end Go.Proofs.Ytinnggiohalifaa.cel
