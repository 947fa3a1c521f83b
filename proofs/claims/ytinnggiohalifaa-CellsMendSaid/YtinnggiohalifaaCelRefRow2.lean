/-
  The walks of the document's rows of cells: a row, a screen.
-/
import Derived.Test.YtinnggiohalifaaCelRefRow
namespace Go.Proofs.Ytinnggiohalifaa.cel
open Go Go.RowKit Go.Proofs
set_option linter.unusedVariables false

theorem unitT_at {L : List CV} {i : Nat} (h : i < L.length) : unitT (L.drop i) = if unit1 (L.getD i z0) = 2 ∧ ¬ (i + 1 < L.length ∧ L.getD (i + 1) z0 = restT (L.getD i z0).sty) then 0 else unit1 (L.getD i z0) := by
  have hd : L.drop i = L.getD i z0 :: L.drop (i + 1) := by
    rw [List.drop_eq_getElem_cons h]
    simp [List.getD_eq_getElem?_getD, h]
  rw [hd]
  have hU : ∀ (c : CV) (t : List CV), unitT (c :: t) = if unit1 c = 2 ∧ t.head? ≠ some (restT c.sty) then 0 else unit1 c := fun _ _ => rfl
  rw [hU]
  have hh : (L.drop (i + 1)).head? = some (restT (L.getD i z0).sty) ↔ i + 1 < L.length ∧ L.getD (i + 1) z0 = restT (L.getD i z0).sty := by
    rw [List.head?_drop]
    by_cases h2 : i + 1 < L.length
    · rw [List.getElem?_eq_getElem h2]
      simp [List.getD_eq_getElem?_getD, h2]
    · rw [List.getElem?_eq_none (by omega)]
      simp [h2]
  by_cases h3 : i + 1 < L.length ∧ L.getD (i + 1) z0 = restT (L.getD i z0).sty
  · rw [if_neg (fun k => k.2 (hh.2 h3)), if_neg (fun k => k.2 h3)]
  · by_cases h4 : unit1 (L.getD i z0) = 2
    · rw [if_pos ⟨h4, fun k => h3 (hh.1 k)⟩, if_pos ⟨h4, h3⟩]
    · rw [if_neg (fun k => h4 k.1), if_neg (fun k => h4 k.1)]

set_option maxRecDepth 100000 in
set_option maxHeartbeats 4000000 in
theorem refrow_any (a : Option Addr) (cap : Nat) (L : List CV) (w : World) (hR : Reads5 w (.slice a L.length cap) L) (hN : L.length ≤ 140737488355328) (hL : ∀ c ∈ L, Fit c ∧ c.sty.wf) :
    Calls Try.prog 51 #[.slice a L.length cap] w fun e w' => e = .returned (.bool (wholeT L)) ∧ Below w.heap.size w w' := by
  obtain ⟨it, hinf, -, hsz, -⟩ := info_parts info_cell
  have HA := run.hid (fun i (hi : i < L.length) => reads_cell hR hi)
  have HP := run.hid (fun i (hi : i < L.length) w => refpair_any (L.getD i z0) (L.getD (i + 1) z0) (hL _ (by rw [List.getD_eq_getElem?_getD, List.getElem?_eq_getElem hi]; exact List.getElem_mem _)).1 (hL _ (by rw [List.getD_eq_getElem?_getD, List.getElem?_eq_getElem hi]; exact List.getElem_mem _)).2 w)
  have HS := run.hid (fun i (hi : i < L.length) w => refsingle_any (L.getD i z0) (hL _ (by rw [List.getD_eq_getElem?_getD, List.getElem?_eq_getElem hi]; exact List.getElem_mem _)).1 (hL _ (by rw [List.getD_eq_getElem?_getD, List.getElem?_eq_getElem hi]; exact List.getElem_mem _)).2 w)
  have HU := run.hid (fun i (hi : i < L.length) => And.intro (@unitT_at L i hi) (@wholeT_step L i hi))
  have HE := run.hid (wholeT_end L)
  have H0 := run.hid (show wholeT L = wholeT (L.drop 0) from rfl)
  clear hR hL
  generalize L.length = N at *
  obtain ⟨r, hr⟩ : ∃ r, r = wholeT L := ⟨_, rfl⟩
  rw [← hr] at H0 ⊢
  clear hr
  go_enter Try.func51, Try.ntmps51
  go_wp2
  go_loopw [3] (fun vi wr => ∃ i : Nat, i ≤ N ∧ vi = .int .i64 i ∧ Hid (r = wholeT (L.drop i)) ∧ Below w.heap.size w wr) (fun vi _ => ((N : Int) - intOf vi).toNat)
  case atStart => exact ⟨0, Nat.zero_le _, rfl, H0, Below.refl _ _⟩
  case round =>
    obtain ⟨i, hi, rfl, HI, hbel⟩ := hrel
    by_cases hlt : i < N
    · obtain ⟨b1, o1, rfl, hb1, hc1⟩ := HA.out i hlt
      have HC1 := run.hid (fun (X : World) (h : Below w.heap.size w X) => hc1.below h hb1)
      have HPi := run.hid (HP.out i hlt)
      have HSi := run.hid (HS.out i hlt)
      obtain ⟨hu, hst⟩ := HU.out i hlt
      have HUi := run.hid hu
      have HST := run.hid (HI.out.trans hst)
      have HBL := run.hid hbel
      clear hbel hu hst hc1
      by_cases hlt2 : i + 1 < N
      · obtain ⟨b2, o2, e2, hb2, hc2⟩ := HA.out (i + 1) hlt2
        simp only [Option.some.injEq, Addr.mk.injEq, and_true] at e2
        obtain ⟨rfl, rfl⟩ := e2
        have HC2 := run.hid (fun (X : World) (h : Below w.heap.size w X) => hc2.below h hb2)
        clear HA HP HS HU H0 hc2 hb2
        generalize L.getD i z0 = x at *
        generalize L.getD (i + 1) z0 = y at *
        by_cases hpr : unit1 x = 2 ∧ y = restT x.sty
        · have hu2 : unitT (L.drop i) = 2 := by rw [HUi.out, if_neg (fun k => k.2 ⟨hlt2, hpr.2⟩)]; exact hpr.1
          have HK : Hid (r = wholeT (L.drop (i + 2))) := by show r = _; rw [HST.out, hu2]; rfl
          rw [decide_eq_true hpr] at HPi
          clear hu2 hpr HST HUi HI HSi
          go_upto_region 3 with fail
          refine lx.region (fun D X => Below wr.heap.size wr X) (by kernel_rfl) (by kernel_rfl) (by kernel_rfl) (drewB (Below.refl _ _)) ?_
          refine lx.begin 34 rfl ?_
          refine lx.o_pure (.int .i64 (i : Nat)) (fun _ _ h => by first | rfl | kernel_rfl) ?_
          refine lx.o_pure (.int .i64 ((i + 1 : Nat) : Int)) (fun _ _ _ => lx.run_add rfl rfl rfl (by omega) (by push_cast; rfl)) ?_
          refine lx.o_pure (.slice (some ⟨b1, o1, none⟩) N cap) (fun _ _ h => by first | rfl | kernel_rfl) ?_
          refine lx.o_pure (.int .i64 (N : Nat)) (fun _ _ h => by first | rfl | kernel_rfl) ?_
          refine lx.o_pure (.bool true) (fun _ _ _ => run_lss rfl rfl rfl (decide_eq_true (by omega))) ?_
          refine lx.o_pure (.bool true) (fun _ _ h => by first | rfl | kernel_rfl) ?_
          refine lx.o_pure (.slice (some ⟨b1, o1, none⟩) N cap) (fun _ _ h => by first | rfl | kernel_rfl) ?_
          refine lx.o_pure (.int .i64 (i : Nat)) (fun _ _ h => by first | rfl | kernel_rfl) ?_
          refine lx.o_pure (.pointer (some ⟨b1, o1 + i * 5, none⟩)) (fun D X hC => lx.run_at rfl rfl rfl hlt Try.underlying35 hinf hsz) ?_
          refine lx.o_pure x.val (fun D X hC => run_load5 rfl rfl (HC1.out _ (HBL.out.trans (hC.mono HBL.out.size)))) ?_
          refine lx.o_pure (.slice (some ⟨b1, o1, none⟩) N cap) (fun _ _ h => by first | rfl | kernel_rfl) ?_
          refine lx.o_pure (.int .i64 (i : Nat)) (fun _ _ h => by first | rfl | kernel_rfl) ?_
          refine lx.o_pure (.int .i64 ((i + 1 : Nat) : Int)) (fun _ _ _ => lx.run_add rfl rfl rfl (by omega) (by push_cast; rfl)) ?_
          refine lx.o_pure (.pointer (some ⟨b1, o1 + (i + 1) * 5, none⟩)) (fun D X hC => lx.run_at rfl rfl rfl hlt2 Try.underlying35 hinf hsz) ?_
          refine lx.o_pure y.val (fun D X hC => run_load5 rfl rfl (HC2.out _ (HBL.out.trans (hC.mono HBL.out.size)))) ?_
          refine lx.o_call (.bool true) 45 #[x.val, y.val] (fun _ _ _ => lx.run_fn rfl rfl rfl (enters_of Try.func45 (by kernel_rfl) rfl)) (fun D X hC => (HPi.out X).mono fun e w2 ⟨he, hw⟩ => ⟨he, hC.trans (hw.mono hC.size)⟩) ?_
          refine lx.o_pure (.bool true) (fun _ _ h => by first | rfl | kernel_rfl) ?_
          refine lx.o_end ?_
          simp only [lx.ov]
          rintro X d hd hC
          have HF := run.hid (HBL.out.trans (hC.mono HBL.out.size))
          clear hC hd HBL HC1 HC2 HPi
          go_simp
          go_wp2
          go_roundw
          case rel => exact ⟨i + 2, by omega, by go_num, HK, HF.out⟩
          case measure => simp [intOf]; omega
        · rw [decide_eq_false hpr] at HPi
          have HUj : Hid (unitT (L.drop i) = if unit1 x = 1 then 1 else 0) := by
            show _ = _
            rw [HUi.out]
            have := unit1_le x
            by_cases h2 : unit1 x = 2
            · rw [if_pos ⟨h2, fun k => hpr ⟨h2, k.2⟩⟩, if_neg (by omega)]
            · rw [if_neg (fun k => h2 k.1)]; split <;> omega
          clear hpr HUi HI
          go_upto_region 3 with fail
          go_cut [24] (fun c X => c = .bool false ∧ Below wr.heap.size wr X)
          case first =>
            refine lx.region (fun D X => Below wr.heap.size wr X) (by kernel_rfl) (by kernel_rfl) (by kernel_rfl) (drewB (Below.refl _ _)) ?_
            refine lx.begin 34 rfl ?_
            refine lx.o_pure (.int .i64 (i : Nat)) (fun _ _ h => by first | rfl | kernel_rfl) ?_
            refine lx.o_pure (.int .i64 ((i + 1 : Nat) : Int)) (fun _ _ _ => lx.run_add rfl rfl rfl (by omega) (by push_cast; rfl)) ?_
            refine lx.o_pure (.slice (some ⟨b1, o1, none⟩) N cap) (fun _ _ h => by first | rfl | kernel_rfl) ?_
            refine lx.o_pure (.int .i64 (N : Nat)) (fun _ _ h => by first | rfl | kernel_rfl) ?_
            refine lx.o_pure (.bool true) (fun _ _ _ => run_lss rfl rfl rfl (decide_eq_true (by omega))) ?_
            refine lx.o_pure (.bool true) (fun _ _ h => by first | rfl | kernel_rfl) ?_
            refine lx.o_pure (.slice (some ⟨b1, o1, none⟩) N cap) (fun _ _ h => by first | rfl | kernel_rfl) ?_
            refine lx.o_pure (.int .i64 (i : Nat)) (fun _ _ h => by first | rfl | kernel_rfl) ?_
            refine lx.o_pure (.pointer (some ⟨b1, o1 + i * 5, none⟩)) (fun D X hC => lx.run_at rfl rfl rfl hlt Try.underlying35 hinf hsz) ?_
            refine lx.o_pure x.val (fun D X hC => run_load5 rfl rfl (HC1.out _ (HBL.out.trans (hC.mono HBL.out.size)))) ?_
            refine lx.o_pure (.slice (some ⟨b1, o1, none⟩) N cap) (fun _ _ h => by first | rfl | kernel_rfl) ?_
            refine lx.o_pure (.int .i64 (i : Nat)) (fun _ _ h => by first | rfl | kernel_rfl) ?_
            refine lx.o_pure (.int .i64 ((i + 1 : Nat) : Int)) (fun _ _ _ => lx.run_add rfl rfl rfl (by omega) (by push_cast; rfl)) ?_
            refine lx.o_pure (.pointer (some ⟨b1, o1 + (i + 1) * 5, none⟩)) (fun D X hC => lx.run_at rfl rfl rfl hlt2 Try.underlying35 hinf hsz) ?_
            refine lx.o_pure y.val (fun D X hC => run_load5 rfl rfl (HC2.out _ (HBL.out.trans (hC.mono HBL.out.size)))) ?_
            refine lx.o_call (.bool false) 45 #[x.val, y.val] (fun _ _ _ => lx.run_fn rfl rfl rfl (enters_of Try.func45 (by kernel_rfl) rfl)) (fun D X hC => (HPi.out X).mono fun e w2 ⟨he, hw⟩ => ⟨he, hC.trans (hw.mono hC.size)⟩) ?_
            refine lx.o_pure (.bool false) (fun _ _ h => by first | rfl | kernel_rfl) ?_
            refine lx.o_end ?_
            simp only [lx.ov]
            rintro X d hd hC
            have HF := run.hid hC
            clear hC hd HC1 HC2 HPi
            go_simp
            go_wp2
            go_meet
            case rel => exact ⟨rfl, HF.out⟩
          obtain ⟨rfl, hX⟩ := hcut
          have HB3 := run.hid (HBL.out.trans (hX.mono HBL.out.size))
          obtain ⟨d0, d1, d2, d3, d4⟩ := HC1.out _ HB3.out
          clear HBL hX HC1 HC2 HPi
          by_cases h1 : unit1 x = 1
          · rw [decide_eq_true h1] at HSi
            have HK : Hid (r = wholeT (L.drop (i + 1))) := by show r = _; rw [HST.out, HUj.out, if_pos h1]; rfl
            clear h1 HST HUj
            obtain ⟨xt, xw, ⟨xf, xb, xa⟩⟩ := x
            change Hid (∀ w, Calls _ _ #[.agg #[.string xt, .int .i8 xw, .int .i32 xf, .int .i32 xb, .int .u8 xa]] _ _) at HSi
            go_wp2_with fail
            refine (HSi.out _).mono ?_
            rintro e w4 ⟨rfl, hb4⟩
            have HF := run.hid (HB3.out.trans (hb4.mono HB3.out.size))
            clear hb4 HSi d0 d1 d2 d3 d4 HB3
            go_wp2
            go_roundw
            case rel => exact ⟨i + 1, by omega, by go_num, HK, HF.out⟩
            case measure => simp [intOf]; omega
          · rw [decide_eq_false h1] at HSi
            have HK : Hid (r = false) := by show r = _; rw [HST.out, HUj.out, if_neg h1]; rfl
            clear h1 HST HUj
            obtain ⟨xt, xw, ⟨xf, xb, xa⟩⟩ := x
            change Hid (∀ w, Calls _ _ #[.agg #[.string xt, .int .i8 xw, .int .i32 xf, .int .i32 xb, .int .u8 xa]] _ _) at HSi
            go_wp2_with fail
            refine (HSi.out _).mono ?_
            rintro e w4 ⟨rfl, hb4⟩
            have HF := run.hid (HB3.out.trans (hb4.mono HB3.out.size))
            clear hb4 HSi d0 d1 d2 d3 d4 HB3
            go_wp2
            go_ret
            exact ⟨by rw [HK.out]; try rfl, HF.out⟩
      · clear HA HP HS HU H0
        generalize L.getD i z0 = x at *
        have HUj : Hid (unitT (L.drop i) = if unit1 x = 1 then 1 else 0) := by
          show _ = _
          rw [HUi.out]
          have := unit1_le x
          by_cases h2 : unit1 x = 2
          · rw [if_pos ⟨h2, fun k => hlt2 k.1⟩, if_neg (by omega)]
          · rw [if_neg (fun k => h2 k.1)]; split <;> omega
        clear HUi HI
        go_upto_region 3 with fail
        go_cut [24] (fun c X => c = .bool false ∧ Below wr.heap.size wr X)
        case first =>
          refine lx.region (fun D X => Below wr.heap.size wr X) (by kernel_rfl) (by kernel_rfl) (by kernel_rfl) (drewB (Below.refl _ _)) ?_
          refine lx.begin 34 rfl ?_
          refine lx.o_pure (.int .i64 (i : Nat)) (fun _ _ h => by first | rfl | kernel_rfl) ?_
          refine lx.o_pure (.int .i64 ((i + 1 : Nat) : Int)) (fun _ _ _ => lx.run_add rfl rfl rfl (by omega) (by push_cast; rfl)) ?_
          refine lx.o_pure (.slice (some ⟨b1, o1, none⟩) N cap) (fun _ _ h => by first | rfl | kernel_rfl) ?_
          refine lx.o_pure (.int .i64 (N : Nat)) (fun _ _ h => by first | rfl | kernel_rfl) ?_
          refine lx.o_pure (.bool false) (fun _ _ _ => run_lss rfl rfl rfl (decide_eq_false (by omega))) ?_
          refine lx.o_pure (.bool false) (fun _ _ h => by first | rfl | kernel_rfl) ?_
          refine lx.o_skip ?_
          refine lx.o_skip ?_
          refine lx.o_skip ?_
          refine lx.o_skip ?_
          refine lx.o_skip ?_
          refine lx.o_skip ?_
          refine lx.o_skip ?_
          refine lx.o_skip ?_
          refine lx.o_skip ?_
          refine lx.o_skip ?_
          refine lx.o_pure (.bool false) (fun _ _ h => by first | rfl | kernel_rfl) ?_
          refine lx.o_end ?_
          simp only [lx.ov]
          rintro X d hd hC
          have HF := run.hid hC
          clear hC hd HC1 HPi
          go_simp
          go_wp2
          go_meet
          case rel => exact ⟨rfl, HF.out⟩
        obtain ⟨rfl, hX⟩ := hcut
        have HB3 := run.hid (HBL.out.trans (hX.mono HBL.out.size))
        obtain ⟨d0, d1, d2, d3, d4⟩ := HC1.out _ HB3.out
        clear HBL hX HC1 HPi
        by_cases h1 : unit1 x = 1
        · rw [decide_eq_true h1] at HSi
          have HK : Hid (r = wholeT (L.drop (i + 1))) := by show r = _; rw [HST.out, HUj.out, if_pos h1]; rfl
          clear h1 HST HUj
          obtain ⟨xt, xw, ⟨xf, xb, xa⟩⟩ := x
          change Hid (∀ w, Calls _ _ #[.agg #[.string xt, .int .i8 xw, .int .i32 xf, .int .i32 xb, .int .u8 xa]] _ _) at HSi
          go_wp2_with fail
          refine (HSi.out _).mono ?_
          rintro e w4 ⟨rfl, hb4⟩
          have HF := run.hid (HB3.out.trans (hb4.mono HB3.out.size))
          clear hb4 HSi d0 d1 d2 d3 d4 HB3
          go_wp2
          go_roundw
          case rel => exact ⟨i + 1, by omega, by go_num, HK, HF.out⟩
          case measure => simp [intOf]; omega
        · rw [decide_eq_false h1] at HSi
          have HK : Hid (r = false) := by show r = _; rw [HST.out, HUj.out, if_neg h1]; rfl
          clear h1 HST HUj
          obtain ⟨xt, xw, ⟨xf, xb, xa⟩⟩ := x
          change Hid (∀ w, Calls _ _ #[.agg #[.string xt, .int .i8 xw, .int .i32 xf, .int .i32 xb, .int .u8 xa]] _ _) at HSi
          go_wp2_with fail
          refine (HSi.out _).mono ?_
          rintro e w4 ⟨rfl, hb4⟩
          have HF := run.hid (HB3.out.trans (hb4.mono HB3.out.size))
          clear hb4 HSi d0 d1 d2 d3 d4 HB3
          go_wp2
          go_ret
          exact ⟨by rw [HK.out]; try rfl, HF.out⟩
    · obtain rfl : i = N := by omega
      have HK : Hid (r = true) := by show r = _; rw [HI.out, HE.out]
      clear HA HP HS HU H0 HI
      go_wp2
      go_ret
      exact ⟨by rw [HK.out]; try rfl, hbel⟩
end Go.Proofs.Ytinnggiohalifaa.cel
