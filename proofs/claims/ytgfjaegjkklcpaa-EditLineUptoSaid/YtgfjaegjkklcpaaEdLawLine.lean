/-
  The law EditLine: whatever is done, an editor holds a line. (Printed by gen_edlawline.py.)
-/
import Derived.Test.YtgfjaegjkklcpaaEdLinePlain
import Derived.Deep.CutBlock
namespace Go.Proofs.Ytgfjaegjkklcpaa.ed
open Go Go.RowKit Go.Proofs
set_option linter.unusedVariables false
set_option maxRecDepth 100000 in
set_option maxHeartbeats 16000000 in
theorem lawLine_any (t : ByteArray) (a1 : Option Addr) (cap1 : Nat) (SL1 : List SV) (x : Int) (w : World) (ht : t.size ≤ 1048576) (h1 : ScriptIn w a1 SL1) (hN1 : SL1.length ≤ 1048576) :
    Calls Try.prog 8 #[.string t, .slice a1 SL1.length cap1, .int .i64 x] w fun e w' => e = .returned (.bool true) ∧ Below w.heap.size w w' := by
  have HTY1 := run.hid (typed_any (cap := cap1) h1 hN1)
  have HS1 := run.hid (fun (X : World) (hX : Below w.heap.size w X) => h1.below hX)
  have HSX := run.hid (rfl : (0 : Nat) = 0)
  unfold ScriptIn at HS1
  have HNEW := run.hid (fun (X : World) => new_l t X (by omega))
  have HOK0 := run.hid (ok_new t)
  clear h1
  generalize hNN1 : SL1.length = N1 at *
  clear hNN1
  go_enter Try.func8, Try.ntmps8
  go_wp2_with fail
  refine HTY1.out.mono ?_
  rintro e w2 ⟨⟨t1, rfl⟩, hb1⟩
  have HB2 := run.hid hb1
  clear HTY1 hb1
  cases t1 with
  | true =>
    go_wp2
    go_ret
    exact ⟨rfl, HB2.out⟩
  | false =>
    have HN := run.hid (HNEW.out w2)
    clear HNEW
    go_wp2_with fail
    refine HN.out.mono ?_
    rintro e w3 ⟨b, rfl, hE3, hb3⟩
    have HB3 := run.hid (And.intro (HB2.out.trans (hb3.mono HB2.out.size)) hb3.size)
    have HE3 := run.hid hE3
    obtain ⟨B, hB⟩ : ∃ B, B = w2.heap.size := ⟨_, rfl⟩
    rw [← hB] at HE3 HB3
    have hwB : w.heap.size ≤ B := by rw [hB]; exact HB2.out.size
    clear HN HB2 hE3 hb3 hB
    go_wp2_with fail
    refine (alive_any w3).mono ?_
    rintro e w4 ⟨rfl, hb4⟩
    have HE4 := run.hid (And.intro (HE3.out.below hb4) (And.intro (HB3.out.1.trans (hb4.mono HB3.out.1.size)) (Nat.le_trans HB3.out.2 hb4.size)))
    clear HE3 HB3 hb4
    go_upto_block 0 with fail
    go_cut [8] (fun p wx => ∃ s, EdL B b s wx ∧ Hid (EdOk s) ∧ Below w.heap.size w wx ∧ B ≤ wx.heap.size)
    case first =>
      clear HSX
      go_wp2
      go_loopw [8] (fun vi wr => ∃ (i : Nat) (s : Sta), i ≤ N1 ∧ vi = .int .i64 i ∧ EdL B b s wr ∧ Hid (EdOk s) ∧ Below w.heap.size w wr ∧ B ≤ wr.heap.size) (fun vi _ => ((N1 : Int) - intOf vi).toNat)
      case atStart => exact ⟨0, _, Nat.zero_le _, rfl, HE4.out.1, HOK0, HE4.out.2.1, HE4.out.2.2⟩
      case round =>
        obtain ⟨i, s, hi, rfl, hE, HOK, hbel, hBw⟩ := hrel
        clear HE4 HOK0
        by_cases hlt : i < N1
        · obtain ⟨sb, so, rfl, hsb, ⟨c0, c1, c2, c3, c4⟩, hts⟩ := HS1.out wr hbel i hlt
          have HP := run.hid (play_l hE HOK.out hBw (SL1.getD i sv0) hts)
          have HQ := run.hid (fun (X : World) (hX : Below w.heap.size w X) => HS1.out X hX i hlt)
          have HB := run.hid hbel
          clear hE hbel HS1
          obtain ⟨q, hq⟩ : ∃ q, SL1.getD i sv0 = q := ⟨_, rfl⟩
          rw [hq] at c0 c1 c2 c3 c4 HP HQ
          clear hq hts
          obtain ⟨qd, qw, qn, qm, qt⟩ := q
          dsimp only at c0 c1 c2 c3 c4
          dsimp only [SV.cells] at HP
          have hokp := ok_play HOK.out ⟨qd, qw, qn, qm, qt⟩
          generalize playT s ⟨qd, qw, qn, qm, qt⟩ = ps at *
          obtain ⟨did, s2⟩ := ps
          dsimp only at HP hokp
          have HOK2 := run.hid hokp
          clear hokp
          go_wp2_with fail
          refine HP.out.mono ?_
          rintro e w5 ⟨rfl, hE5, hb5⟩
          have hb05 := HB.out.trans (hb5.mono hwB)
          obtain ⟨sb', so', hsa, hsb', ⟨d0, -⟩, -⟩ := HQ.out w5 hb05
          simp only [Option.some.injEq, Addr.mk.injEq, and_true] at hsa
          obtain ⟨rfl, rfl⟩ := hsa
          dsimp only at d0
          have hBw5 : B ≤ w5.heap.size := by have := hb5.size; omega
          have HU := run.hid (undo_l hE5 HOK2.out hBw5)
          have HR := run.hid (redo_l hE5 HOK2.out hBw5)
          have HE5 := run.hid (And.intro hE5 (And.intro hb05 hBw5))
          clear HP HB hE5 hb5 hb05 c0 c1 c2 c3 c4
          by_cases h3 : qd = 3
          · subst h3
            have hoku := ok_undo HOK2.out
            generalize undoT s2 = us at *
            obtain ⟨ud, s3⟩ := us
            dsimp only at HU hoku
            have HOK3 := run.hid hoku
            clear hoku HR
            go_wp2_with fail
            refine HU.out.mono ?_
            rintro e w6 ⟨rfl, hE6, hb6⟩
            have hb06 := HE5.out.2.1.trans (hb6.mono hwB)
            obtain ⟨sb', so', hsa, hsb', ⟨d0, -⟩, -⟩ := HQ.out w6 hb06
            simp only [Option.some.injEq, Addr.mk.injEq, and_true] at hsa
            obtain ⟨rfl, rfl⟩ := hsa
            dsimp only at d0
            have HF := run.hid (And.intro hE6 (And.intro hb06 (Nat.le_trans HE5.out.2.2 hb6.size)))
            clear HU HE5 hE6 hb6 hb06 HQ
            go_wp2
            go_roundw
            case rel => exact ⟨i + 1, s3, by omega, by go_num, HF.out.1, HOK3, HF.out.2.1, HF.out.2.2⟩
            case measure => simp [intOf]; omega
          · have hq3 : ((qd == 3) : Bool) = false := by simp [h3]
            clear HU HQ
            by_cases h4 : qd = 4
            · subst h4
              have hoku := ok_redo HOK2.out
              generalize redoT s2 = us at *
              obtain ⟨ud, s3⟩ := us
              dsimp only at HR hoku
              have HOK3 := run.hid hoku
              clear hoku
              go_wp2_with fail
              refine HR.out.mono ?_
              rintro e w6 ⟨rfl, hE6, hb6⟩
              have HF := run.hid (And.intro hE6 (And.intro (HE5.out.2.1.trans (hb6.mono hwB)) (Nat.le_trans HE5.out.2.2 hb6.size)))
              clear HR HE5 hE6 hb6
              go_wp2
              go_roundw
              case rel => exact ⟨i + 1, s3, by omega, by go_num, HF.out.1, HOK3, HF.out.2.1, HF.out.2.2⟩
              case measure => simp [intOf]; omega
            · have hq4 : ((qd == 4) : Bool) = false := by simp [h4]
              clear HR
              go_wp2
              go_roundw
              case rel => exact ⟨i + 1, s2, by omega, by go_num, HE5.out.1, HOK2, HE5.out.2.1, HE5.out.2.2⟩
              case measure => simp [intOf]; omega
        · have HF := run.hid (And.intro hE (And.intro hbel hBw))
          clear hE hbel HS1
          go_wp2
          go_meet
          exact ⟨s, HF.out.1, HOK, HF.out.2.1, HF.out.2.2⟩
    case rest =>
      obtain ⟨s, hE0, HOK, hbel0, hBw0⟩ := hcut
      have HE0 := run.hid (And.intro hE0 (And.intro hbel0 hBw0))
      have HTX := run.hid (text_l hE0 HOK.out)
      have hH := HOK.out.h
      have hTs : (textB s.F).size ≤ 65536 := hH.size
      have HFL := run.hid (fun (X : World) => Go.Proofs.Ytgfjaegjkklcpaa.wrp.flow_any (textB s.F) X (by omega))
      have HSP := run.hid (fun (X : World) => clu.split_use (textB s.F) X (by omega))
      rw [show Go.Proofs.Ytgfjaegjkklcpaa.wrp.flow (textB s.F) = s.F from hH.lin.flow (bs_textB _)] at HFL
      rw [show clu.told (textB s.F) = s.F from hH.lin.told (bs_textB _)] at HSP
      have HNW := run.hid (fun (X : World) => new_l (textB s.F) X (by omega))
      have hne : newE (textB s.F) = ⟨s.F, s.F.length, -1, [], 0⟩ := by unfold newE; rw [new_self hH]
      rw [hne] at HNW
      have HOKN := run.hid (show EdOk ⟨s.F, s.F.length, -1, [], 0⟩ from ok_zero ⟨hH.lin, hH.size, Nat.le_refl _⟩)
      have HLW := run.hid (fun i (hi : i < s.F.length) => hH.lin.wide (s.F.getD i tv0) (by rw [List.getD_eq_getElem?_getD, List.getElem?_eq_getElem hi]; exact List.getElem_mem _))
      clear hE0 hbel0 hBw0 HE4 HOK0 HS1 HSX hne
      generalize wc = wa at *
      go_wp2_with fail
      refine HTX.out.mono ?_
      rintro e w5 ⟨rfl, hb5⟩
      have HE5 := run.hid (And.intro (HE0.out.1.below hb5) (HE0.out.2.1.trans (hb5.mono HE0.out.2.1.size)))
      have HF5 := run.hid (HFL.out w5)
      clear HTX HE0 hb5 HFL
      go_wp2_with fail
      refine HF5.out.mono ?_
      rintro e w6 ⟨v1, rfl, hown1, hb6⟩
      obtain ⟨r1, k1, rfl⟩ := run.own_value hown1
      have HO1 := run.hid hown1
      have HE6 := run.hid (And.intro (HE5.out.1.below hb6) (HE5.out.2.trans (hb6.mono HE5.out.2.size)))
      have HS6 := run.hid (HSP.out w6)
      clear HF5 HE5 hb6 hown1 HSP
      go_wp2_with fail
      refine HS6.out.mono ?_
      rintro e w7 ⟨v2, rfl, hown2, -, hb7⟩
      obtain ⟨r2, k2, rfl⟩ := run.own_value hown2
      have HO2 := run.hid hown2
      have HO1b := run.hid (run.own_below HO1.out hb7)
      have HE7 := run.hid (And.intro (HE6.out.1.below hb7) (HE6.out.2.trans (hb7.mono HE6.out.2.size)))
      have HN7 := run.hid (HNW.out w7)
      clear HS6 HE6 hb7 hown2 HO1
      go_wp2_with fail
      refine HN7.out.mono ?_
      rintro e w8 ⟨b8, rfl, hE8, hb8⟩
      have HT8 := run.hid (text_l hE8 HOKN.out)
      have HB8 := run.hid hb8
      clear HN7 hE8 hb8
      go_wp2_with fail
      refine HT8.out.mono ?_
      rintro e w9 ⟨rfl, hb9⟩
      have HB9 := run.hid (HB8.out.trans (hb9.mono HB8.out.size))
      have HN9 := run.hid (HNW.out w9)
      clear HT8 HB8 hb9 HNW
      go_wp2_with fail
      refine HN9.out.mono ?_
      rintro e w10 ⟨b10, rfl, hE10, hb10⟩
      have HC10 := run.hid (caret_l hE10)
      have HB10 := run.hid (HB9.out.trans (hb10.mono HB9.out.size))
      clear HN9 HB9 hE10 hb10 HOKN
      generalize hNF : s.F.length = NF at *
      go_wp2_with fail
      refine HC10.out.mono ?_
      rintro e w11 ⟨rfl, hb11⟩
      have hb711 := HB10.out.trans (hb11.mono HB10.out.size)
      have HE11 := run.hid (And.intro (HE7.out.1.below hb711) (HE7.out.2.trans (hb711.mono HE7.out.2.size)))
      have HR1 := run.hid (run.own_below HO1b.out hb711)
      have HR2 := run.hid (run.own_below HO2.out hb711)
      have HNF := run.hid hNF
      have hNb : NF ≤ 65536 := by rw [← hNF]; exact hH.len
      clear HC10 hb11 HB10 hb711 HE7 HO1b HO2 hNF
      go_upto_block 2 with fail
      go_cut [12] (fun p wx => Below w11.heap.size w11 wx)
      case first =>
        clear HE11 HOK hH
        go_wp2
        go_loopw [12] (fun vi wr => ∃ i : Nat, i ≤ NF ∧ vi = .int .i64 i ∧ Below w11.heap.size w11 wr) (fun vi _ => ((NF : Int) - intOf vi).toNat)
        case atStart => exact ⟨0, Nat.zero_le _, rfl, Below.refl _ _⟩
        case round =>
          obtain ⟨i, hi, rfl, hbel⟩ := hrel
          by_cases hlt : i < NF
          · have hown1 := run.own_below HR1.out hbel
            have hown2 := run.own_below HR2.out hbel
            obtain ⟨g1, rfl⟩ : ∃ g1, r1 = some ⟨g1, 0, none⟩ := by
              rcases hown1.2 with ⟨e, h0⟩ | ⟨g3, c, cur, e, -⟩
              · omega
              · simp only [Value.slice.injEq] at e; exact ⟨g3, e.1⟩
            obtain ⟨g2, rfl⟩ : ∃ g2, r2 = some ⟨g2, 0, none⟩ := by
              rcases hown2.2 with ⟨e, h0⟩ | ⟨g3, c, cur, e, -⟩
              · omega
              · simp only [Value.slice.injEq] at e; exact ⟨g3, e.1⟩
            obtain ⟨x0, x1⟩ := own_cells hown1 (i := i) (by rw [HNF.out]; exact hlt)
            obtain ⟨y0, y1⟩ := own_cells hown2 (i := i) (by rw [HNF.out]; exact hlt)
            obtain ⟨lw1, -, lw3⟩ := HLW.out i hlt
            generalize s.F.getD i tv0 = q at *
            obtain ⟨qt, qw⟩ := q
            dsimp only at x0 x1 y0 y1 lw1 lw3
            have hnl : (qt.toList == [10]) = false := by rw [wrp.nl_eq]; exact decide_eq_false lw3
            have hw1 : decide ((qw : Int) < 1) = false := decide_eq_false (by omega)
            have HB := run.hid hbel
            clear hown1 hown2 HR1 HR2 hbel lw1 lw3
            go_upto_region 22 with fail
            go_quiet (fail)
            go_wp2
            go_roundw
            case rel => exact ⟨i + 1, by omega, by go_num, ⟨HB.out.os, HB.out.tape, HB.out.output, HB.out.size, HB.out.block⟩⟩
            case measure => simp [intOf]; omega
          · have HF := run.hid hbel
            clear hbel HR1 HR2
            go_wp2
            go_meet
            exact HF.out
      case rest =>
        have hE12 := HE11.out.1.below hcut
        have HB12 := run.hid (HE11.out.2.trans (hcut.mono HE11.out.2.size))
        have hmk := mk_le (an := s.an) hH.ca HOK.out.an.2
        have hmc := mk_ca s.an s.ca
        obtain ⟨n, hn0, hn1, hn2⟩ := view_fits hH.lin hH.ca x
        have hvs := view_size hH.size s.ca x
        have HMK := run.hid (marked_l hE12)
        have HVW := run.hid (fun (X : World) (hX : Below wc.heap.size wc X) => view_l (hE12.below hX) HOK.out x)
        have HCA := run.hid (fun (X : World) (hX : Below wc.heap.size wc X) => caret_l (hE12.below hX))
        rw [HNF.out] at hmk
        clear hcut hE12 HE11 HR1 HR2 HLW HOK hH
        generalize mkT s.an s.ca = MK at *
        generalize viewT s.F s.ca x = VT at *
        obtain ⟨ma, mb⟩ := MK
        obtain ⟨vt, vc⟩ := VT
        obtain ⟨ca, hca⟩ : ∃ ca, ca = s.ca := ⟨_, rfl⟩
        rw [← hca] at HCA hmc
        clear hca
        dsimp only at hmk hmc hn1 hn2 hvs HMK HVW
        have HWI := run.hid (fun (X : World) (hX : Below wc.heap.size wc X) => clu.width_any vt X (by omega))
        have hnI : clu.width vt ≤ n := hn1
        generalize clu.width vt = wv at *
        generalize wc = wd at *
        go_wp2_with fail
        refine HMK.out.mono ?_
        rintro e wV ⟨rfl, hbV⟩
        have HVV := run.hid (HVW.out wV hbV)
        have HB1 := run.hid hbV
        clear HMK HVW hbV
        go_wp2_with fail
        refine HVV.out.mono ?_
        rintro e wX ⟨rfl, hbX⟩
        have hbdX := HB1.out.trans (hbX.mono HB1.out.size)
        have HCX := run.hid (HCA.out wX hbdX)
        have HBX := run.hid hbdX
        have HBV := HB12
        clear HVV hbX HB1 hbdX HB12
        have hmI : (ma : Int) ≤ (mb : Int) := by omega
        have hmN : (mb : Int) ≤ (NF : Int) := by omega
        have hwI : (wv : Int) ≤ (n : Int) := by omega
        have HWX := HWI
        by_cases hc : ca = ma
        · subst hc
          have hcI : ((ca : Int) == (ca : Int)) = true := by simp
          go_wp2_with fail
          refine HCX.out.mono ?_
          rintro e wY ⟨rfl, hbY⟩
          have hbdY := HBX.out.trans (hbY.mono HBX.out.size)
          have HBY := run.hid hbdY
          have HWY := run.hid (HWI.out wY hbdY)
          clear HCX HCA HWI hbY HBX hbdY HWX
          go_wp2_with fail
          refine HWY.out.mono ?_
          rintro e wZ ⟨rfl, hbZ⟩
          have HF := run.hid (HBV.out.trans ((HBY.out.trans (hbZ.mono HBY.out.size)).mono HBV.out.size))
          clear hbZ HWY HBV HBY
          rcases hn2 with hn2 | ⟨rfl, rfl⟩
          · have hnI : (vc : Int) < (n : Int) := by omega
            go_wp2
            go_ret
            exact ⟨rfl, HF.out⟩
          · go_wp2
            go_ret
            exact ⟨rfl, HF.out⟩
        · have hcI : ((ca : Int) == (ma : Int)) = false := by simp only [beq_eq_false_iff_ne, ne_eq]; omega
          have hcb : ca = mb := hmc.resolve_left hc
          subst hcb
          go_wp2_with fail
          refine HCX.out.mono ?_
          rintro e wY0 ⟨rfl, hbY0⟩
          have hbdY0 := HBX.out.trans (hbY0.mono HBX.out.size)
          have HBY0 := run.hid hbdY0
          have HCY := run.hid (HCA.out wY0 hbdY0)
          clear HCX HCA hbY0 HBX hbdY0 HWX
          go_wp2_with fail
          refine HCY.out.mono ?_
          rintro e wY ⟨rfl, hbY⟩
          have hbdY := HBY0.out.trans (hbY.mono HBY0.out.size)
          have HBY := run.hid hbdY
          have HWY := run.hid (HWI.out wY hbdY)
          clear HCY HWI hbY HBY0 hbdY
          go_wp2_with fail
          refine HWY.out.mono ?_
          rintro e wZ ⟨rfl, hbZ⟩
          have HF := run.hid (HBV.out.trans ((HBY.out.trans (hbZ.mono HBY.out.size)).mono HBV.out.size))
          clear hbZ HWY HBV HBY
          rcases hn2 with hn2 | ⟨rfl, rfl⟩
          · have hnI : (vc : Int) < (n : Int) := by omega
            go_wp2
            go_ret
            exact ⟨rfl, HF.out⟩
          · go_wp2
            go_ret
            exact ⟨rfl, HF.out⟩
end Go.Proofs.Ytgfjaegjkklcpaa.ed
