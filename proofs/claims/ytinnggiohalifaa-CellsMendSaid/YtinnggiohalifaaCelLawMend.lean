/-
  The walk of the law CellsMend.
-/
import Derived.Test.YtinnggiohalifaaCelRefMend
import Derived.Test.YtinnggiohalifaaCelSpoil
import Derived.Test.YtinnggiohalifaaCelLawRight
namespace Go.Proofs.Ytinnggiohalifaa.cel
open Go Go.RowKit Go.Proofs
set_option linter.unusedVariables false

theorem spoil_two (N : Nat) (M : List CV) (hM : M.length = N) (hN : N ≤ 4294967296) (B Lb : Nat) (v1 v2 : Value) (w : World) (h1 : w.ownsRow B 44 5 v1 N (cells5 M)) (h2 : w.ownsRow B 44 5 v2 N (cells5 M))
    (hne : ∀ k, v1.ownBlock = some k → v2.ownBlock ≠ some k) (c1 : w.cell? ⟨Lb, 0, none⟩ = some v1) (c2 : w.cell? ⟨Lb, 1, none⟩ = some v2) (b1 : ∀ k, v1.ownBlock = some k → k ≠ Lb) (b2 : ∀ k, v2.ownBlock = some k → k ≠ Lb) (hB : B ≤ w.heap.size) :
    Calls Try.prog 23 #[.slice (some ⟨Lb, 0, none⟩) 2 2] w fun e w' => e = .returned (.bool true) ∧ Below B w w' := by
  refine spoil_any B 2 (fun j => if j = 0 then v1 else v2) (fun _ => N) (fun _ => cells5 M) Lb 0 2 w ?_ ?_ (by omega) (fun _ _ => hN) ?_ ?_ (run.lt_of_cell c1) hB
  · intro j hj
    by_cases e : j = 0
    · simp only [e, if_true]; exact h1
    · simp only [e, if_false]; exact h2
  · intro i j hi hj hne' k hk
    by_cases e : i = 0
    · subst e
      have e2 : j ≠ 0 := by omega
      simp only [if_true] at hk
      simp only [e2, if_false]
      exact hne k hk
    · have e2 : j = 0 := by omega
      subst e2
      simp only [e, if_false] at hk
      simp only [if_true]
      exact fun h => hne k h hk
  · intro j hj
    by_cases e : j = 0
    · subst e; exact c1
    · obtain rfl : j = 1 := by omega
      exact c2
  · intro j hj k hk
    by_cases e : j = 0
    · subst e; exact b1 k hk
    · simp only [e, if_false] at hk; exact b2 k hk

set_option maxRecDepth 100000 in
set_option maxHeartbeats 8000000 in
theorem lawMend_any (ra : Option Addr) (rc : Nat) (L : List CV) (s : SV) (w : World) (hR : Reads5 w (.slice ra L.length rc) L) (h0 : ra = none → rc = 0) (hcap : L.length ≤ rc) (hby : rc * 32 ≤ 140737488351232) (hL : ∀ c ∈ L, c.fine) (hs : s.wf) :
    Calls Try.prog 5 #[.slice ra L.length rc, s.val] w fun e w' => e = .returned (.bool true) ∧ Below w.heap.size w w' := by
  have HLONG := run.hid (fun X (h : Below w.heap.size w X) => long_any ra rc L 0 X (hR.below h) (by omega) (fun c hc => (hL c hc).1) (by omega))
  have HFIT := run.hid (fun h => fit_of hL h)
  have HLENT := run.hid (fun X (h : Below w.heap.size w X) => lent_any ra rc L X (hR.below h) h0 (by omega))
  have HRM := run.hid (fun X (h : Below w.heap.size w X) hf hb => refmend_any ra rc L X (hR.below h) hb hf)
  have HST := run.hid (fun X (h : Below w.heap.size w X) g cap (hf : Reads5 X (.slice (some ⟨g, 0, none⟩) (L.length + 2) cap) (lentT L)) => show Calls _ _ #[.slice (some ⟨g, 0, none⟩) (L.length + 2) cap, _] X fun e w' => e = .returned (.bool true) ∧ _ from by
    rw [← lent_len L] at hf ⊢
    have h := stays_any (some ⟨g, 0, none⟩) ra cap rc (lentT L) L X hf (hR.below h) h0 (by omega) (by rw [lent_len]; omega)
    rw [decide_eq_true (rfl : lentT L = lentT L)] at h
    exact h)
  have hml := mend_len _ L (Nat.le_refl _)
  have HME := run.hid (fun X g cap hf (h : Reads5 X (.slice (some ⟨g, 0, none⟩) (L.length + 2) cap) (lentT L)) (hc : L.length ≤ cap) => mend_any (some ⟨g, 0, none⟩) cap L X (reads5_lent h) (fun h => by cases h) hc (by omega) hf)
  have HSA := run.hid (fun X a1 c1 a2 c2 (hA : Reads5 X (.slice a1 L.length c1) (mendT L)) (hB : Reads5 X (.slice a2 L.length c2) (mendT L)) => show Calls _ _ #[.slice a1 L.length c1, .slice a2 L.length c2] X fun e w' => e = .returned (.bool true) ∧ _ from by
    rw [← hml] at hA hB ⊢
    have h := same_any a1 a2 c1 c2 (mendT L) (mendT L) X hA hB (by omega)
    rw [decide_eq_true (rfl : mendT L = mendT L)] at h
    exact h)
  have HSP := run.hid (fun (hb : L.length ≤ 4294967296) => spoil_two L.length (mendT L) hml hb)
  have HRDM := run.hid (fun X base v (h : World.ownsRow X base 44 5 v L.length (cells5 (mendT L))) => show Reads5 X v (mendT L) from reads5_own (by rw [hml]; exact h))
  have HRDL := run.hid (fun X base v (h : World.ownsRow X base 44 5 v (L.length + 2) (cells5 (lentT L))) => show Reads5 X v (lentT L) from reads5_own (by rw [lent_len]; exact h))
  have HW := run.hid (fun w => wakes_any w)
  have HBL := run.hid (fun w => blank_any s w)
  have HRB := run.hid (fun w => refblank_any s hs w)
  clear hR hL hs hml
  generalize blankT s = bs at *
  obtain ⟨fg, bg, att⟩ := s
  have hb0 := run.below_one w (.cells #[.int .i32 fg, .int .i32 bg, .int .u8 att] 24)
  have k0 := heap_alloc_new w (.cells #[.int .i32 fg, .int .i32 bg, .int .u8 att] 24)
  show Calls _ _ #[_, .agg #[.int .i32 fg, .int .i32 bg, .int .u8 att]] _ _
  have KK := run.hid (And.intro hb0 k0)
  clear hb0 k0
  cases hlo : (longT L 0).2 with
  | true =>
    have HLO := run.hid (HLONG.out _ KK.out.1)
    rw [hlo] at HLO
    clear HLONG HFIT HLENT HRM HST HME HSA HSP HRDM HRDL HW HBL HRB hlo h0
    generalize (longT L 0).1 = lm at *
    generalize L.length = N at *
    go_enter Try.func5, Try.ntmps5
    go_wp2_with fail
    refine HLO.out.mono ?_
    rintro e w1 ⟨rfl, hb1⟩
    have hB := KK.out.1.trans (hb1.mono KK.out.1.size)
    clear hb1 KK HLO
    go_wp2
    go_ret
    exact ⟨rfl, hB⟩
  | false =>
    have HLO := run.hid (HLONG.out _ KK.out.1)
    rw [hlo] at HLO
    obtain ⟨hfit, hbig⟩ := HFIT.out hlo
    have hf1 : ∀ c ∈ L, Fit c := fun c hc => (hfit c hc).1
    replace HRM := run.hid (fun X h => HRM.out X h hfit hbig)
    replace HME := run.hid (fun X g cap h hc => HME.out X g cap hf1 h hc)
    replace HSP := run.hid (HSP.out (by omega))
    clear hlo hfit hf1 HLONG HFIT h0
    generalize (longT L 0).1 = lm at *
    generalize mendT L = M at *
    generalize lentT L = LL at *
    generalize L.length = N at *
    clear L
    go_enter Try.func5, Try.ntmps5
    go_wp2_with fail
    refine HLO.out.mono ?_
    rintro e w1 ⟨rfl, hb1⟩
    have hB1 := KK.out.1.trans (hb1.mono KK.out.1.size)
    have KP1 := run.hid ((hb1.block w.heap.size (by simp)).trans KK.out.2)
    clear hb1 KK HLO
    go_wp2_with fail
    refine (HRM.out w1 hB1).mono ?_
    rintro e w2 ⟨v7, rfl, ho7, hb2⟩
    have hs1 := hB1.size
    have hB2 := hB1.trans (hb2.mono hs1)
    obtain ⟨a7, c7, rfl⟩ := run.own_value ho7
    have KP2 := run.hid ((hb2.block w.heap.size (by have := (Array.getElem?_eq_some_iff.1 KP1.out).1; omega)).trans KP1.out)
    have R7 := run.hid (HRDM.out w2 _ _ ho7)
    clear ho7 hb2 KP1 HRM
    go_wp2_with fail
    refine (HLENT.out w2 hB2).mono ?_
    rintro e w3 ⟨v8, rfl, ho8, hb3⟩
    have hs2 := hB2.size
    have hB3 := hB2.trans (hb3.mono hs2)
    obtain ⟨g, cap, cur, rfl, hgb, -, hgc, -⟩ : ∃ g cap cur, v8 = .slice (some ⟨g, 0, none⟩) (N + 2) cap ∧ w2.heap.size ≤ g ∧ w3.heap[g]? = some (.cells cur 44 (0, 0)) ∧ N + 2 ≤ cap ∧ cap ≤ maxLen := by
      rcases ho8.2 with ⟨-, h⟩ | ⟨g, cap, cur, h1, h2, h3, h4, h5, -⟩
      · omega
      · exact ⟨g, cap, cur, h1, h2, h3, h4, h5⟩
    have KP3 := run.hid ((hb3.block w.heap.size (by have := (Array.getElem?_eq_some_iff.1 KP2.out).1; omega)).trans KP2.out)
    have R73 := run.hid (R7.out.below hb3)
    have R8 := run.hid (HRDL.out w3 _ _ ho8)
    clear ho8 hb3 KP2 HLENT R7
    have HM1 := run.hid (HME.out w3 g cap R8.out (by omega))
    go_wp2_with fail
    refine HM1.out.mono ?_
    rintro e w4 ⟨v9, rfl, ho9, hb4⟩
    have hs3 := hB3.size
    have hB34 := run.hid hb4
    have hB4 := hB3.trans (hb4.mono hs3)
    obtain ⟨a9, c9, rfl⟩ := run.own_value ho9
    have R84 := run.hid (R8.out.below hb4)
    have O9 := run.hid ho9
    have HM2 := run.hid (HME.out w4 g cap R84.out (by omega))
    clear ho9 hb4 HM1
    go_wp2_with fail
    refine HM2.out.mono ?_
    rintro e w5 ⟨v10, rfl, ho10, hb5⟩
    have hs34 := hB34.out.size
    have hs4 := hB4.size
    have HB35 := run.hid (hB34.out.trans (hb5.mono hs34))
    have hB5 := hB4.trans (hb5.mono hs4)
    obtain ⟨a10, c10, rfl⟩ := run.own_value ho10
    have O95 := run.hid (run.own_below O9.out hb5)
    have O10 := run.hid ho10
    have HAP := run.hid (show ∀ k, (Value.slice a9 N c9).ownBlock = some k → (Value.slice a10 N c10).ownBlock ≠ some k from fun k hk hk' => by
      have h1 := (O9.out.lt k hk).2
      have h2 := (ho10.lt k hk').1
      omega)
    have R75 := run.hid (R73.out.below HB35.out)
    have R95 := run.hid (HRDM.out w5 _ _ O95.out)
    have R105 := run.hid (HRDM.out w5 _ _ ho10)
    clear ho10 hb5 hB34 R84 O9 HM2
    have HS1 := run.hid (HSA.out w5 a9 c9 a7 c7 R95.out R75.out)
    go_wp2_with fail
    refine HS1.out.mono ?_
    rintro e w6 ⟨rfl, hb6⟩
    have hs5 := hB5.size
    have hs35 := HB35.out.size
    have HS2 := run.hid (HSA.out w6 a10 c10 a7 c7 (R105.out.below hb6) (R75.out.below hb6))
    have HB56 := run.hid hb6
    clear hb6 HS1
    go_wp2_with fail
    refine HS2.out.mono ?_
    rintro e w7 ⟨rfl, hb7⟩
    have hs56 := HB56.out.size
    have HB57 := run.hid (HB56.out.trans (hb7.mono hs56))
    have HB37 := run.hid (HB35.out.trans (HB57.out.mono hs35))
    have HB7 := run.hid (hB5.trans (HB57.out.mono hs5))
    have HT1 := run.hid (HST.out w7 HB7.out g cap (R8.out.below HB37.out))
    clear hb7 HS2 HB56 hB1 hB2 hB3 hB4 hB5
    go_wp2_with fail
    refine HT1.out.mono ?_
    rintro e w8 ⟨rfl, hb8⟩
    have hs57 := HB57.out.size
    have hs37 := HB37.out.size
    have hs7 := HB7.out.size
    have HB58 := run.hid (HB57.out.trans (hb8.mono hs57))
    have HB38 := run.hid (HB37.out.trans (hb8.mono hs37))
    have HB8 := run.hid (HB7.out.trans (hb8.mono hs7))
    have hs8 := hb8.size
    have hba := run.below_one w8 (.cells #[.slice a9 N c9, .slice a10 N c10] 35)
    have hka := heap_alloc_new w8 (.cells #[.slice a9 N c9, .slice a10 N c10] 35)
    have hs58 := HB58.out.size
    have hs38 := HB38.out.size
    have hbsz := HB8.out.size
    have HB3a := run.hid (HB38.out.trans (hba.mono hs38))
    have HBa := run.hid (HB8.out.trans (hba.mono hbsz))
    have O9a := run.hid (run.own_mono (run.own_below O95.out (HB58.out.trans (hba.mono hs58))) (show w3.heap.size ≤ w3.heap.size from Nat.le_refl _))
    have O10a := run.hid (run.own_mono (run.own_below O10.out (HB58.out.trans (hba.mono hs58))) hs34)
    have HSPa := run.hid (HSP.out w3.heap.size w8.heap.size (.slice a9 N c9) (.slice a10 N c10) (w8.alloc (.cells #[.slice a9 N c9, .slice a10 N c10] 35)) O9a.out O10a.out HAP.out (blk_cell hka 0) (blk_cell hka 1)
      (fun k hk => by have := (O95.out.lt k hk).2; omega) (fun k hk => by have := (O10.out.lt k hk).2; omega) (by rw [World.size_alloc]; omega))
    clear hb8 HT1 hba hka O9a O10a HB57 HB37 HB7 HAP O95 O10 HSP
    go_wp2_with fail
    refine HSPa.out.mono ?_
    rintro e w9 ⟨rfl, hb9⟩
    have HB39 := run.hid (HB3a.out.trans hb9)
    have HB9 := run.hid (HBa.out.trans (hb9.mono hs3))
    have HT2 := run.hid (HST.out w9 HB9.out g cap (R8.out.below HB39.out))
    clear hb9 HSPa HB3a HBa HB58 HB38 HB8
    go_wp2_with fail
    refine HT2.out.mono ?_
    rintro e wa ⟨rfl, hba⟩
    have hs39 := HB39.out.size
    have hs9 := HB9.out.size
    have HB3A := run.hid (HB39.out.trans (hba.mono hs39))
    have HBA := run.hid (HB9.out.trans (hba.mono hs9))
    have HM3 := run.hid (HME.out wa g cap (R8.out.below HB3A.out) (by omega))
    clear hba HT2 HB39 HB9 HME HST
    go_wp2_with fail
    refine HM3.out.mono ?_
    rintro e wb ⟨v11, rfl, ho11, hbb⟩
    obtain ⟨a11, c11, rfl⟩ := run.own_value ho11
    have hs3A := HB3A.out.size
    have hsA := HBA.out.size
    have HB3B := run.hid (HB3A.out.trans (hbb.mono hs3A))
    have HBB := run.hid (HBA.out.trans (hbb.mono hsA))
    have R11 := run.hid (HRDM.out wb _ _ ho11)
    have R7b := run.hid (R73.out.below HB3B.out)
    have KPb := run.hid ((HB3B.out.block w.heap.size (by have := (Array.getElem?_eq_some_iff.1 KP3.out).1; omega)).trans KP3.out)
    have hwb : w.heap.size < wb.heap.size := (Array.getElem?_eq_some_iff.1 KPb.out).1
    have KPB := run.hid (And.intro KPb.out hwb)
    have hwB := HBB.out.size
    have HS3 := run.hid (fun X (hC : Below wb.heap.size wb X) => HSA.out X a11 c11 a7 c7 (R11.out.below hC) (R7b.out.below hC))
    clear hbb ho11 HM3 HB3A HBA HSA HRDM HRDL R8 R73 R75 R95 R105 HB35 KP3 R11 R7b HB3B KPb
    go_upto_region 11 with fail
    generalize hp : w.heap.size = p at *
    refine lx.region (fun D X => Below wb.heap.size wb X) (by kernel_rfl) (by kernel_rfl) (by kernel_rfl) (drewB (Below.refl _ _)) ?_
    refine lx.begin 79 rfl ?_
    refine lx.o_pure (.slice a11 N c11) (fun _ _ h => by first | rfl | kernel_rfl) ?_
    refine lx.o_pure (.slice a7 N c7) (fun _ _ h => by first | rfl | kernel_rfl) ?_
    refine lx.o_call (.bool true) 21 #[.slice a11 N c11, .slice a7 N c7] (fun _ _ _ => lx.run_fn rfl rfl rfl (enters_of Try.func21 (by kernel_rfl) rfl)) (fun D X hC => (HS3.out X hC).mono fun e w2 ⟨he, hw⟩ => ⟨he, hC.trans (hw.mono hC.size)⟩) ?_
    refine lx.o_pure (.bool true) (fun _ _ h => by first | rfl | kernel_rfl) ?_
    refine lx.o_pure (.agg #[.int .i32 fg, .int .i32 bg, .int .u8 att]) (fun D X hC => run_loadrow rfl rfl (hC.b4 KPB.out) Try.underlying24 rfl (by kernel_rfl)) ?_
    refine lx.o_call bs.val 24 #[.agg #[.int .i32 fg, .int .i32 bg, .int .u8 att]] (fun _ _ _ => lx.run_fn rfl rfl rfl (enters_of Try.func24 (by kernel_rfl) rfl)) (fun D X hC => (HBL.out X).mono fun e w2 ⟨he, hw⟩ => ⟨he, hC.trans (hw.mono hC.size)⟩) ?_
    refine lx.o_pure (.agg #[.int .i32 fg, .int .i32 bg, .int .u8 att]) (fun D X hC => run_loadrow rfl rfl (hC.b4 KPB.out) Try.underlying24 rfl (by kernel_rfl)) ?_
    refine lx.o_call bs.val 25 #[.agg #[.int .i32 fg, .int .i32 bg, .int .u8 att]] (fun _ _ _ => lx.run_fn rfl rfl rfl (enters_of Try.func25 (by kernel_rfl) rfl)) (fun D X hC => (HRB.out X).mono fun e w2 ⟨he, hw⟩ => ⟨he, hC.trans (hw.mono hC.size)⟩) ?_
    refine lx.o_pure (.bool true) (fun D X hC => by rw [run_eqcell rfl rfl rfl, decide_eq_true rfl]) ?_
    refine lx.o_pure (.bool true) (fun _ _ h => by first | rfl | kernel_rfl) ?_
    refine lx.o_pure (.bool true) (fun _ _ h => by first | rfl | kernel_rfl) ?_
    refine lx.o_call (.bool true) 13 #[] (fun _ _ _ => lx.run_fn rfl rfl rfl (enters_of Try.func13 (by kernel_rfl) rfl)) (fun D X hC => (HW.out X).mono fun e w2 ⟨he, hw⟩ => ⟨he, hC.trans (hw.mono hC.size)⟩) ?_
    refine lx.o_pure (.bool true) (fun _ _ h => by first | rfl | kernel_rfl) ?_
    refine lx.o_pure (.bool true) (fun _ _ h => by first | rfl | kernel_rfl) ?_
    refine lx.o_end ?_
    simp only [lx.ov]
    rintro X d hd hC
    have HF := run.hid (HBB.out.trans (hC.mono hwB))
    clear hC hd HS3 HBL HRB HW HBB KPB
    go_simp
    go_wp2
    go_ret
    exact ⟨rfl, by first | exact HF.out | (rw [hp]; exact HF.out)⟩
end Go.Proofs.Ytinnggiohalifaa.cel
