/-
  The walk of a helper of the laws of layer cells: rows marked, gone on with, looked at. (Printed by gen_celspoil.py.)
-/
import Derived.Test.YtdgcfmfjgidbjaaGreatCelC
import Derived.Test.YtdgcfmfjgidbjaaGreatCelRack2
import Derived.Deep.DeepCutAuto
import Derived.Deep.AppendLies
namespace Go.Proofs.YtdgcfmfjgidbjaaGreat.cel
open Go Go.RowKit Go.Proofs
set_option linter.unusedVariables false

/-- behind a call that turned these rows, and nothing else that was there -/
def Spt (B N : Nat) (V : Nat → Value) (w X : World) : Prop := Below B w X ∧ ∀ k, k < w.heap.size → (∀ j, j < N → (V j).ownBlock ≠ some k) → X.heap[k]? = w.heap[k]?
theorem Spt.refl (B N : Nat) (V : Nat → Value) (w : World) : Spt B N V w w := ⟨Below.refl _ _, fun _ _ _ => rfl⟩
theorem Spt.trans {B N : Nat} {V : Nat → Value} {w X Y : World} (h : Spt B N V w X) (h' : Spt B N V X Y) : Spt B N V w Y := ⟨h.1.trans h'.1, fun k hk hn => (h'.2 k (Nat.lt_of_lt_of_le hk h.1.size) hn).trans (h.2 k hk hn)⟩
theorem info_spspoil : (Tryz.prog.info? 59).map (fun i => (i.zero, i.size, i.bytes)) = some (some (.agg #[.string ByteArray.empty, .int .i8 0, .int .i32 0, .int .i32 0, .int .u8 0]), 5, 32) := by kernel_rfl
theorem info_srspoil : (Tryz.prog.info? 35).map (fun i => (i.zero, i.size, i.bytes)) = some (some (.slice none 0 0), 1, 24) := by kernel_rfl

set_option maxRecDepth 100000 in
set_option maxHeartbeats 4000000 in
theorem spoil_keeps (B N : Nat) (V : Nat → Value) (n : Nat → Nat) (X : Nat → List Value) (Lb lo cap : Nat) (w : World) (hR : run.Rack B 59 5 N V n X w) (hA : run.Apart N V) (hN : N ≤ 1073741824) (hn : ∀ j, j < N → n j ≤ 4294967296)
    (hl : ∀ j, j < N → w.cell? ⟨Lb, lo + j, none⟩ = some (V j)) (hLb : ∀ j, j < N → ∀ k, (V j).ownBlock = some k → k ≠ Lb) (hLw : Lb < w.heap.size) (hB : B ≤ w.heap.size) :
    Calls Tryz.prog 29 #[.slice (some ⟨Lb, lo, none⟩) N cap] w fun e w' => e = .returned (.bool true) ∧ Spt B N V w w' := by
  obtain ⟨it, hit, ht0, ht1, ht2⟩ := info_parts info_spspoil
  obtain ⟨ir, hir, hr0, hr1, hr2⟩ := info_parts info_srspoil
  have HR := run.hid hR
  have HA := run.hid hA
  have HN := run.hid hn
  have HL := run.hid hl
  have HLB := run.hid hLb
  clear hR hA hn hl hLb
  go_enter Tryz.func29, Tryz.ntmps29
  go_wp2
  go_loopw [3] (fun vi wr => ∃ (i : Nat) (Y : Nat → List Value), i ≤ N ∧ vi = .int .i64 i ∧ Hid (run.Rack B 59 5 N V n Y wr) ∧ Hid (run.Marked 5 (fun j => -10 - (j : Int)) n Y i) ∧ Hid (∀ j, j < N → wr.cell? ⟨Lb, lo + j, none⟩ = some (V j)) ∧ Lb < wr.heap.size ∧ Spt B N V w wr) (fun vi _ => ((N : Int) - intOf vi).toNat)
  case atStart => exact ⟨0, X, by omega, rfl, HR, (by intro j hj; omega), HL, hLw, Spt.refl _ _ _ _⟩
  case round =>
    obtain ⟨i, Y, hi, rfl, HY, HM, HC, hLr, hbel⟩ := hrel
    by_cases hlt : i < N
    · have hown0 := HY.out i hlt
      obtain ⟨a, c, hV⟩ := run.own_value hown0
      obtain ⟨ni, hni⟩ : ∃ m, n i = m := ⟨_, rfl⟩
      have hnb := HN.out i hlt
      rw [hni] at hnb hV hown0
      rw [hV] at hown0
      have hLne : ∀ k, (Value.slice a ni c).ownBlock = some k → k ≠ Lb := by rw [← hV]; exact HLB.out i hlt
      have hcl := HC.out i hlt
      rw [hV] at hcl
      have HCL := run.hid (fun (w' : World) (hg : wr.grownBy w' (Value.slice a ni c).ownBlock) => show w'.cell? ⟨Lb, lo + i, none⟩ = some (.slice a ni c) from (hg.cell_far ⟨Lb, lo + i, none⟩ hLr (fun e => hLne Lb e.symm rfl)).trans hcl)
      have HCA := run.hid (fun (w' : World) (hg : wr.grownBy w' (Value.slice a ni c).ownBlock) j (hj : j < N) => show w'.cell? ⟨Lb, lo + j, none⟩ = some (V j) from (hg.cell_far ⟨Lb, lo + j, none⟩ hLr (fun e => hLne Lb e.symm rfl)).trans (HC.out j hj))
      have HO0 := run.hid hown0
      have HPUT := run.hid (fun (w' : World) (x : List Value) (hg : wr.grownBy w' (Value.slice a ni c).ownBlock) (hx : w'.ownsRow B 59 5 (.slice a ni c) ni x) (hm : run.RowMark 5 (-10 - (i : Int)) x ni) =>
        show run.Rack B 59 5 N V n (run.put Y i x) w' ∧ run.Marked 5 (fun j => -10 - (j : Int)) n (run.put Y i x) (i + 1) ∧ Spt B N V wr w' from
          ⟨HY.out.put HA.out hlt (by rw [hV]; exact hg) (by rw [hV, hni]; exact hx), HM.out.put (by rw [hni]; exact hm), (Below.refl _ wr).grown hg (Nat.le_trans hB hbel.1.size) (fun k hk => (hown0.lt k hk).1), fun k hk hn => hg.block k hk (fun e => hn i hlt (by rw [hV]; exact e.symm))⟩)
      have hgv : ∀ k, k < ni → ∃ g, a = some ⟨g, 0, none⟩ := by
        intro k hk
        rcases hown0.2 with ⟨h, h0⟩ | ⟨g, cap', cur, h, -⟩
        · omega
        · simp only [Value.slice.injEq] at h; exact ⟨g, h.1⟩
      have HG := run.hid hgv
      have hsz0 := hbel.1.size
      clear hown0 hV hcl hLne hgv HY HM HC HR HL HLB HN hni
      go_wp2
      generalize wr = wz at *
      go_loopw [4] (fun vk wr => ∃ (k : Nat) (xs : List Value), k ≤ ni ∧ vk = .int .i64 k ∧ Hid (wr.ownsRow B 59 5 (.slice a ni c) ni xs) ∧ Hid (run.RowMark 5 (-10 - (i : Int)) xs k) ∧ Hid (wz.grownBy wr (Value.slice a ni c).ownBlock)) (fun vk _ => ((ni : Int) - intOf vk).toNat)
      case atStart => exact ⟨0, _, by omega, rfl, HO0, (by intro k hk; omega), World.grownBy.refl _ _⟩
      case round =>
        obtain ⟨k, xs, hk, rfl, HO, HM, HGR⟩ := hrel
        have hcl := HCL.out wr HGR.out
        by_cases hkl : k < ni
        · obtain ⟨g, rfl⟩ := HG.out k hkl
          have hown := HO.out
          have hgr : wz.grownBy wr (some g) := HGR.out
          have hxl := hown.1
          obtain ⟨q0, hu0⟩ : ∃ u, xs[k * 5]? = some u := ⟨_, List.getElem?_eq_getElem (by rw [hxl]; omega)⟩
          have hq0 := (hown.cellAt (k * 5) (by omega)).trans hu0
          have hf0 := hown.frozenAt (k * 5)
          clear hu0
          obtain ⟨q1, hu1⟩ : ∃ u, xs[k * 5 + 1]? = some u := ⟨_, List.getElem?_eq_getElem (by rw [hxl]; omega)⟩
          have hq1 := (hown.cellAt (k * 5 + 1) (by omega)).trans hu1
          have hf1 := hown.frozenAt (k * 5 + 1)
          clear hu1
          obtain ⟨q2, hu2⟩ : ∃ u, xs[k * 5 + 2]? = some u := ⟨_, List.getElem?_eq_getElem (by rw [hxl]; omega)⟩
          have hq2 := (hown.cellAt (k * 5 + 2) (by omega)).trans hu2
          have hf2 := hown.frozenAt (k * 5 + 2)
          clear hu2
          obtain ⟨q3, hu3⟩ : ∃ u, xs[k * 5 + 3]? = some u := ⟨_, List.getElem?_eq_getElem (by rw [hxl]; omega)⟩
          have hq3 := (hown.cellAt (k * 5 + 3) (by omega)).trans hu3
          have hf3 := hown.frozenAt (k * 5 + 3)
          clear hu3
          obtain ⟨q4, hu4⟩ : ∃ u, xs[k * 5 + 4]? = some u := ⟨_, List.getElem?_eq_getElem (by rw [hxl]; omega)⟩
          have hq4 := (hown.cellAt (k * 5 + 4) (by omega)).trans hu4
          have hf4 := hown.frozenAt (k * 5 + 4)
          clear hu4
          have hown2 := (((((hown.stored (k * 5) (.string ⟨#[]⟩)).1.stored (k * 5 + 1) (.int .i8 0)).1.stored (k * 5 + 2) (.int .i32 (-10 - (i : Int)))).1.stored (k * 5 + 3) (.int .i32 0)).1.stored (k * 5 + 4) (.int .u8 0)).1
          have hgr2 := (run.grown_trans (run.grown_trans (run.grown_trans (run.grown_trans (run.grown_trans hgr (run.setCell_grown wr g (k * 5) (.string ⟨#[]⟩)) (.inl rfl)) (run.setCell_grown _ g (k * 5 + 1) (.int .i8 0)) (.inl rfl)) (run.setCell_grown _ g (k * 5 + 2) (.int .i32 (-10 - (i : Int)))) (.inl rfl)) (run.setCell_grown _ g (k * 5 + 3) (.int .i32 0)) (.inl rfl)) (run.setCell_grown _ g (k * 5 + 4) (.int .u8 0)) (.inl rfl))
          have hm2 : run.RowMark 5 (-10 - (i : Int)) (((((xs.set (k * 5) (.string ⟨#[]⟩)).set (k * 5 + 1) (.int .i8 0)).set (k * 5 + 2) (.int .i32 (-10 - (i : Int)))).set (k * 5 + 3) (.int .i32 0)).set (k * 5 + 4) (.int .u8 0)) (k + 1) := by
            refine run.mark_step HM.out ?_ ?_
            · simp only [List.getElem?_set, List.length_set]
              simp
              omega
            · intro k' hk'
              simp only [List.getElem?_set, List.length_set]
              repeat rw [if_neg (by omega)]
          have HO2 := run.hid hown2
          have HM2 := run.hid hm2
          have HGR2 : Hid (wz.grownBy (((((wr.setCell ⟨g, k * 5, none⟩ (.string ⟨#[]⟩)).setCell ⟨g, k * 5 + 1, none⟩ (.int .i8 0)).setCell ⟨g, k * 5 + 2, none⟩ (.int .i32 (-10 - (i : Int)))).setCell ⟨g, k * 5 + 3, none⟩ (.int .i32 0)).setCell ⟨g, k * 5 + 4, none⟩ (.int .u8 0)) (Value.slice (some ⟨g, 0, none⟩) ni c).ownBlock) := hgr2
          clear hown hown2 hm2 hgr hgr2 hxl HO HM HGR HCL HCA HO0 HPUT HG HA
          go_wp2
          go_roundw
          case rel => exact ⟨k + 1, _, by omega, by go_num, HO2, HM2, HGR2⟩
          case measure => simp [intOf]; omega
        · obtain rfl : k = ni := by omega
          have hgg := HGR.out
          obtain ⟨h1, h2, h3⟩ := HPUT.out wr xs hgg HO.out HM.out
          have H1 := run.hid h1
          have H2 := run.hid h2
          have H3 := run.hid (HCA.out wr hgg)
          have hsg := hgg.size
          have h4 := hbel.trans h3
          clear h1 h2 h3 hgg HO HM HGR HCL HCA HO0 HPUT HG HA
          go_wp2
          go_roundw
          case rel => exact ⟨i + 1, _, by omega, by go_num, H1, H2, H3, by omega, h4⟩
          case measure => simp [intOf]; omega
    · obtain rfl : i = N := by omega
      clear hlt HR HL
      generalize hN0 : i = N0 at *
      have hszw := hbel.1.size
      go_wp2
      generalize wr = wz at *
      have hszB : B ≤ wz.heap.size := Nat.le_trans hB hszw
      go_loopw [5, 6] (fun vm vi wr => ∃ (i : Nat) (Gs : List Value), i ≤ N0 ∧ vi = .int .i64 i ∧ Hid (run.More B 59 5 N0 V n Y (fun j => -100 - (j : Int)) (.bool false) i Gs wr) ∧ wr.ownsRow wz.heap.size 35 1 vm i Gs ∧ Hid (∀ j, j < N0 → wr.cell? ⟨Lb, lo + j, none⟩ = some (V j)) ∧ Spt B N0 V wz wr) (fun _ vi _ => ((N0 : Int) - intOf vi).toNat)
      case atStart => exact ⟨0, [], by omega, rfl, run.More.start HY.out, World.ownsRow_nil _ _ _ _, HC, Spt.refl _ _ _ _⟩
      case round =>
        obtain ⟨i, Gs, hi, rfl, HMO, hmore, HC2, hbel2⟩ := hrel
        have hsz2 := hbel2.1.size
        by_cases hlt : i < N0
        · have hcl := HC2.out i hlt
          have hown0 := HMO.out.rack i hlt
          have hnb := HN.out i hlt
          have hLne := HLB.out i hlt
          obtain ⟨ni, hni⟩ : ∃ m, n i = m := ⟨_, rfl⟩
          rw [hni] at hnb hown0
          have HGR0 := run.hid (run.Grow.refl hown0)
          have HLT := run.hid (fun k hk => (hown0.lt k hk).2)
          have HXL := run.hid hown0.1
          have HNEXT := run.hid (fun (w1 : World) (g : Value) (ys : List Value) (hg : run.Grow B 59 5 wr (V i) ni (Y i) g (ni + 70) ys w1) (hm : run.RowMark 5 (-100 - (i : Int)) ys 70) => HMO.out.next HA.out hlt (by rw [hni]; exact hg) hm)
          have HOTH := run.hid (fun (w1 : World) (hg : wr.grownBy w1 (V i).ownBlock) => show w1.ownsRow wz.heap.size 35 1 u5 i Gs ∧ (∀ j, j < N0 → w1.cell? ⟨Lb, lo + j, none⟩ = some (V j)) ∧ Spt B N0 V wz w1 from
            ⟨run.own_kept hmore hg (run.own_apart hmore hown0 (by decide)), fun j hj => (hg.cell_far ⟨Lb, lo + j, none⟩ (show Lb < wr.heap.size by omega) (fun e => hLne Lb e.symm rfl)).trans (HC2.out j hj), run.below_grown hbel2.1 hown0 hg (Nat.le_refl _) (by omega), fun k hk hn => (hg.block k (by omega) (fun e => hn i hlt e.symm)).trans (hbel2.2 k hk hn)⟩)
          clear hown0 hni hLne HMO hmore HC2 HY HM HC
          generalize V i = vi at *
          generalize Y i = xs at *
          go_wp2
          generalize wr = wy at *
          go_loopw [7, 8] (fun vg vk wr => ∃ (k : Nat) (ys : List Value), k ≤ 70 ∧ vk = .int .i64 k ∧ Hid (run.Grow B 59 5 wy vi ni xs vg (ni + k) ys wr) ∧ Hid (run.RowMark 5 (-100 - (i : Int)) ys k) ∧ Hid (ys.length = k * 5)) (fun _ k _ => (70 - intOf k).toNat)
          case atStart => exact ⟨0, [], by omega, rfl, HGR0, (by intro k hk; omega), (show _ = _ from rfl)⟩
          case round =>
            obtain ⟨k, ys, hk, rfl, HG, HM, HY⟩ := hrel
            by_cases hkl : k < 70
            · have hnew := HG.out.new
              have hsz := HG.out.grown.size
              go_wp2_with (at_builtin; refine run.wpList_append_any _ rfl _ _ 35 rfl B 59 it _ 5 32 Tryz.underlying35 hit ht0 ht1 ht2 rfl (by decide) _ (ni + k) _ rfl (hnew.alloc _) _ 1 [.string ⟨#[]⟩, .int .i8 0, .int .i32 (-100 - (i : Int)), .int .i32 0, .int .u8 0] rfl (run.readsN_new wr [.string ⟨#[]⟩, .int .i8 0, .int .i32 (-100 - (i : Int)), .int .i32 0, .int .u8 0] 1 5 _ rfl) (by intro u hu; simp only [List.mem_cons, List.not_mem_nil, or_false] at hu; rcases hu with rfl | rfl | rfl | rfl | rfl <;> rfl) (by unfold maxLen; omega) (by omega) (by simp; omega) ?_)
              intro v' w2 hown2 hgrow hold hstep
              have hg1 : run.Grow B 59 5 wy vi ni xs u7 (ni + k) ys (wr.alloc (.cells #[.string ⟨#[]⟩, .int .i8 0, .int .i32 (-100 - (i : Int)), .int .i32 0, .int .u8 0] 59)) :=
                ⟨HG.out.new.alloc _, HG.out.old.alloc _, run.grown_trans HG.out.grown (World.grownBy_alloc _ _ none) (.inr (by intro k hk; cases hk)), HG.out.step, HG.out.le⟩
              have hg2 := run.hid (hg1.next (zs := [.string ⟨#[]⟩, .int .i8 0, .int .i32 (-100 - (i : Int)), .int .i32 0, .int .u8 0]) HXL.out HLT.out (by rw [List.append_assoc]; exact hown2) hgrow hold hstep)
              have hyl := HY.out
              have HM2 : Hid (run.RowMark 5 (-100 - (i : Int)) (ys ++ [.string ⟨#[]⟩, .int .i8 0, .int .i32 (-100 - (i : Int)), .int .i32 0, .int .u8 0]) (k + 1)) := by
                refine run.mark_step HM.out ?_ ?_
                · rw [List.getElem?_append_right (by omega), hyl, show k * 5 + 2 - k * 5 = 2 by omega]; rfl
                · intro k' hk'
                  rw [List.getElem?_append_left (by omega)]
              have HY2 : Hid ((ys ++ ([.string ⟨#[]⟩, .int .i8 0, .int .i32 (-100 - (i : Int)), .int .i32 0, .int .u8 0] : List Value)).length = (k + 1) * 5) := by show _ = _; rw [List.length_append, hyl]; simp; omega
              clear hnew hown2 hgrow hold hstep hg1 HG HM HY hyl
              go_wp2
              go_roundw
              case rel => exact ⟨k + 1, _, by omega, by go_num, hg2, HM2, HY2⟩
              case measure => simp [intOf]; omega
            · obtain rfl : k = 70 := by omega
              have hmo := HNEXT.out wr u7 ys HG.out HM.out
              obtain ⟨hmore, hcc, hbel3⟩ := HOTH.out wr HG.out.grown
              obtain ⟨a7, c7, rfl⟩ := run.own_value HG.out.new
              have hsz3 := hbel3.1.size
              have HMO := run.hid hmo
              have HCC := run.hid hcc
              clear hmo hcc HG HM HY HNEXT HOTH HGR0 HLT HXL hcl hbel2
              go_wp2_with (at_builtin; refine run.wpList_append_any _ rfl _ _ 49 rfl wz.heap.size 35 ir (.slice none 0 0) 1 24 Tryz.underlying49 hir hr0 hr1 hr2 rfl (by decide) _ i _ rfl (hmore.alloc _) _ 1 [.slice a7 (ni + 70) c7] rfl (run.readsN_new wr [.slice a7 (ni + 70) c7] 1 1 _ rfl) (by intro u hu; simp only [List.mem_singleton] at hu; subst hu; rfl) (by unfold maxLen; omega) (by omega) (by simp; omega) ?_)
              intro v' w6 hown6 hgrow hold hstep
              have hmo6 := run.hid (HMO.out.kept fun v n xs h => run.own_kept (h.alloc (.cells #[.slice a7 (ni + 70) c7] 35)) hgrow (run.own_apart (h.alloc (.cells #[.slice a7 (ni + 70) c7] 35)) (hmore.alloc _) (by decide)))
              have hbel6 : Spt B N0 V wz w6 := ⟨run.below_grown (hbel3.1.alloc (by omega) _) (hmore.alloc _) hgrow (by omega) (by simp; omega), fun k hk hn => (hgrow.block k (by simp; omega) (fun e => by have := (hmore.lt k e.symm).1; omega)).trans (((run.below_one wr (.cells #[.slice a7 (ni + 70) c7] 35)).block k (by omega)).trans (hbel3.2 k hk hn))⟩
              have HCC6 := run.hid (fun j (hj : j < N0) => (hgrow.cell_far ⟨Lb, lo + j, none⟩ (show Lb < (wr.alloc _).heap.size by simp; omega) (fun e => by have := (hmore.lt Lb e.symm).1; omega)).trans (run.cell_old wr _ (HCC.out j hj)))
              clear HMO HCC hmore hgrow hold hstep hbel3
              go_wp2
              go_roundw
              case rel => exact ⟨i + 1, _, by omega, by go_num, hmo6, hown6, HCC6, hbel6⟩
              case measure => simp [intOf]; omega
        · have hiN : N0 = i := by omega
          subst hiN
          obtain ⟨am, cm, rfl⟩ := run.own_value hmore
          have HGM := run.hid (fun i (hi : i < N0) => show ∃ g, am = some ⟨g, 0, none⟩ ∧ wr.cell? ⟨g, i, none⟩ = some (Gs.getD i (.bool false)) from by
            have hl := hmore.1
            rcases hmore.2 with ⟨h, h0⟩ | ⟨g, c', cur, h, -⟩
            · omega
            · simp only [Value.slice.injEq] at h
              obtain ⟨rfl, -, rfl⟩ := h
              exact ⟨g, rfl, (hmore.cellAt i (by omega)).trans (by simp [List.getD_eq_getElem?_getD, show i < Gs.length by omega])⟩)
          have HGG := run.hid (fun i (hi : i < N0) => show ∃ gg cg, Gs.getD i (.bool false) = .slice (some ⟨gg, 0, none⟩) (n i + 70) cg ∧ (∀ k, n i ≤ k → k < n i + 70 → wr.cell? ⟨gg, k * 5 + 2, none⟩ = some (.int .i32 (-100 - (i : Int)))) ∧ (∀ k, k < n i → wr.cell? ⟨gg, k * 5 + 2, none⟩ = some (.int .i32 (-10 - (i : Int)))) from by
            obtain ⟨ys, ho, hy⟩ := HMO.out.own i hi
            have hX := (HMO.out.rack i hi).1
            rcases ho.2 with ⟨h, h0⟩ | ⟨gg, cg, cur, h, -⟩
            · omega
            · refine ⟨gg, cg, h, fun k h1 h2 => ?_, fun k h1 => by
                rw [h] at ho
                have hl := ho.1
                refine (ho.cellAt (k * 5 + 2) (by omega)).trans ?_
                rw [List.getElem?_append_left (by omega)]
                exact HM.out i hi k h1⟩
              rw [h] at ho
              have hl := ho.1
              refine (ho.cellAt (k * 5 + 2) (by omega)).trans ?_
              rw [List.getElem?_append_right (by omega), hX, show k * 5 + 2 - n i * 5 = (k - n i) * 5 + 2 by omega]
              exact hy (k - n i) (by omega))
          have HVV := run.hid (fun i (hi : i < N0) => show ∃ a c, V i = .slice a (n i) c ∧ ∀ k, k < n i → ∃ g, a = some ⟨g, 0, none⟩ ∧ wr.cell? ⟨g, k * 5 + 2, none⟩ = some (.int .i32 (-10 - (i : Int))) from by
            have ho := HMO.out.rack i hi
            obtain ⟨a, c, hV⟩ := run.own_value ho
            refine ⟨a, c, hV, fun k hk => ?_⟩
            rw [hV] at ho
            have hl := ho.1
            rcases ho.2 with ⟨h, h0⟩ | ⟨g, cg, cur, h, -⟩
            · omega
            · simp only [Value.slice.injEq] at h
              obtain ⟨rfl, -, rfl⟩ := h
              exact ⟨g, rfl, (ho.cellAt (k * 5 + 2) (by omega)).trans (HM.out i hi k hk)⟩)
          have hfin := hbel.trans hbel2
          clear hlt HA HMO hmore HM HY hbel hbel2 HC HLB
          go_wp2
          go_loop [9] (fun vi => ∃ i : Nat, i ≤ N0 ∧ vi = .int .i64 i) (fun vi => ((N0 : Int) - intOf vi).toNat)
          case atStart => exact ⟨0, by omega, rfl⟩
          case round =>
            obtain ⟨i, hi, rfl⟩ := hrel
            by_cases hlt : i < N0
            · obtain ⟨gm, rfl, hcm⟩ := HGM.out i hlt
              obtain ⟨gg, cg, hG, hgc, hgd⟩ := HGG.out i hlt
              have HGD := run.hid hgd
              clear hgd
              obtain ⟨a, c, hV, hvc⟩ := HVV.out i hlt
              have hcl := HC2.out i hlt
              have hnb := HN.out i hlt
              rw [hG] at hcm
              rw [hV] at hcl
              have HGC := run.hid hgc
              have HVC := run.hid hvc
              generalize n i = ni at *
              clear hgc hvc hG hV HGM HGG HVV HC2 HN
              go_wp2
              go_loop [10] (fun vk => ∃ k : Nat, k ≤ ni + 70 ∧ vk = .int .i64 k) (fun vk => ((ni : Int) + 70 - intOf vk).toNat)
              case atStart => exact ⟨0, by omega, rfl⟩
              case round =>
                obtain ⟨k, hk, rfl⟩ := hrel
                by_cases hkl : k < ni + 70
                · by_cases hkn : k < ni
                  · obtain ⟨gv, rfl, hw⟩ := HVC.out k hkn
                    have hw2 := HGD.out k hkn
                    clear HGC HGD HVC
                    go_wp2
                    go_round
                    case rel => exact ⟨k + 1, by omega, by go_num⟩
                    case measure => simp [intOf]; omega
                  · have hw := HGC.out k (by omega) hkl
                    clear HGC HGD HVC
                    go_wp2
                    go_round
                    case rel => exact ⟨k + 1, by omega, by go_num⟩
                    case measure => simp [intOf]; omega
                · clear HGC HGD HVC
                  go_wp2
                  go_round
                  case rel => exact ⟨i + 1, by omega, by go_num⟩
                  case measure => simp [intOf]; omega
            · clear HGM HGG HVV HC2 HN
              go_wp2
              go_ret
              exact ⟨rfl, hfin⟩

end Go.Proofs.YtdgcfmfjgidbjaaGreat.cel
