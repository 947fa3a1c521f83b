/-
  The walk of the document's Turn.
-/
import Derived.Test.YtghbpbaopcibkaaDoorCanPts
import Derived.Deep.DeepCutAuto
namespace Go.Proofs.YtghbpbaopcibkaaDoor.can
open Go.RowKit Go.Proofs Go.Proofs.YtghbpbaopcibkaaDoor.flo
set_option linter.unusedVariables false

theorem bin_none {op : BinOp} (ho : arith3 op) (t : TypeId) {x y : Nat} (h : floatBits op .f64 x y = none) : binOp op t (F x) (F y) = (do let r ← choose (.nanBits .f64 x y); pure (F r)) := by
  unfold floatBits at h
  rcases ho with rfl | rfl | rfl
  · simp only at h
    show Op.floatArith .add .f64 x y = _
    unfold Op.floatArith
    simp only [h]
    rfl
  · simp only at h
    show Op.floatArith .sub .f64 x y = _
    unfold Op.floatArith
    simp only [h]
    rfl
  · simp only at h
    show Op.floatArith .mul .f64 x y = _
    unfold Op.floatArith
    simp only [h]
    rfl

set_option maxRecDepth 100000 in
set_option maxHeartbeats 4000000 in
theorem refTurn_any (l : List (Nat × Nat)) (a : Option Addr) (cap : Nat) (at_ by_ : Nat × Nat) (w : World) (hR : run.ReadsN 2 w (.slice a l.length cap) l.length (cellsP l)) (hlen : l.length * 16 ≤ 140737488355328) :
    Calls Tryd.prog 20 #[.slice a l.length cap, .agg #[F at_.1, F at_.2], .agg #[F by_.1, F by_.2]] w fun e w' => ∃ v ps, e = .returned v ∧ w'.ownsRow w.heap.size 44 2 v l.length (cellsP ps) ∧ ps.map num2 = l.map (fun p => turnT (num2 at_) (num2 by_) (num2 p)) ∧ Fits2 ps ∧ Below w.heap.size w w' := by
  obtain ⟨i, hi, hz0, hz1, hz2⟩ := info_parts info_point
  obtain ⟨N, hN⟩ : ∃ N, N = l.length := ⟨_, rfl⟩
  have HRR := run.hid (fun w' (hb : Below w.heap.size w w') => hR.below hb)
  rw [← hN] at HRR hlen ⊢
  have HN := run.hid hN
  have hNl : N ≤ 8796093022208 := by omega
  have HLEN := run.hid hlen
  obtain ⟨a1, a2⟩ := at_
  obtain ⟨b1, b2⟩ := by_
  clear hN hR hlen
  go_enter Tryd.func20, Tryd.ntmps20
  go_wp2
  have hA0 : ((w.alloc (.cells #[F a1, F a2] 44)).alloc (.cells #[F b1, F b2] 44)).cell? ⟨w.heap.size, 0, none⟩ = some (F a1) := by simp
  have hA1 : ((w.alloc (.cells #[F a1, F a2] 44)).alloc (.cells #[F b1, F b2] 44)).cell? ⟨w.heap.size, 1, none⟩ = some (F a2) := by simp
  have hB0 : ((w.alloc (.cells #[F a1, F a2] 44)).alloc (.cells #[F b1, F b2] 44)).cell? ⟨w.heap.size + 1, 0, none⟩ = some (F b1) := by simp
  have hB1 : ((w.alloc (.cells #[F a1, F a2] 44)).alloc (.cells #[F b1, F b2] 44)).cell? ⟨w.heap.size + 1, 1, none⟩ = some (F b2) := by simp
  have hbl := run.below_two w (.cells #[F a1, F a2] 44) (.cells #[F b1, F b2] 44)
  have hsz : ((w.alloc (.cells #[F a1, F a2] 44)).alloc (.cells #[F b1, F b2] 44)).heap.size = w.heap.size + 2 := by simp
  generalize (w.alloc (.cells #[F a1, F a2] 44)).alloc (.cells #[F b1, F b2] 44) = w2 at *
  generalize hB : w.heap.size = B at *
  have HA0 := run.hid hA0
  have HA1 := run.hid hA1
  have HB0 := run.hid hB0
  have HB1 := run.hid hB1
  have HBL := run.hid hbl
  clear hA0 hA1 hB0 hB1 hbl
  go_loopw [7, 8] (fun v kv wr => ∃ k : Nat, k ≤ N ∧ kv = .int .i64 k ∧ ∃ ps : List (Nat × Nat), Hid (wr.ownsRow (B + 2) 44 2 v k (cellsP ps)) ∧ Hid (ps.map num2 = (l.take k).map fun p => turnT (num2 (a1, a2)) (num2 (b1, b2)) (num2 p)) ∧ Hid (Fits2 ps) ∧ Hid (Below (B + 2) w2 wr)) (fun _ v _ => N - (intOf v).toNat)
  case atStart => exact ⟨0, Nat.zero_le _, rfl, [], World.ownsRow_nil _ _ _ _, rfl, (fun p h => by cases h), Below.refl _ _⟩
  case round =>
    obtain ⟨k, hk, rfl, ps, HO, HM, HF, HBr⟩ := hrel
    have hszr := HBr.out.size
    by_cases hlt : k < N
    · have hRx := HRR.out _ (HBL.out.trans (HBr.out.mono (by omega)))
      rw [HN.out] at hRx
      obtain ⟨b, off, rfl, hb, hcl⟩ := readsP hRx (by rw [← HN.out]; exact hlt)
      obtain ⟨hc1, hc2⟩ := hcl k (by rw [← HN.out]; exact hlt)
      obtain ⟨⟨p1, p2⟩, hp⟩ : ∃ p, p = l.getD k (0, 0) := ⟨_, rfl⟩
      rw [← hp] at hc1 hc2
      have HT := run.hid (show l.take (k + 1) = l.take k ++ [(p1, p2)] by
        have h1 : k < l.length := by rw [← HN.out]; exact hlt
        rw [List.take_succ_eq_append_getElem h1, hp]
        congr 2
        simp [List.getD_eq_getElem?_getD, h1])
      clear hcl hRx hp
      simp only at hc1 hc2
      have hA0 := (HBr.out.cell (p := ⟨B, 0, none⟩) (by simp)).trans HA0.out
      have hA1 := (HBr.out.cell (p := ⟨B, 1, none⟩) (by simp)).trans HA1.out
      have hB0 := (HBr.out.cell (p := ⟨B + 1, 0, none⟩) (by simp)).trans HB0.out
      have hB1 := (HBr.out.cell (p := ⟨B + 1, 1, none⟩) (by simp)).trans HB1.out
      go_upto_region 5 with fail
      go_cut [9] (fun c wx => ∃ r n, c = F r ∧ Hid (num r = oop .sub (num p1) (num a1)) ∧ wx = wr.drewN n)
      case first =>
        cases hf : floatBits .sub .f64 p1 a1 with
        | some r =>
          have e := bin_sub 34 (show D.sub p1 a1 = some r from hf)
          have H1 := run.hid (show num r = oop .sub (num p1) (num a1) by rw [oop_num o3s, hf, num_some (fop_num o3s hf)])
          clear hf
          go_quiet (fail)
          go_wp2
          go_meet
          case rel => exact ⟨r, nq, rfl, H1, rfl⟩
        | none =>
          have e := bin_none o3s 34 hf
          have HF2 := run.hid hf
          clear hf
          go_region_law (fail)
          all_goals
            go_wp2
            go_meet
            case rel => exact ⟨_, 2, rfl, by show _ = _; rw [oop_num o3s, HF2.out, num_none (nan_cut _ _ _).1], rfl⟩
      obtain ⟨x1, n1, rfl, G1, rfl⟩ := hcut
      have HBr1 : Hid (Below (B + 2) w2 (wr.drewN n1)) := run.hid (HBr.out.trans (drewN_below (B + 2) _ _))
      have HO1 : Hid ((wr.drewN n1).ownsRow (B + 2) 44 2 u7 k (cellsP ps)) := HO
      have hA0 : (wr.drewN n1).cell? ⟨B, 0, none⟩ = some (F a1) := hA0
      have hA1 : (wr.drewN n1).cell? ⟨B, 1, none⟩ = some (F a2) := hA1
      have hB0 : (wr.drewN n1).cell? ⟨B + 1, 0, none⟩ = some (F b1) := hB0
      have hB1 : (wr.drewN n1).cell? ⟨B + 1, 1, none⟩ = some (F b2) := hB1
      have hc1 : (wr.drewN n1).cell? ⟨b, off + k * 2, none⟩ = some (F p1) := hc1
      have hc2 : (wr.drewN n1).cell? ⟨b, off + k * 2 + 1, none⟩ = some (F p2) := hc2
      have hszr : w2.heap.size ≤ (wr.drewN n1).heap.size := hszr
      clear HBr HO
      generalize wr.drewN n1 = wA at *
      go_upto_region 6 with fail
      go_cut [10] (fun c wx => ∃ r n, c = F r ∧ Hid (num r = oop .sub (num p2) (num a2)) ∧ wx = wA.drewN n)
      case first =>
        cases hf : floatBits .sub .f64 p2 a2 with
        | some r =>
          have e := bin_sub 34 (show D.sub p2 a2 = some r from hf)
          have H1 := run.hid (show num r = oop .sub (num p2) (num a2) by rw [oop_num o3s, hf, num_some (fop_num o3s hf)])
          clear hf
          go_quiet (fail)
          go_wp2
          go_meet
          case rel => exact ⟨r, nq, rfl, H1, rfl⟩
        | none =>
          have e := bin_none o3s 34 hf
          have HF2 := run.hid hf
          clear hf
          go_region_law (fail)
          all_goals
            go_wp2
            go_meet
            case rel => exact ⟨_, 2, rfl, by show _ = _; rw [oop_num o3s, HF2.out, num_none (nan_cut _ _ _).1], rfl⟩
      obtain ⟨x2, n2, rfl, G2, rfl⟩ := hcut
      have HBr2 : Hid (Below (B + 2) w2 (wA.drewN n2)) := run.hid (HBr1.out.trans (drewN_below (B + 2) _ _))
      have HO2 : Hid ((wA.drewN n2).ownsRow (B + 2) 44 2 u7 k (cellsP ps)) := HO1
      have hA0 : (wA.drewN n2).cell? ⟨B, 0, none⟩ = some (F a1) := hA0
      have hA1 : (wA.drewN n2).cell? ⟨B, 1, none⟩ = some (F a2) := hA1
      have hB0 : (wA.drewN n2).cell? ⟨B + 1, 0, none⟩ = some (F b1) := hB0
      have hB1 : (wA.drewN n2).cell? ⟨B + 1, 1, none⟩ = some (F b2) := hB1
      have hc1 : (wA.drewN n2).cell? ⟨b, off + k * 2, none⟩ = some (F p1) := hc1
      have hc2 : (wA.drewN n2).cell? ⟨b, off + k * 2 + 1, none⟩ = some (F p2) := hc2
      have hszr : w2.heap.size ≤ (wA.drewN n2).heap.size := hszr
      clear HBr1 HO1
      generalize wA.drewN n2 = wB at *
      go_wp2
      obtain ⟨r3, n3, h1, G3, L3⟩ := bin_fop (P := Tryd.prog) o3m 34 x1 b1 wB
      rw [h1]
      clear h1
      go_wp2
      obtain ⟨r4, n4, h1, G4, L4⟩ := bin_fop (P := Tryd.prog) o3m 34 x2 b2 (wB.drewN (n3))
      rw [h1]
      clear h1
      go_wp2
      obtain ⟨r5, n5, h1, G5, L5⟩ := bin_fop (P := Tryd.prog) o3m 34 x1 b2 (wB.drewN (n3 + n4))
      rw [h1]
      clear h1
      go_wp2
      obtain ⟨r6, n6, h1, G6, L6⟩ := bin_fop (P := Tryd.prog) o3m 34 x2 b1 (wB.drewN (n3 + n4 + n5))
      rw [h1]
      clear h1
      go_wp2
      obtain ⟨r7, n7, h1, G7, L7⟩ := bin_fop (P := Tryd.prog) o3s 34 r3 r4 (wB.drewN (n3 + n4 + n5 + n6))
      rw [h1]
      clear h1
      go_wp2
      obtain ⟨r8, n8, h1, G8, L8⟩ := bin_fop (P := Tryd.prog) o3a 34 a1 r7 (wB.drewN (n3 + n4 + n5 + n6 + n7))
      rw [h1]
      clear h1
      go_wp2
      obtain ⟨r9, n9, h1, G9, L9⟩ := bin_fop (P := Tryd.prog) o3a 34 r5 r6 (wB.drewN (n3 + n4 + n5 + n6 + n7 + n8))
      rw [h1]
      clear h1
      go_wp2
      obtain ⟨r10, n10, h1, G10, L10⟩ := bin_fop (P := Tryd.prog) o3a 34 a2 r9 (wB.drewN (n3 + n4 + n5 + n6 + n7 + n8 + n9))
      rw [h1]
      clear h1
      have hbs : B + 2 ≤ wB.heap.size := by omega
      go_wp2_with (at_builtin; refine run.wpList_append_any _ rfl _ _ 40 rfl (B + 2) 44 i (.agg #[F 0, F 0]) 2 16 Tryd.underlying40 hi hz0 hz1 hz2 rfl (by decide) _ _ _ rfl ((show (wB.drewN (n3 + n4 + n5 + n6 + n7 + n8 + n9 + n10)).ownsRow (B + 2) 44 2 u7 k (cellsP ps) from HO2.out).alloc _) _ 1 [F r8, F r10] rfl (run.readsN_new (wB.drewN (n3 + n4 + n5 + n6 + n7 + n8 + n9 + n10)) [F r8, F r10] 1 2 _ rfl) (by intro u hu; simp only [List.mem_cons, List.not_mem_nil, or_false] at hu; rcases hu with rfl | rfl <;> rfl) (by unfold maxLen; omega) (by omega) (by simp; omega) ?_)
      intro v' w6 hown6 hgrow hold hstep
      have HO6 : Hid (w6.ownsRow (B + 2) 44 2 v' (k + 1) (cellsP (ps ++ [(r8, r10)]))) := by show World.ownsRow _ _ _ _ _ _ _; rw [cellsP_app]; exact hown6
      have HB6 := run.hid (run.below_append ((HBr2.out.trans (drewN_below (B + 2) wB (n3 + n4 + n5 + n6 + n7 + n8 + n9 + n10))).alloc (by simp; omega) _) ((show (wB.drewN (n3 + n4 + n5 + n6 + n7 + n8 + n9 + n10)).ownsRow (B + 2) 44 2 u7 k (cellsP ps) from HO2.out).alloc (.cells #[F r8, F r10] 44)) hgrow (by simp; omega))
      have HM6 : Hid ((ps ++ [(r8, r10)]).map num2 = (l.take (k + 1)).map fun p => turnT (num2 (a1, a2)) (num2 (b1, b2)) (num2 p)) := by
        show _ = _
        rw [HT.out, List.map_append, List.map_append, HM.out]
        congr 1
        simp only [List.map_cons, List.map_nil]
        congr 1
        unfold turnT plusT timesT num2
        simp only
        rw [G8, G7, G3, G4, G10, G9, G5, G6, G1.out, G2.out]
      have HF6 : Hid (Fits2 (ps ++ [(r8, r10)])) := by
        intro p hp
        rcases List.mem_append.1 hp with h | h
        · exact HF.out p h
        · obtain rfl := List.mem_singleton.1 h
          exact ⟨L8, L10⟩
      clear hown6 hgrow hold hstep HO2 HBr2 HM HF HT G1 G2 G3 G4 G5 G6 G7 G8 G9 G10 L3 L4 L5 L6 L7 L8 L9 L10 hc1 hc2 hA0 hA1 hB0 hB1
      go_wp2
      go_roundw
      case rel => exact ⟨k + 1, by omega, by go_num, ps ++ [(r8, r10)], HO6, HM6, HF6, HB6⟩
      case measure => simp [intOf]; omega
    · obtain rfl : k = N := by omega
      go_wp2
      go_ret
      have h2 := HM.out
      rw [List.take_of_length_le (by rw [← HN.out]; exact Nat.le_refl _)] at h2
      subst hB
      exact ⟨_, ps, rfl, run.own_mono HO.out (by omega), h2, HF.out, HBL.out.trans (HBr.out.mono (by omega))⟩
end Go.Proofs.YtghbpbaopcibkaaDoor.can
