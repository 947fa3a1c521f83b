/-
  The walk of the law CanvasSpark.
-/
import Derived.Test.YtghbpbaopcibkaaDoorCanRefSpark
import Derived.Test.YtghbpbaopcibkaaDoorCanAlike
import Derived.Test.YtghbpbaopcibkaaDoorCanAlive
namespace Go.Proofs.YtghbpbaopcibkaaDoor.can
open Go.RowKit Go.Proofs Go.Proofs.YtghbpbaopcibkaaDoor.flo
set_option linter.unusedVariables false

theorem own_emptyF {W : World} {B X : Nat} (h : W.heap[X]? = some (.cells #[] 34 (0, 0))) (hB : B ≤ X) : W.ownsRow B 34 1 (.slice (some ⟨X, 0, none⟩) 0 0) 0 [] :=
  ⟨rfl, .inr ⟨X, 0, #[], rfl, hB, h, Nat.le_refl _, by unfold maxLen; omega, rfl, rfl⟩⟩
theorem own_roomF {w : World} {B e sz n cap g : Nat} {xs : List Value} (h : w.ownsRow B e sz (.slice (some ⟨g, 0, none⟩) n cap) n xs) : n ≤ cap ∧ cap ≤ 9223372036854775807 := by
  rcases h.2 with ⟨h0, -⟩ | ⟨g', cap', cur, h0, -, -, h1, h2, -⟩
  · simp at h0
  · simp only [Value.slice.injEq] at h0
    obtain ⟨-, -, rfl⟩ := h0
    exact ⟨h1, h2⟩
def SEVEN : Nat := 4619567317775286272
theorem info_f64 : (Tryd.prog.info? 34).map (fun i => (i.zero, i.size, i.bytes)) = some (some (F 0), 1, 8) := by kernel_rfl
theorem longF_at {l : List Nat} {k j : Nat} (hl : l.length = k) (hj : j < k) : (l.map F ++ List.replicate 9 (F SEVEN))[j]? = some (F (l.getD j 0)) := by
  rw [List.getElem?_append_left (by simp; omega)]
  simp [List.getD_eq_getElem?_getD, List.getElem?_eq_getElem (show j < l.length by omega)]
theorem longF_at2 {l : List Nat} {k j : Nat} (hl : l.length = k) (hj : k ≤ j) (hj2 : j < k + 9) : (l.map F ++ List.replicate 9 (F SEVEN))[j]? = some (F SEVEN) := by
  rw [List.getElem?_append_right (by simp; omega)]
  rw [List.getElem?_replicate, if_pos (by simp; omega)]
theorem neq_sevenF (t : TypeId) : binOp .neq t (.float .f64 4619567317775286272) (.float .f64 4619567317775286272) = pure (.bool false) := by rfl

set_option maxRecDepth 100000 in
set_option maxHeartbeats 8000000 in
theorem lawSpark_any (l : List Nat) (a : Option Addr) (cap : Nat) (w0 : Int) (w : World) (hR : run.Reads w (.slice a l.length cap) (l.map F)) (hlen : l.length * 8 ≤ 140737488351232) (hcap : l.length ≤ cap) (hwf : ∀ x ∈ l, x < 18446744073709551616) (hw : -9223372036854775808 ≤ w0 ∧ w0 ≤ 9223372036854775807) (hD : Dots w) :
    Calls Tryd.prog 7 #[.slice a l.length cap, .int .i64 w0] w fun e w' => e = .returned (.bool true) ∧ Below w.heap.size w w' := by
  obtain ⟨i, hi, hz0, hz1, hz2⟩ := info_parts info_f64
  obtain ⟨N, hN⟩ : ∃ N, N = l.length := ⟨_, rfl⟩
  have HSP := run.hid (fun (a : Option Addr) (cap : Nat) (w : World) (h : run.Reads w (.slice a l.length cap) (l.map F)) (hc : l.length ≤ cap) => spark_any l a cap w0 w h hc hwf (by omega) hw)
  have HRS := run.hid (fun (w' : World) (hb : Below w.heap.size w w') => refSpark_any l a cap w0 w' (hR.below hb) hcap hwf (by omega) hw)
  have HRR := run.hid hR
  rw [← hN] at HRR hlen hcap HRS HSP ⊢
  have HN := run.hid hN
  have hNl : N ≤ 17592186043904 := by omega
  have HLEN := run.hid hlen
  have HDL := run.hid hD.lt
  have HDW := run.hid hD
  have HAK := run.hid (fun w' (x : Nat) => alikeN_any x x w')
  have HAT : Hid (∀ x, alikeN x x = true) := fun x => alikeN_of rfl
  have hRn : Hid (run.ReadsN 1 w (.slice a N cap) N (l.map F)) := by
    have := HRR.out.n
    rw [List.length_map, ← hN] at this
    exact this
  generalize sparkT l w0 = st at *
  clear hN hR hlen hD hwf hw
  go_enter Tryd.func7, Tryd.ntmps7
  go_wp2_with (at_builtin; refine run.wpList_append_any _ rfl _ _ 49 rfl w.heap.size 34 i (F 0) 1 8 Tryd.underlying49 hi hz0 hz1 hz2 rfl (by decide) _ _ _ rfl (own_emptyF (run.heap_new w (.cells #[] 34)) (Nat.le_refl _)) _ N (l.map F) rfl (hRn.out.below (run.below_one w (.cells #[] 34))) (by intro u hu; obtain ⟨p, -, rfl⟩ := List.mem_map.1 hu; rfl) (by unfold maxLen; omega) (by omega) (by simp) ?_)
  intro v' w6 hown6 hgrow hold hstep
  have HL : Hid (w6.ownsRow w.heap.size 34 1 v' (N + 0) (l.map F ++ List.replicate 0 (F SEVEN))) := by
    show World.ownsRow _ _ _ _ _ _ _
    rw [List.replicate_zero, List.append_nil, Nat.add_zero]
    simpa using hown6
  have HB6 : Hid (Below w.heap.size w w6) := by
    have h1 := (Below.refl w.heap.size w).alloc (Nat.le_refl _) (.cells #[] 34)
    exact run.below_append h1 (own_emptyF (run.heap_new w (.cells #[] 34)) (Nat.le_refl _)) hgrow (by simp)
  clear hown6 hgrow hold hstep
  generalize hs : w.heap.size = s at *
  go_wp2
  go_loopw [5, 6] (fun v kv wr => ∃ k : Nat, k ≤ 9 ∧ kv = .int .i64 k ∧ Hid (wr.ownsRow s 34 1 v (N + k) (l.map F ++ List.replicate k (F SEVEN))) ∧ Hid (Below s w wr)) (fun _ v _ => 9 - (intOf v).toNat)
  case atStart => exact ⟨0, Nat.zero_le _, rfl, HL, HB6⟩
  case round =>
    obtain ⟨k, hk, rfl, HO, HBk⟩ := hrel
    have hsr := HBk.out.size
    by_cases hlt : k < 9
    · go_wp2_with (at_builtin; refine run.wpList_append_any _ rfl _ _ 49 rfl s 34 i (F 0) 1 8 Tryd.underlying49 hi hz0 hz1 hz2 rfl (by decide) _ _ _ rfl (HO.out.alloc _) _ 1 [F SEVEN] rfl (run.readsN_new wr [F SEVEN] 1 1 _ rfl) (by intro u hu; simp only [List.mem_singleton] at hu; subst hu; rfl) (by unfold maxLen; omega) (by have := HLEN.out; omega) (by simp; omega) ?_)
      intro v8 w8 hown8 hgrow hold hstep
      have HO8 : Hid (w8.ownsRow s 34 1 v8 (N + (k + 1)) (l.map F ++ List.replicate (k + 1) (F SEVEN))) := by
        show World.ownsRow _ _ _ _ _ _ _
        rw [List.replicate_succ']
        exact hown8
      have HB8 := run.hid (run.below_append (HBk.out.alloc (by omega) _) (HO.out.alloc (.cells #[F SEVEN] 34)) hgrow (by simp; omega))
      clear hown8 hgrow hold hstep HO HBk
      go_wp2
      go_roundw
      case rel => exact ⟨k + 1, by omega, by go_num, HO8, HB8⟩
      case measure => simp [intOf]; omega
    · obtain rfl : k = 9 := by omega
      obtain ⟨gL, cL, rfl⟩ := own_some HO.out (by omega)
      obtain ⟨hrm, hrm2⟩ := own_roomF HO.out
      rw [show ((9 : Nat) : Int) = 9 from rfl]
      have HPRE := run.hid (run.own_prefix (n := N) (by rw [List.length_map, ← HN.out, Nat.mul_one]) (by omega) HO.out)
      have HRP := run.hid (run.reads_own HPRE.out)
      have HSPC := run.hid (HSP.out (some ⟨gL, 0, none⟩) cL wr HRP.out (by omega))
      generalize wr = w4 at *
      clear HRP HPRE
      go_wp2_with fail
      refine HSPC.out.mono ?_
      rintro e w5 ⟨rfl, hb5⟩
      have HO5 := run.hid (run.own_below HO.out hb5)
      have HB5 := run.hid (HBk.out.trans (hb5.mono (by omega)))
      have hs5 := HB5.out.size
      clear hb5 HO HBk hrm hrm2 HSPC HSP
      go_wp2
      go_loopw [8] (fun kv wx => ∃ m : Nat, m ≤ N + 9 ∧ kv = .int .i64 m ∧ Hid (Below w5.heap.size w5 wx)) (fun v _ => N + 9 - (intOf v).toNat)
      case atStart => exact ⟨0, Nat.zero_le _, rfl, run.hid (Below.refl _ _)⟩
      case round =>
        obtain ⟨m, hm, rfl, HBw⟩ := hrel
        by_cases hltm : m < N + 9
        · have HLr := run.own_below HO5.out HBw.out
          by_cases hin : m < N
          · have hRx := HRR.out.below (by rw [hs]; exact HB5.out.trans (HBw.out.mono (by omega)))
            rw [HN.out] at hRx
            obtain ⟨b, off, ha, hb, hcm⟩ := reads_at hRx (show m < l.length by rw [← HN.out]; exact hin)
            replace hcm := hcm m (by rw [← HN.out]; exact hin)
            have hcl := (HLr.cellAt m (by omega)).trans (longF_at HN.out.symm hin)
            have HAKm := run.hid (fun w' => HAK.out w' (l.getD m 0))
            rw [HAT.out] at HAKm
            subst ha
            generalize l.getD m 0 = pm at *
            have HAQ : Hid (∀ w', Calls Tryd.prog 26 #[F pm, F pm] w' fun e w'' => e = .returned (.bool true) ∧ w'' = w') := fun w' => (HAKm.out w').mono fun _ _ h => ⟨h.1, h.2.symm⟩
            clear HLr hRx HAKm
            generalize wr = wq at *
            have hni : ¬ N ≤ m := by omega
            go_upto_region 10 with fail
            go_cut [59] (fun c wx => c = .bool false ∧ ∃ n, wx = wq.drewN n)
            case first =>
              refine run.alone (by assumption) (by assumption) ?_
              go_light
              intro _ _ _ _
              go_quiet ((go_at_call 26; exact Calls.quiet_of_same (HAQ.out _)))
              go_wp2
              go_meet
              case rel => exact ⟨rfl, nq, rfl⟩
            obtain ⟨rfl, nq, rfl⟩ := hcut
            have HBy : Hid (Below w5.heap.size w5 (wq.drewN nq)) := run.hid (HBw.out.trans (drewN_below _ _ _))
            clear hcl hcm HAQ HBw
            go_wp2
            go_roundw
            case rel => exact ⟨m + 1, by omega, by go_num, HBy⟩
            case measure => simp [intOf]; omega
          · have hcl : wr.cell? ⟨gL, m, none⟩ = some (.float .f64 4619567317775286272) := (HLr.cellAt m (by omega)).trans (longF_at2 HN.out.symm (by omega) hltm)
            have e1 := neq_sevenF 34
            clear HLr
            generalize wr = wq at *
            have hni : N ≤ m := by omega
            go_upto_region 10 with fail
            go_cut [59] (fun c wx => c = .bool false ∧ ∃ n, wx = wq.drewN n)
            case first =>
              refine run.alone (by assumption) (by assumption) ?_
              go_light
              intro _ _ _ _
              go_quiet (fail)
              go_wp2
              go_meet
              case rel => exact ⟨rfl, nq, rfl⟩
            obtain ⟨rfl, nq, rfl⟩ := hcut
            have HBy : Hid (Below w5.heap.size w5 (wq.drewN nq)) := run.hid (HBw.out.trans (drewN_below _ _ _))
            clear hcl HBw
            go_wp2
            go_roundw
            case rel => exact ⟨m + 1, by omega, by go_num, HBy⟩
            case measure => simp [intOf]; omega
        · obtain rfl : m = N + 9 := by omega
          have HB7 := run.hid (HB5.out.trans (HBw.out.mono (by omega)))
          have HRC := run.hid (HRS.out _ HB7.out)
          generalize wr = w7 at *
          have hs7 := HB7.out.size
          go_wp2_with fail
          refine HRC.out.mono ?_
          rintro e w8 ⟨rfl, hb8⟩
          have HB8 := run.hid (HB7.out.trans (hb8.mono (by omega)))
          have hs8 := HB8.out.size
          have HDz := run.hid (HDW.out.below HB8.out HDL.out)
          clear hb8 HRC
          go_wp2_with fail
          refine (alive_any _ HDz.out).mono ?_
          rintro e w9 ⟨rfl, hb9⟩
          have HB9 := run.hid (HB8.out.trans (hb9.mono (by omega)))
          clear hb9
          go_wp2
          go_ret
          exact ⟨rfl, by rw [hs]; exact HB9.out⟩
end Go.Proofs.YtghbpbaopcibkaaDoor.can
