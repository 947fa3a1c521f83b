/-
  The walk of the document's Spark.
-/
import Derived.Test.YtghbpbaopcibkaaDoorCanFloor
import Derived.Test.YtghbpbaopcibkaaDoorCanRefBar
import Derived.Test.YtghbpbaopcibkaaDoorAlone
namespace Go.Proofs.YtghbpbaopcibkaaDoor.can
open Go.RowKit Go.Proofs Go.Proofs.YtghbpbaopcibkaaDoor.flo
set_option linter.unusedVariables false

def sparkL (L : List Nat) (W k : Nat) : List Int := (List.range k).map (sparkRow L W)
theorem sparkL_succ (L : List Nat) (W k : Nat) : (sparkL L W (k + 1)).map (Value.int .i32) = (sparkL L W k).map (Value.int .i32) ++ [.int .i32 (sparkRow L W k)] := by
  unfold sparkL; rw [List.range_succ, List.map_append, List.map_append]; rfl
theorem sparkL_blank {L : List Nat} {W k : Nat} (h : k < W - L.length) : sparkRow L W k = 32 := by unfold sparkRow; rw [if_pos h]
theorem sparkL_at {L : List Nat} {W k : Nat} : sparkRow L W (W - L.length + k) = sparkC (L.getD k 0) (loT L) (hiT L) := by
  unfold sparkRow; rw [if_neg (by omega), show W - L.length + k - (W - L.length) = k by omega]
theorem info_i32b : (Tryd.prog.info? 21).map (fun i => (i.zero, i.size, i.bytes)) = some (some (.int .i32 0), 1, 4) := by kernel_rfl
def lowK (l : List Nat) (k : Nat) : Nat := (l.take k).foldl lowR PINF
def highK (l : List Nat) (k : Nat) : Nat := (l.take k).foldl highR NINF
theorem lowK_succ {l : List Nat} {k : Nat} (h : k < l.length) : lowK l (k + 1) = lowR (lowK l k) (l.getD k 0) ∧ highK l (k + 1) = highR (highK l k) (l.getD k 0) :=
  ⟨foldl_take_succ _ _ l h, foldl_take_succ _ _ l h⟩
theorem order_inf {x : Nat} (h : rungW D x = D.infRung) : (D.order x 0 == some .gt) = !negW D x := by
  have hx : numW D x = true := by unfold numW; simp; omega
  have h0 : numW D 0 = true := by decide +kernel
  have hk : key D 0 = 0 := by decide +kernel
  rw [order_key D hfD hx h0, hk, cmp_def]
  unfold key sg
  rw [h]
  have h3 : 0 < D.infRung := by decide +kernel
  cases negW D x
  · simp only [Bool.false_eq_true, if_false]
    rw [if_neg (by omega), if_neg (by omega)]; rfl
  · simp only [if_true]
    rw [if_pos (by omega)]; rfl

set_option maxRecDepth 100000 in
set_option maxHeartbeats 8000000 in
theorem refSpark_any (l : List Nat) (a : Option Addr) (cap : Nat) (w0 : Int) (w : World) (hR : run.Reads w (.slice a l.length cap) (l.map F)) (hcap : l.length ≤ cap) (hwf : ∀ v ∈ l, v < 18446744073709551616) (hlen : l.length ≤ 140737488355328) (hw : -9223372036854775808 ≤ w0 ∧ w0 ≤ 9223372036854775807) :
    Calls Tryd.prog 27 #[.slice a l.length cap, .int .i64 w0] w fun e w' => e = .returned (.string (sparkT l w0)) ∧ Below w.heap.size w w' := by
  obtain ⟨i0, hi, hz0, hz1, hz2⟩ := info_parts info_i32b
  obtain ⟨W, hW⟩ : ∃ W : Nat, min (max w0 0) 4096 = (W : Int) := ⟨(min (max w0 0) 4096).toNat, by omega⟩
  have hWb : W ≤ 4096 := by omega
  obtain ⟨L, hL⟩ : ∃ L, L = lastT l W := ⟨_, rfl⟩
  have HE := run.hid (show sparkT l w0 = strOf (sparkL L W W) by unfold sparkT wideT sparkL; rw [hW, Int.toNat_natCast, hL])
  have hLl : L.length ≤ W ∧ L.length = l.length - (l.length - W) := by rw [hL]; unfold lastT; rw [List.length_drop]; omega
  have HRT := run.hid (fun w (h : run.Reads w (.slice a l.length cap) (l.map F)) => run_tail (P := Tryd.prog) w 49 34 Tryd.underlying49 info_f64s a cap (l.map F) (l.length - W) (by rw [List.length_map]; omega) (by rw [List.length_map]; exact hcap) (by rw [List.length_map]; exact h))
  simp only [List.length_map, ← List.map_drop] at HRT
  rw [show l.drop (l.length - W) = L from hL.symm, ← hLl.2] at HRT
  have HRd := run.hid hR
  have HBK : Hid (0 < l.length → ∀ ad, a = some ad → ad.block < w.heap.size) := by
    intro h0 ad e
    obtain ⟨b, off, e2, hb, -⟩ := reads_at hR h0
    rw [e2] at e; cases e; exact hb
  obtain ⟨hn1, hn2⟩ := hLl
  obtain ⟨N, hN⟩ : ∃ N, N = l.length := ⟨_, rfl⟩
  obtain ⟨n, hn⟩ : ∃ n, n = L.length := ⟨_, rfl⟩
  rw [← hN] at hlen hcap hn2 HRT HRd HBK ⊢
  rw [← hn] at hn1 hn2 HRT
  have Hn := run.hid hn
  have HKS := run.hid (keys_same L)
  obtain ⟨P, hP⟩ : ∃ P, P = W - n := ⟨_, rfl⟩
  have hPn : P + n = W := by omega
  have hPN : P = W - N := by omega
  have HB0 := run.hid (fun k (h : k < P) => sparkL_blank (L := L) (W := W) (k := k) (by rw [← hn]; omega))
  have HAT := run.hid (fun k => sparkL_at (L := L) (W := W) (k := k))
  rw [← hn, ← hP] at HAT
  have HSU := run.hid (fun k => sparkL_succ L W k)
  rw [show ((N - W : Nat) : Int) = (N : Int) - n by omega] at HRT
  have HN2 := run.hid hn2
  have HPn := run.hid hPn
  have HPN := run.hid hPN
  have hn3 : n ≤ N := by omega
  have hPW : P ≤ W := by omega
  clear hL hR hwf hN hn hP hn2 hPn hPN
  go_enter Tryd.func27, Tryd.ntmps27
  go_wp2
  clear hW
  generalize hs : w.heap.size = s at *
  go_loopw [5, 6, 7] (fun nv fv lv wr => ∃ j : Nat, j ≤ P ∧ nv = .int .i64 ((W : Int) - j) ∧ fv = .int .i64 ((N : Int) - W + j) ∧ Hid (wr.ownsRow s 21 1 lv j ((sparkL L W j).map (Value.int .i32))) ∧ Hid (Below s w wr)) (fun _ fv _ _ => (-(intOf fv)).toNat)
  case atStart => exact ⟨0, by omega, by simp, by simp, World.ownsRow_nil _ _ _ _, Below.refl _ _⟩
  case round =>
    obtain ⟨j, hj, rfl, rfl, HO, HBj⟩ := hrel
    have hsz := HBj.out.size
    by_cases hlt : j < P
    · have hneg : (N : Int) - W + j < 0 := by have := HPN.out; omega
      have H32 := HB0.out j hlt
      have HX := run.hid (HSU.out j)
      rw [H32] at HX
      clear H32
      go_wp2_with (at_builtin; refine run.wpList_append_any _ rfl _ _ 79 rfl s 21 i0 (.int .i32 0) 1 4 Tryd.underlying79 hi hz0 hz1 hz2 rfl (by decide) _ _ _ rfl (HO.out.alloc _) _ 1 [.int .i32 32] rfl (run.readsN_new wr [.int .i32 32] 1 1 _ rfl) (by intro u hu; simp only [List.mem_singleton] at hu; subst hu; rfl) (by unfold maxLen; omega) (by omega) (by simp; omega) ?_)
      intro v' w2 hown2 hgrow hold hstep
      have HB2 := run.hid (run.below_append (HBj.out.alloc (by omega) _) (HO.out.alloc (.cells #[.int .i32 32] 21)) hgrow (by simp; omega))
      rw [← HX.out] at hown2
      have HO2 := run.hid hown2
      clear hown2 hgrow hold hstep HO HBj HX
      go_wp2
      go_roundw
      case rel => exact ⟨j + 1, by omega, by congr 1; omega, by congr 1; omega, HO2, HB2⟩
      case measure => simp [intOf]; omega
    · obtain rfl : j = P := by omega
      have hpos : ¬ (N : Int) - W + j < 0 := by have := HPN.out; omega
      have HRd1 := run.hid (HRd.out.below (by rw [hs]; exact HBj.out))
      obtain ⟨a', cap', hsl, hRd2, -, hblk⟩ := HRT.out wr HRd1.out
      have HRL := run.hid hRd2
      have HBL := run.hid hblk
      rw [show (W : Int) - (j : Nat) = (n : Int) by have := HPn.out; omega]
      clear hRd2 HRd1 HRT HB0 hlt hblk
      generalize wr = w3 at *
      have HI1 := run.hid (fun w => inf_up w)
      have HI2 := run.hid (fun w => inf_down w)
      go_wp2_with fail
      refine (HI1.out _).mono ?_
      rintro e w4 ⟨rfl, rfl⟩
      go_wp2_with fail
      refine (HI2.out _).mono ?_
      rintro e w4 ⟨rfl, rfl⟩
      clear hsl HI1 HI2
      go_wp2
      have hcw := run.hid (show ∀ k, k < n → ∃ b off, a' = some ⟨b, off, none⟩ ∧ b < s ∧ w3.cell? ⟨b, off + k, none⟩ = some (F (L.getD k 0)) from by
        intro k hk
        have hRx := HRL.out
        rw [Hn.out] at hRx
        obtain ⟨b, off, e, hb, hcl⟩ := reads_at hRx (show k < L.length by rw [← Hn.out]; exact hk)
        obtain ⟨ad, e1, e2⟩ := HBL.out _ e
        have hb2 := HBK.out (by omega) ad e1
        exact ⟨b, off, e, by rw [← hs]; simp only at e2; omega, hcl k (by rw [← Hn.out]; exact hk)⟩)
      have HLK := run.hid (fun k (h : k < n) => lowK_succ (l := L) (k := k) (by rw [← Hn.out]; exact h))
      go_loopw [9, 10, 11] (fun lv hv kv wr => ∃ k : Nat, k ≤ n ∧ kv = .int .i64 k ∧ lv = F (lowK L k) ∧ hv = F (highK L k) ∧ Hid (Below w3.heap.size w3 wr)) (fun _ _ v _ => n - (intOf v).toNat)
      case atStart => exact ⟨0, by omega, rfl, rfl, rfl, Below.refl _ _⟩
      case round =>
        obtain ⟨k, hk, rfl, rfl, rfl, HBk⟩ := hrel
        by_cases hlt2 : k < n
        · obtain ⟨b, off, ha, hb, hc⟩ := hcw.out k hlt2
          have hc1 := (HBk.out.cell (p := ⟨b, off + k, none⟩) (by simp only; omega)).trans hc
          obtain ⟨e1, e2⟩ := HLK.out k hlt2
          have HE1 := run.hid e1
          have HE2 := run.hid e2
          have HFI := run.hid (fun w' => finite_any (L.getD k 0) w')
          have E1 := bin_lss 34 (L.getD k 0) (lowK L k)
          have E2 := bin_gtr 34 (L.getD k 0) (highK L k)
          subst ha
          clear e1 e2 hc
          unfold lowR at HE1
          unfold highR at HE2
          generalize L.getD k 0 = x at *
          generalize (D.order x (lowK L k) == some .lt) = b1 at *
          generalize (D.order x (highK L k) == some .gt) = b2 at *
          generalize finW D x = fb at *
          generalize lowK L k = lo at *
          generalize highK L k = hi' at *
          go_wp2_with fail
          refine (HFI.out _).mono ?_
          rintro e w5 ⟨rfl, nq, rfl⟩
          have HBy := run.hid (HBk.out.trans (drewN_below w3.heap.size wr nq))
          have hc1 : (wr.drewN nq).cell? ⟨b, off + k, none⟩ = some (F x) := hc1
          clear HBk HFI
          generalize wr.drewN nq = wq at *
          cases fb
          · simp only [Bool.false_and, Bool.false_eq_true, if_false] at HE1 HE2
            go_wp2
            go_roundw
            case rel => exact ⟨k + 1, by omega, by go_num, by rw [HE1.out], by rw [HE2.out], HBy⟩
            case measure => simp [intOf]; omega
          · cases b1 <;> cases b2
            all_goals
              simp only [Bool.true_and, Bool.false_eq_true, if_false, if_true] at HE1 HE2
              go_wp2
              go_roundw
              case rel => exact ⟨k + 1, by omega, by go_num, by rw [HE1.out], by rw [HE2.out], HBy⟩
              case measure => simp [intOf]; omega
        · obtain rfl : k = n := by omega
          have HLO : Hid (lowK L k = loR L ∧ highK L k = hiR L) := by
            unfold lowK highK loR hiR
            rw [List.take_of_length_le (Nat.le_of_eq Hn.out.symm)]
            exact ⟨rfl, rfl⟩
          rw [HLO.out.1, HLO.out.2]
          generalize wr = w6 at *
          clear HLO HLK
          have hs6 := HBk.out.size
          have HOB := run.hid (run.own_below HO.out HBk.out)
          have HB6 := run.hid (HBj.out.trans (HBk.out.mono (by omega)))
          clear HO HBj
          have HLW : Hid (∀ i, i < k → L.getD i 0 ∈ L) := by
            intro i hi2
            have : i < L.length := by rw [← Hn.out]; exact hi2
            simp [List.getD_eq_getElem?_getD, this]
          go_wp2
          go_loopw [7, 13] (fun lv kv wr => ∃ k2 : Nat, k2 ≤ k ∧ kv = .int .i64 k2 ∧ Hid (wr.ownsRow s 21 1 lv (j + k2) ((sparkL L W (j + k2)).map (Value.int .i32))) ∧ Hid (Below s w wr)) (fun _ v _ => k - (intOf v).toNat)
          case atStart => exact ⟨0, by omega, rfl, HOB, HB6⟩
          case round =>
            obtain ⟨k2, hk2, rfl, HO2, HBq0⟩ := hrel
            have hszq := HBq0.out.size
            by_cases hlt3 : k2 < k
            · obtain ⟨b, off, ha, hb, hc⟩ := hcw.out k2 hlt3
              have hc6 := (HBk.out.cell (p := ⟨b, off + k2, none⟩) (by simp only; omega)).trans hc
              have hcq := (HBq0.out.cell (p := ⟨b, off + k2, none⟩) hb).trans ((HB6.out.cell (p := ⟨b, off + k2, none⟩) hb).symm.trans hc6)
              have HA := run.hid (HAT.out k2)
              have HM := run.hid (fun (h : finW D (L.getD k2 0) = true) => between (HLW.out k2 hlt3) h)
              have HFI := run.hid (fun w' => finite_any (L.getD k2 0) w')
              have hcs := fin_cases (L.getD k2 0)
              have En := bin_neq 34 (L.getD k2 0) (L.getD k2 0)
              rw [order_self] at En
              have Eg := bin_gtr 34 (L.getD k2 0) 0
              subst ha
              clear hc hc6
              generalize L.getD k2 0 = x at *
              go_wp2_with fail
              refine (HFI.out _).mono ?_
              rintro e w7 ⟨rfl, nq, rfl⟩
              have HBq := run.hid (HBq0.out.trans (drewN_below s wr nq))
              have HOq : Hid ((wr.drewN nq).ownsRow s 21 1 u7 (j + k2) ((sparkL L W (j + k2)).map (Value.int .i32))) := HO2
              have hszq : w.heap.size ≤ (wr.drewN nq).heap.size := hszq
              clear HBq0 HO2 HFI hcq
              generalize wr.drewN nq = wq at *
              rcases hcs with ⟨f1, f2⟩ | ⟨f1, f2, f3⟩ | ⟨f1, f2, f3⟩
              · have HV : Hid (sparkRow L W (j + k2) = 32) := by
                  show _ = _
                  rw [HA.out]; unfold sparkC; rw [if_pos f1]
                rw [f1] at En
                rw [f2]
                clear HA HM Eg f1 f2
                go_wp2_with (at_builtin; refine run.wpList_append_any _ rfl _ _ 79 rfl s 21 i0 (.int .i32 0) 1 4 Tryd.underlying79 hi hz0 hz1 hz2 rfl (by decide) _ _ _ rfl (HOq.out.alloc _) _ 1 [.int .i32 32] rfl (run.readsN_new wq [.int .i32 32] 1 1 _ rfl) (by intro u hu; simp only [List.mem_singleton] at hu; subst hu; rfl) (by unfold maxLen; omega) (by omega) (by simp; omega) ?_)
                intro v' w8 hown2 hgrow hold hstep
                have HB8 := run.hid (run.below_append (HBq.out.alloc (by omega) _) (HOq.out.alloc (.cells #[.int .i32 32] 21)) hgrow (by simp; omega))
                have HO8 : Hid (w8.ownsRow s 21 1 v' (j + (k2 + 1)) ((sparkL L W (j + (k2 + 1))).map (Value.int .i32))) := by
                  show World.ownsRow _ _ _ _ _ _ _
                  rw [← Nat.add_assoc, HSU.out (j + k2), HV.out]
                  exact hown2
                clear hown2 hgrow hold hstep HOq HBq
                go_wp2
                go_roundw
                case rel => exact ⟨k2 + 1, by omega, by go_num, HO8, HB8⟩
                case measure => simp [intOf]; omega
              · have hp : (D.order x 0 == some .gt) = !negW D x := order_inf f2
                rw [hp] at Eg
                rw [f1] at En
                rw [f3]
                have hpi : pinfW x = !negW D x := by unfold pinfW; rw [show (rungW D x == D.infRung) = true by simpa using f2, Bool.true_and]
                have hni : ninfW x = negW D x := by unfold ninfW; rw [show (rungW D x == D.infRung) = true by simpa using f2, Bool.true_and]
                have HV0 : Hid (sparkRow L W (j + k2) = if negW D x = true then 9601 else 9608) := by
                  show _ = _
                  rw [HA.out]; unfold sparkC; rw [if_neg (by rw [f1]; simp), hpi, hni]
                  cases negW D x <;> rfl
                clear HA HM f1 f2 f3 hp hpi hni
                generalize negW D x = ng at *
                cases ng
                · have HV : Hid (sparkRow L W (j + k2) = 9608) := HV0.out
                  clear HV0
                  go_wp2_with (at_builtin; refine run.wpList_append_any _ rfl _ _ 79 rfl s 21 i0 (.int .i32 0) 1 4 Tryd.underlying79 hi hz0 hz1 hz2 rfl (by decide) _ _ _ rfl (HOq.out.alloc _) _ 1 [.int .i32 9608] rfl (run.readsN_new wq [.int .i32 9608] 1 1 _ rfl) (by intro u hu; simp only [List.mem_singleton] at hu; subst hu; rfl) (by unfold maxLen; omega) (by omega) (by simp; omega) ?_)
                  intro v' w8 hown2 hgrow hold hstep
                  have HB8 := run.hid (run.below_append (HBq.out.alloc (by omega) _) (HOq.out.alloc (.cells #[.int .i32 9608] 21)) hgrow (by simp; omega))
                  have HO8 : Hid (w8.ownsRow s 21 1 v' (j + (k2 + 1)) ((sparkL L W (j + (k2 + 1))).map (Value.int .i32))) := by
                    show World.ownsRow _ _ _ _ _ _ _
                    rw [← Nat.add_assoc, HSU.out (j + k2), HV.out]
                    exact hown2
                  clear hown2 hgrow hold hstep HOq HBq
                  go_wp2
                  go_roundw
                  case rel => exact ⟨k2 + 1, by omega, by go_num, HO8, HB8⟩
                  case measure => simp [intOf]; omega
                · have HV : Hid (sparkRow L W (j + k2) = 9601) := HV0.out
                  clear HV0
                  go_wp2_with (at_builtin; refine run.wpList_append_any _ rfl _ _ 79 rfl s 21 i0 (.int .i32 0) 1 4 Tryd.underlying79 hi hz0 hz1 hz2 rfl (by decide) _ _ _ rfl (HOq.out.alloc _) _ 1 [.int .i32 9601] rfl (run.readsN_new wq [.int .i32 9601] 1 1 _ rfl) (by intro u hu; simp only [List.mem_singleton] at hu; subst hu; rfl) (by unfold maxLen; omega) (by omega) (by simp; omega) ?_)
                  intro v' w8 hown2 hgrow hold hstep
                  have HB8 := run.hid (run.below_append (HBq.out.alloc (by omega) _) (HOq.out.alloc (.cells #[.int .i32 9601] 21)) hgrow (by simp; omega))
                  have HO8 : Hid (w8.ownsRow s 21 1 v' (j + (k2 + 1)) ((sparkL L W (j + (k2 + 1))).map (Value.int .i32))) := by
                    show World.ownsRow _ _ _ _ _ _ _
                    rw [← Nat.add_assoc, HSU.out (j + k2), HV.out]
                    exact hown2
                  clear hown2 hgrow hold hstep HOq HBq
                  go_wp2
                  go_roundw
                  case rel => exact ⟨k2 + 1, by omega, by go_num, HO8, HB8⟩
                  case measure => simp [intOf]; omega
              · rw [f1] at En
                rw [f3]
                have hp : pinfW x = false := by unfold pinfW; rw [show (rungW D x == D.infRung) = false by simpa using f2]; rfl
                have hq : ninfW x = false := by unfold ninfW; rw [show (rungW D x == D.infRung) = false by simpa using f2]; rfl
                have HB3 := run.hid (between_keys (HM.out f3) HKS.out.1 HKS.out.2)
                have HVB : Hid (sparkRow L W (j + k2) = 9601 + blockR x (loR L) (hiR L)) := by
                  show _ = _
                  rw [HA.out, block_same (HM.out f3) HKS.out.1 HKS.out.2]; unfold sparkC; rw [if_neg (by rw [f1]; simp), if_neg (by rw [hp]; simp), if_neg (by rw [hq]; simp)]
                clear HA HM f1 f2 f3 hp hq
                have hb3 := HB3.out
                have Eh := bin_quo 34 (div_two hb3.hhi).1
                have El := bin_quo 34 (div_two hb3.hlo).1
                have Ev := bin_quo 34 (div_two hb3.hv).1
                have Ed := bin_sub 34 (halves hb3.hhi hb3.hlo).1
                have Ea := bin_sub 34 (halves hb3.hv hb3.hlo).1
                have Em0 := bin_neq 34 (below (loR L) (hiR L)) 0
                have HE2 := run.hid (fun h => parts hb3 h)
                have HI2 := run.hid (fun h => floor_eighth hb3 h)
                clear hb3
                unfold TWO at Eh El Ev
                change binOp .sub 34 _ _ = pure (F (below (loR L) (hiR L))) at Ed
                by_cases hz : D.order (below (loR L) (hiR L)) 0 = some .eq
                · have HV : Hid (sparkRow L W (j + k2) = 9604) := by show _ = _; rw [HVB.out]; unfold blockR; rw [if_pos hz]; rfl
                  rw [hz] at Em0
                  change binOp .neq 34 _ _ = pure (.bool false) at Em0
                  clear HE2 HI2 HB3 HVB hz Ev Ea
                  unfold TWO at Ed
                  generalize below (loR L) (hiR L) = d at *
                  generalize fdiv (hiR L) 4611686018427387904 = h2 at *
                  generalize fdiv (loR L) 4611686018427387904 = l2 at *
                  go_wp2_with (at_builtin; refine run.wpList_append_any _ rfl _ _ 79 rfl s 21 i0 (.int .i32 0) 1 4 Tryd.underlying79 hi hz0 hz1 hz2 rfl (by decide) _ _ _ rfl (HOq.out.alloc _) _ 1 [.int .i32 9604] rfl (run.readsN_new wq [.int .i32 9604] 1 1 _ rfl) (by intro u hu; simp only [List.mem_singleton] at hu; subst hu; rfl) (by unfold maxLen; omega) (by omega) (by simp; omega) ?_)
                  intro v' w8 hown2 hgrow hold hstep
                  have HB8 := run.hid (run.below_append (HBq.out.alloc (by omega) _) (HOq.out.alloc (.cells #[.int .i32 9604] 21)) hgrow (by simp; omega))
                  have HO8 : Hid (w8.ownsRow s 21 1 v' (j + (k2 + 1)) ((sparkL L W (j + (k2 + 1))).map (Value.int .i32))) := by
                    show World.ownsRow _ _ _ _ _ _ _
                    rw [← Nat.add_assoc, HSU.out (j + k2), HV.out]
                    exact hown2
                  clear hown2 hgrow hold hstep HOq HBq
                  go_wp2
                  go_roundw
                  case rel => exact ⟨k2 + 1, by omega, by go_num, HO8, HB8⟩
                  case measure => simp [intOf]; omega
                · obtain ⟨p1, p2, p3, -, -⟩ := HE2.out hz
                  obtain ⟨i1, i2, i3⟩ := HI2.out hz
                  have Eq := bin_quo 34 p1
                  have Em := bin_mul 34 p2
                  have HFL := run.hid (fun w' => floor_any (eighth x (loR L) (hiR L)) (num_fin p3) w')
                  have Ec := fun w => run_convert_float_int (P := Tryd.prog) w 34 3 .f64 .i64 (floorW (eighth x (loR L) (hiR L))) (toI (eighth x (loR L) (hiR L))) (by rw [Tryd.underlying34]; rfl) Tryd.underlying3 (by
                    unfold floatToIntVal
                    have e : (FloatKind.f64.decode (floorW (eighth x (loR L) (hiR L)))).toInt .zero = some (toI (eighth x (loR L) (hiR L))) := i1
                    rw [e]
                    simp only
                    rw [if_pos]
                    have h1 : IntKind.i64.min = -9223372036854775808 := by decide
                    have h2 : IntKind.i64.max = 9223372036854775807 := by decide
                    omega)
                  have hbn : (D.order (below (loR L) (hiR L)) 0 != some .eq) = true := by simpa using hz
                  rw [hbn] at Em0
                  have ht : toI (floorW (eighth x (loR L) (hiR L))) = toI (eighth x (loR L) (hiR L)) := by
                    conv => lhs; unfold toI
                    rw [i1]; rfl
                  obtain ⟨K, hK⟩ : ∃ K : Int, min (toI (eighth x (loR L) (hiR L))) 7 = K := ⟨_, rfl⟩
                  have hKb : 0 ≤ K ∧ K ≤ 7 := by omega
                  have HV : Hid (sparkRow L W (j + k2) = 9601 + K) := by show _ = _; rw [HVB.out]; unfold blockR; rw [if_neg hz, ht, hK]
                  clear HE2 HI2 HB3 HVB hz p1 p2 p3 i1 i2 i3 hbn ht
                  unfold TWO at Ed Ea Eq
                  unfold EIGHT at Em
                  generalize toI (eighth x (loR L) (hiR L)) = n8 at *
                  generalize floorW (eighth x (loR L) (hiR L)) = fl8 at *
                  generalize eighth x (loR L) (hiR L) = e8 at *
                  generalize flo.part x (loR L) (hiR L) = pt at *
                  generalize below (loR L) (hiR L) = d at *
                  generalize fsub (fdiv x 4611686018427387904) (fdiv (loR L) 4611686018427387904) = aa at *
                  generalize fdiv (hiR L) 4611686018427387904 = h2 at *
                  generalize fdiv (loR L) 4611686018427387904 = l2 at *
                  generalize fdiv x 4611686018427387904 = x2 at *
                  go_wp2_with fail
                  refine (HFL.out _).mono ?_
                  rintro e w9 ⟨rfl, rfl⟩
                  go_wp2_with (at_builtin; refine run.wpList_append_any _ rfl _ _ 79 rfl s 21 i0 (.int .i32 0) 1 4 Tryd.underlying79 hi hz0 hz1 hz2 rfl (by decide) _ _ _ rfl (HOq.out.alloc _) _ 1 [.int .i32 (9601 + K)] rfl (run.readsN_new wq [.int .i32 (9601 + K)] 1 1 _ rfl) (by intro u hu; simp only [List.mem_singleton] at hu; subst hu; rfl) (by unfold maxLen; omega) (by omega) (by simp; omega) ?_)
                  intro v' w8 hown2 hgrow hold hstep
                  have HB8 := run.hid (run.below_append (HBq.out.alloc (by omega) _) (HOq.out.alloc (.cells #[.int .i32 (9601 + K)] 21)) hgrow (by simp; omega))
                  have HO8 : Hid (w8.ownsRow s 21 1 v' (j + (k2 + 1)) ((sparkL L W (j + (k2 + 1))).map (Value.int .i32))) := by
                    show World.ownsRow _ _ _ _ _ _ _
                    rw [← Nat.add_assoc, HSU.out (j + k2), HV.out]
                    exact hown2
                  clear hown2 hgrow hold hstep HOq HBq
                  go_wp2
                  go_roundw
                  case rel => exact ⟨k2 + 1, by omega, by go_num, HO8, HB8⟩
                  case measure => simp [intOf]; omega
            · obtain rfl : k2 = k := by omega
              have hs2 := run_str_own (P := Tryd.prog) 79 9 21 Tryd.underlying79 Tryd.underlying21 Tryd.underlying9 HO2.out
              have HWE := run.hid (show strOf (sparkL L W (j + k2)) = sparkT l w0 by rw [HPn.out, HE.out])
              clear HO2
              go_wp2
              go_ret
              exact ⟨by rw [← HWE.out]; rfl, by rw [hs]; exact HBq0.out⟩
end Go.Proofs.YtghbpbaopcibkaaDoor.can
