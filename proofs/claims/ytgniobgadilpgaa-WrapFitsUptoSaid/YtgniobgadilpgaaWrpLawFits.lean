/-
  The walk of the law WrapFits.
-/
import Derived.Test.YtgniobgadilpgaaWrpFitsPlain
import Derived.Test.YtgniobgadilpgaaWrpSameE
import Derived.Test.YtgniobgadilpgaaWrpLawWakes
import Derived.Deep.DeepCutAuto
namespace Go.Proofs.Ytgniobgadilpgaa.wrp
open Go.RowKit Go.Proofs
open Go.Proofs.Ytgniobgadilpgaa.wid Go.Proofs.Ytgniobgadilpgaa.utf Go.Proofs.Ytgniobgadilpgaa.clu
set_option linter.unusedVariables false

/-- what is added to a width -/
def moreOf (x : Int) : Nat := if x < 0 ∨ 1048576 < x then 0 else x.toNat
theorem linesT_pos (s : ByteArray) (n : Nat) (mode : Int) (h : 1 ≤ n) : linesT s n mode = linesTo n (modeOf mode) (rowsT (flow s)) (rowsT (flow s)).length := by
  unfold linesT; rw [if_neg (by omega), Int.toNat_natCast]
theorem fits_word (s : ByteArray) (k : Nat) : ∀ x ∈ linesT s ((max 1 (leastT s 0) + k : Nat) : Int) 0, x.fin ≠ 3 ∧ x.lost = e0 := by
  rw [linesT_pos _ _ _ (by omega)]
  exact linesTo_word _ (by omega) _ (fun r hr => word_of hr (sp_wide s) (by show leastT s 0 ≤ _; omega)) _ (Nat.le_refl _)
theorem fits_rows (s : ByteArray) (k : Nat) (mode : Int) : linesT s ((max 1 (leastT s 2) + k : Nat) : Int) mode = (List.range (rowsT (flow s)).length).map (rowLine (rowsT (flow s))) := by
  rw [linesT_pos _ _ _ (by omega)]
  exact linesTo_rows _ _ _ (.inr fun r hr => by have := row_wide hr; show wideT r ≤ _; have e : (leastS 2 (flow s)).1 = leastT s 2 := rfl; omega) _ (Nat.le_refl _)
theorem fits_none (s : ByteArray) (k : Nat) : linesT s ((1 + k : Nat) : Int) 2 = (List.range (rowsT (flow s)).length).map (rowLine (rowsT (flow s))) := by
  rw [linesT_pos _ _ _ (by omega)]
  exact linesTo_rows _ _ _ (.inl rfl) _ (Nat.le_refl _)

set_option maxRecDepth 100000 in
set_option maxHeartbeats 4000000 in
theorem lawFits_any (s : ByteArray) (more mode : Int) (w : World) (hs : s.size ≤ 1048576) : Calls Try.prog 9 #[.string s, .int .i64 more, .int .i8 mode] w fun e w' => e = .returned (.bool true) ∧ Below w.heap.size w w' := by
  have HK := run.hid (fun w => wakes_any w)
  have H0 := run.hid (fun w => least_any s 0 w (by omega))
  have H1 := run.hid (fun w => least_any s 1 w (by omega))
  have H2 := run.hid (fun w => least_any s 2 w (by omega))
  have HM := run.hid (fun w => most_any s w (by omega))
  have HF := run.hid (fun w => flow_any s w (by omega))
  have HLA := run.hid (fun k w => lines_any s ((max 1 (leastT s 0) + k : Nat) : Int) 0 w (by omega))
  have HLB := run.hid (fun k w => lines_any s ((max 1 (leastT s 2) + k : Nat) : Int) mode w (by omega))
  have HLC := run.hid (fun k w => lines_any s ((1 + k : Nat) : Int) 2 w (by omega))
  have h10 : leastT s 1 ≤ leastT s 0 := least_10 (flow s) (0, 0) (0, 0) (Nat.le_refl _)
  have h02 : leastT s 0 ≤ leastT s 2 := least_02 (flow s) (0, 0) (0, 0) (Nat.le_refl _) (Nat.le_refl _)
  have hfl : (flow s).length ≤ 4194304 := by have := flow_len s; omega
  have h2b : leastT s 2 ≤ 8388608 := by
    have h := (leastS_le (mode := 2) (flow_ok s) (flow s).length (Nat.le_refl _)).1
    rw [List.take_of_length_le (Nat.le_refl _)] at h
    have e : (leastS 2 (flow s)).1 = leastT s 2 := rfl
    omega
  have hFW := fits_word s
  have hcnt := rowsT_count (flow s)
  have HFT := run.hid (fun i => @feeds_take (flow s) i)
  have HFE : Hid (feeds ((flow s).take (flow s).length) = feeds (flow s)) := by show _ = _; rw [List.take_of_length_le (Nat.le_refl _)]
  have HF0 : Hid (feeds ((flow s).take 0) = 0) := by show _ = _; simp [feeds]
  have hLw : ∀ k, (linesT s ((max 1 (leastT s 0) + k : Nat) : Int) 0).length ≤ 4194305 := fun k => by
    rw [linesT_pos _ _ _ (by omega)]
    have h2 := linesTo_len (max 1 (leastT s 0) + k) (modeOf 0) (rowsT (flow s)) _ (Nat.le_refl _)
    have h3 := weigh_take (rowsT (flow s)) (rowsT (flow s)).length
    have h4 := rowsT_weigh (flow s)
    omega
  have hRB := fun k => fits_rows s k mode
  have hRC := fits_none s
  have hrl := rowsT_len (flow s)
  have HRF := run.hid (fun i (hi : i < ((List.range (rowsT (flow s)).length).map (rowLine (rowsT (flow s)))).length) => show (((List.range (rowsT (flow s)).length).map (rowLine (rowsT (flow s)))).getD i ⟨e0, 0, 0, e0⟩).fin ≤ 1 ∧ (((List.range (rowsT (flow s)).length).map (rowLine (rowsT (flow s)))).getD i ⟨e0, 0, 0, e0⟩).lost = e0 from by
    have e : ((List.range (rowsT (flow s)).length).map (rowLine (rowsT (flow s)))).getD i ⟨e0, 0, 0, e0⟩ = rowLine (rowsT (flow s)) i := by
      simp only [List.length_map, List.length_range] at hi
      simp [List.getD_eq_getElem?_getD, hi]
    rw [e]
    exact ⟨by show finOf _ _ ≤ 1; unfold finOf; split <;> omega, rfl⟩)
  have hRLl : ((List.range (rowsT (flow s)).length).map (rowLine (rowsT (flow s)))).length = (if (flow s).length = 0 then 0 else feeds (flow s) + 1) := by rw [List.length_map, List.length_range, hcnt]
  rw [hcnt] at hrl
  have HRB := run.hid (fun k w => by have h := HLB.out k w; rw [hRB k] at h; exact h)
  have HRC := run.hid (fun k w => by have h := HLC.out k w; rw [hRC k] at h; exact h)
  generalize (List.range (rowsT (flow s)).length).map (rowLine (rowsT (flow s))) = RL at *
  obtain ⟨k, hk⟩ : ∃ k, moreOf more = k := ⟨_, rfl⟩
  have hk2 : k ≤ 1048576 := by rw [← hk]; unfold moreOf; split <;> omega
  obtain ⟨LA, hLA⟩ : ∃ LA, linesT s ((max 1 (leastT s 0) + k : Nat) : Int) 0 = LA := ⟨_, rfl⟩
  have HA := run.hid (fun w => by have h := HLA.out k w; rw [hLA] at h; rw [Int.natCast_add] at h; exact h)
  have HB := run.hid (fun w => by have h := HRB.out k w; rw [Int.natCast_add] at h; exact h)
  have HC := run.hid (fun w => by have h := HRC.out k w; rw [Int.natCast_add] at h; exact h)
  have HFA := run.hid (by have h := hFW k; rw [hLA] at h; exact h)
  have hla := hLw k
  rw [hLA] at hla
  clear hFW hLw hRB hRC HLA HLB HLC HRB HRC hcnt hLA
  obtain ⟨ma, hma⟩ : ∃ ma, max 1 (leastT s 0) = ma := ⟨_, rfl⟩
  obtain ⟨mb, hmb⟩ : ∃ mb, max 1 (leastT s 2) = mb := ⟨_, rfl⟩
  rw [hma] at HA
  rw [hmb] at HB
  have hmaI : max (1 : Int) ((leastT s 0 : Nat) : Int) = (ma : Int) := by omega
  have hmbI : max (1 : Int) ((leastT s 2 : Nat) : Int) = (mb : Int) := by omega
  have hmal : ma ≤ 8388609 := by omega
  have hmbl : mb ≤ 8388609 := by omega
  generalize leastT s 0 = la at *
  generalize leastT s 1 = lc at *
  generalize leastT s 2 = lb at *
  generalize flow s = X at *
  have HRLL := run.hid hRLl
  clear hma hmb hRLl
  generalize hN : X.length = N at *
  go_enter Try.func9, Try.ntmps9
  go_wp2_with fail
  refine (H0.out _).mono ?_
  rintro e w1 ⟨rfl, hb1⟩
  go_wp2_with fail
  refine (HM.out _).mono ?_
  rintro e w2 ⟨rfl, hb2⟩
  replace hb2 := hb1.trans (hb2.mono hb1.size)
  go_wp2_with fail
  refine (H1.out _).mono ?_
  rintro e w3 ⟨rfl, hb3⟩
  replace hb3 := hb2.trans (hb3.mono hb2.size)
  go_wp2_with fail
  refine (H2.out _).mono ?_
  rintro e w4 ⟨rfl, hb4⟩
  replace hb4 := hb3.trans (hb4.mono hb3.size)
  go_wp2_with fail
  refine (H1.out _).mono ?_
  rintro e w5 ⟨rfl, hb5⟩
  replace hb5 := hb4.trans (hb5.mono hb4.size)
  clear H0 H1 H2 HM hb1 hb2 hb3 hb4
  obtain ⟨j, hj⟩ : ∃ j : Bool, decide (more < 0 ∨ 1048576 < more) = j := ⟨_, rfl⟩
  go_upto_region 5 with fail
  go_cut [46] (fun c wx => c = .bool j ∧ wx = w5)
  case first =>
    by_cases ha : more < 0
    · have e : j = true := by rw [← hj, decide_eq_true_iff]; omega
      subst e
      clear hj hk
      go_wp2
      go_meet
      exact ⟨rfl, rfl⟩
    · by_cases hb : 1048576 < more
      · have e : j = true := by rw [← hj, decide_eq_true_iff]; omega
        subst e
        clear hj hk
        go_wp2
        go_meet
        exact ⟨rfl, rfl⟩
      · have e : j = false := by rw [← hj, decide_eq_false_iff_not]; omega
        subst e
        clear hj hk
        go_wp2
        go_meet
        exact ⟨rfl, rfl⟩
  obtain ⟨rfl, hww⟩ := hcut
  replace hww := hww.symm
  subst hww
  go_upto_if 46 with fail
  go_cut [1] (fun c wx => c = .int .i64 k ∧ wx = w5)
  case first =>
    cases j with
    | true =>
      have e : k = 0 := by rw [← hk]; unfold moreOf; rw [if_pos (of_decide_eq_true hj)]
      subst e
      clear hj hk
      go_wp2
      go_meet
      exact ⟨rfl, rfl⟩
    | false =>
      have e : more = k := by rw [← hk]; unfold moreOf; have := of_decide_eq_false hj; rw [if_neg this]; omega
      have EM := run.hid e
      clear hj hk e
      go_wp2
      go_meet
      exact ⟨congrArg _ EM.out, rfl⟩
  obtain ⟨rfl, hww⟩ := hcut
  replace hww := hww.symm
  subst hww
  clear hj hk
  go_wp2_with fail
  refine (HF.out _).mono ?_
  rintro e w6 ⟨v6, rfl, hown6, hb6⟩
  have d6 := hb5.trans (hb6.mono hb5.size)
  rw [← hN] at hown6
  obtain ⟨a6, c6, rfl, -, hcell⟩ := rs_own hown6
  rw [hN] at hcell
  have HCE := run.hid hcell
  clear hown6 hcell hb6 HF
  obtain ⟨q, hq⟩ : ∃ q : Nat, (if N = 0 then 0 else 1) = q := ⟨_, rfl⟩
  have HLN : Hid (RL.length = q + feeds X) := by
    show _ = _
    rw [HRLL.out, ← hq]
    split
    · rename_i h0
      have : X = [] := List.length_eq_zero_iff.1 (hN.trans h0)
      rw [this]; rfl
    · omega
  have hq1 : q ≤ 1 := by rw [← hq]; split <;> omega
  rw [hN]
  go_upto_if 51 with fail
  go_cut [9] (fun c wx => c = .int .i64 q ∧ wx = w6)
  case first =>
    by_cases h0 : N = 0
    · have e : q = 0 := by rw [← hq, if_pos h0]
      subst e h0
      clear hq
      go_wp2
      go_meet
      exact ⟨rfl, rfl⟩
    · have e : q = 1 := by rw [← hq, if_neg h0]
      subst e
      have h1 : (0 : Int) < (N : Int) := by omega
      clear hq
      go_wp2
      go_meet
      exact ⟨rfl, rfl⟩
  obtain ⟨rfl, hww⟩ := hcut
  replace hww := hww.symm
  subst hww
  clear hq HRLL
  have hs6 := d6.size
  go_wp2
  go_loopw [9, 11] (fun vr vi wr => ∃ i : Nat, i ≤ N ∧ vi = .int .i64 i ∧ vr = .int .i64 ((q + feeds (X.take i) : Nat) : Int) ∧ Below w6.heap.size w6 wr ∧ feeds (X.take i) ≤ i) (fun _ vi _ => ((N : Int) - intOf vi).toNat)
  case atStart => exact ⟨0, by omega, rfl, by rw [HF0.out]; rfl, Below.refl _ _, by rw [HF0.out]; omega⟩
  case round =>
    obtain ⟨i, hi, rfl, rfl, hbel, hfi⟩ := hrel
    by_cases hlt : i < N
    · obtain ⟨b1, o1, rfl, hlb1, hx0, -⟩ := HCE.out i hlt
      replace hx0 := (hbel.cell (p := ⟨b1, o1 + i * 2, none⟩) hlb1).trans hx0
      have HTi := run.hid (HFT.out i hlt)
      generalize X.getD i t0 = qq at *
      obtain ⟨qs, qw⟩ := qq
      dsimp only at hx0 HTi
      have hbeq := nl_eq qs
      generalize feeds (X.take i) = sm at *
      clear HCE HFT HFE HF0 HLN HA HB HC HRF HFA HK hN
      by_cases h9 : qs = nl
      · have HTj := run.hid (HTi.out.trans (congrArg (sm + ·) (if_pos h9)))
        rw [decide_eq_true h9] at hbeq
        clear HTi h9
        go_wp2
        go_roundw
        case rel => exact ⟨i + 1, by omega, by go_num, by rw [HTj.out]; go_num, hbel, by rw [HTj.out]; omega⟩
        case measure => simp [intOf]; omega
      · have HTj := run.hid (HTi.out.trans (congrArg (sm + ·) (if_neg h9)))
        rw [decide_eq_false h9] at hbeq
        clear HTi h9
        go_wp2
        go_roundw
        case rel => exact ⟨i + 1, by omega, by go_num, by rw [HTj.out]; rfl, hbel, by rw [HTj.out]; omega⟩
        case measure => simp [intOf]; omega
    · obtain rfl : i = N := by omega
      rw [HFE.out] at hfi ⊢
      have c7 := d6.trans (hbel.mono hs6)
      generalize feeds X = fx at *
      clear HCE HFT HFE HF0 hlt hN hbel d6
      go_wp2_with fail
      refine (HA.out _).mono ?_
      rintro e w8 ⟨v8, rfl, hown8, hb8⟩
      have c8 := c7.trans (hb8.mono c7.size)
      obtain ⟨a8, k8, rfl, hr8⟩ := rls_own hown8
      have HR8 := run.hid hr8
      have HFA2 := run.hid (fun j (hj : j < LA.length) => show (LA.getD j ⟨e0, 0, 0, e0⟩).fin ≠ 3 ∧ (LA.getD j ⟨e0, 0, 0, e0⟩).lost = e0 from HFA.out _ (getD_mem _ hj))
      clear hown8 hb8 hr8 HA HFA c7
      generalize hNA : LA.length = NA at *
      go_wp2
      generalize wr = wz at *
      go_loop [13] (fun vi => ∃ j : Nat, j ≤ NA ∧ vi = .int .i64 j) (fun vi => ((NA : Int) - intOf vi).toNat)
      case atStart => exact ⟨0, by omega, rfl⟩
      case round =>
        obtain ⟨j, hj, rfl⟩ := hrel
        by_cases hlt : j < NA
        · obtain ⟨b1, o1, rfl, -, -, -, x2, x3⟩ := HR8.out j hlt
          obtain ⟨hf, hl⟩ := HFA2.out j hlt
          generalize LA.getD j ⟨e0, 0, 0, e0⟩ = ln at *
          obtain ⟨tt, tw, tf, tl⟩ := ln
          dsimp only at x2 x3 hf hl
          subst hl
          unfold e0 at x3
          have h3 : ((tf : Int) == 3) = false := by rw [beq_eq_false_iff_ne]; omega
          clear HR8 HFA2 hf hNA HB HC HRF HLN
          go_wp2
          go_round
          case rel => exact ⟨j + 1, by omega, by go_num⟩
          case measure => simp [intOf]; omega
        · obtain rfl : j = NA := by omega
          clear HR8 HFA2 hlt hNA
          go_wp2_with fail
          refine (HB.out _).mono ?_
          rintro e w9 ⟨v9, rfl, hown9, hb9⟩
          have c9 := c8.trans (hb9.mono c8.size)
          have R9 := run.hid (rls_own hown9)
          clear hown9 hb9 HB c8
          go_wp2_with fail
          refine (HC.out _).mono ?_
          rintro e w10 ⟨v10, rfl, hown10, hb10⟩
          have c10 := c9.trans (hb10.mono c9.size)
          have R10 := run.hid (rls_own hown10)
          have R9' := run.hid (R9.out.below hb10)
          obtain ⟨a9, k9, rfl, -⟩ := R9'.out
          obtain ⟨a10, k10, rfl, -⟩ := R10.out
          have hbd : RL.length ≤ 1099511627776 := by rw [HLN.out]; omega
          have HS := run.hid (sameLines_eq _ _ RL w10 R9'.out R10.out hbd)
          obtain ⟨M, hM⟩ : ∃ M, RL.length = M := ⟨_, rfl⟩
          have HMQ : Hid (M = q + fx) := hM.symm.trans HLN.out
          rw [hM] at HS
          rw [hM]
          have hMM := HMQ.out
          subst hMM
          have HR9 := run.hid R9'
          clear hown10 hb10 HC R9 c9 R10 hbd HLN HMQ
          go_wp2_with fail
          refine HS.out.mono ?_
          rintro e w11 ⟨rfl, hb11⟩
          have c11 := c10.trans (hb11.mono c10.size)
          obtain ⟨a9', k9', e9, hr9⟩ := (R9'.out.below hb11)
          rw [hM] at e9
          simp only [Value.slice.injEq] at e9
          obtain ⟨rfl, -, rfl⟩ := e9
          have HR11 := run.hid hr9
          clear hr9 R9' HR9 HS hb11 c10
          rw [hM] at HR11 HRF
          have HCL := run.hid (fun j (hj : j < q + fx) => HR11.out j hj)
          have HRF2 := run.hid (fun j (hj : j < q + fx) => HRF.out j hj)
          clear HR11 HRF hM
          obtain ⟨P, hP⟩ : ∃ P, q + fx = P := ⟨_, rfl⟩
          rw [hP] at HCL HRF2
          have hPI : (q : Int) + (fx : Int) = (P : Int) := by omega
          have hPl : P ≤ 4194305 := by omega
          clear hP
          go_wp2
          go_loop [16] (fun vi => ∃ j : Nat, j ≤ P ∧ vi = .int .i64 j) (fun vi => ((P : Int) - intOf vi).toNat)
          case atStart => exact ⟨0, by omega, rfl⟩
          case round =>
            obtain ⟨j, hj, rfl⟩ := hrel
            by_cases hlt : j < P
            · obtain ⟨b1, o1, rfl, -, -, -, x2, x3⟩ := HCL.out j hlt
              obtain ⟨hf, hl⟩ := HRF2.out j hlt
              generalize RL.getD j ⟨e0, 0, 0, e0⟩ = ln at *
              obtain ⟨tt, tw, tf, tl⟩ := ln
              dsimp only at x2 x3 hf hl
              subst hl
              unfold e0 at x3
              have h3 : ((tf : Nat) : Int) ≤ 1 := by omega
              have hltI : (j : Int) < (P : Int) := by omega
              clear HCL HRF2 hf
              go_wp2
              go_round
              case rel => exact ⟨j + 1, by omega, by go_num⟩
              case measure => simp [intOf]; omega
            · obtain rfl : j = P := by omega
              clear HCL HRF2 hlt
              go_wp2_with fail
              refine (HK.out _).mono ?_
              rintro e w12 ⟨rfl, hb12⟩
              have c12 := c11.trans (hb12.mono c11.size)
              go_wp2
              go_ret
              exact ⟨rfl, c12⟩

end Go.Proofs.Ytgniobgadilpgaa.wrp
