/-
  The walks of the layer cluster: how many characters the first cluster has, and its width.
-/
import Derived.Test.YtgpgbbbcodnieaaWidCells
import Derived.Test.YtgpgbbbcodnieaaUtfUse
import Derived.Test.YtgpgbbbcodnieaaCluPlain
import Derived.Deep.DeepCutAuto
import Derived.WalkMore
namespace Go.Proofs.Ytgpgbbbcodnieaa.clu
open Go.RowKit Go.Proofs
open Go.Proofs.Ytgpgbbbcodnieaa.wid Go.Proofs.Ytgpgbbbcodnieaa.utf
set_option linter.unusedVariables false

theorem count_one {l : List Int} (h : kind (l.getD 0 0) = 1) : count l = 1 ∧ wide l = 0 := by unfold count wide; rw [if_pos h, if_pos h]; exact ⟨rfl, rfl⟩
theorem count_more {l : List Int} (h : kind (l.getD 0 0) ≠ 1) : count l = growFrom (kind (l.getD 0 0)) l (start l) := by unfold count; rw [if_neg h]
theorem wide_more {l : List Int} (h : kind (l.getD 0 0) ≠ 1) : wide l = if vary l then 2 else if pair l then 2 else cellsAt (l.getD 0 0) := by
  unfold wide
  rw [if_neg h]
  cases pair l <;> cases vary l <;> rfl
theorem start_of (l : List Int) : start l = if pair l then 2 else 1 := rfl
theorem picture_of (b : Nat) : picture b = (decide (b = 7) || decide (b = 8)) := rfl

theorem bool_of {a : Bool} {P : Prop} [Decidable P] (h : a = true ↔ P) : a = decide P := by
  rw [Bool.eq_iff_iff, h]; simp

set_option maxHeartbeats 400000 in
theorem picture_any (k : Nat) (w : World) : Calls Try.prog 78 #[.int .i8 k] w fun e w' => e = .returned (.bool (picture k)) ∧ w' = w := by
  go_enter Try.func78, Try.ntmps78
  go_wp2
  all_goals
    go_ret
    refine ⟨congrArg (fun b => Ending.returned (Value.bool b)) ?_, rfl⟩
    rw [picture_of, Bool.eq_iff_iff]
    simp
    omega

/-- what is told of the next one's class -/
theorem takes_1 {b : Nat} {a n : Int} (h : kind n = 2 ∨ kind n = 3 ∨ kind n = 4) : takes b a n = true := by unfold takes; rw [if_pos h]
theorem takes_2 {b : Nat} {a n : Int} (h : kind n = 5) : takes b a n = picture b := by unfold takes; rw [if_neg (by omega), if_pos h]
theorem takes_3 {b : Nat} {a n : Int} (h : kind n = 7 ∨ kind n = 8) : takes b a n = (picture b && decide (kind a = 3)) := by unfold takes; rw [if_neg (by omega), if_neg (by omega), if_pos h]
theorem takes_4 {b : Nat} {a n : Int} (h : ¬ (kind n = 2 ∨ kind n = 3 ∨ kind n = 4) ∧ kind n ≠ 5 ∧ ¬ (kind n = 7 ∨ kind n = 8)) : takes b a n = false := by unfold takes; rw [if_neg h.1, if_neg h.2.1, if_neg h.2.2]

def Len (l : List Int) (w : World) (e : Ending) (w' : World) : Prop := e = .returned (.tuple #[.int .i64 (count l), .int .i64 (wide l)]) ∧ Below w.heap.size w w'

set_option maxRecDepth 100000 in
set_option maxHeartbeats 4000000 in
theorem length_any (v : Value) (l : List Int) (w : World) (hl : l ≠ []) (hlen : l.length ≤ 35184372088832) (hv : run.Reads w v (rv l)) : Calls Try.prog 76 #[v] w (Len l w) := by
  obtain ⟨b, off, cap, rfl, hb, hc⟩ := reads_get hv (by intro e; exact hl (List.map_eq_nil_iff.1 e))
  rw [rv_length]
  have HC : Hid (∀ i, i < l.length → w.cell? ⟨b, off + i, none⟩ = some (.int .i32 (l.getD i 0))) := run.hid (fun i hi => hc i _ (rv_get hi))
  have h0 : 0 < l.length := List.length_pos_iff.2 hl
  have hc0 : w.cell? ⟨b, off, none⟩ = some (.int .i32 (l.getD 0 0)) := HC.out 0 h0
  clear hc hv
  have HF1 : Hid (kind (l.getD 0 0) = 1 → count l = 1 ∧ wide l = 0) := run.hid count_one
  have HF2 : Hid (kind (l.getD 0 0) ≠ 1 → count l = growFrom (kind (l.getD 0 0)) l (start l)) := run.hid count_more
  have HF3 : Hid (kind (l.getD 0 0) ≠ 1 → wide l = if vary l then 2 else if pair l then 2 else cellsAt (l.getD 0 0)) := run.hid wide_more
  have HP : Hid (pair l = true ↔ kind (l.getD 0 0) = 6 ∧ 1 < l.length ∧ kind (l.getD 1 0) = 6) := run.hid pair_iff
  have HV : Hid (vary l = true ↔ kind (l.getD 0 0) = 8 ∧ 1 < l.length ∧ l.getD 1 0 = 0xfe0f) := run.hid vary_iff
  have hkl := kind_le (l.getD 0 0)
  generalize l.getD 0 0 = r0 at *
  have HN : Hid (∀ b n, n < l.length → n < 16 → takes b (l.getD (n - 1) 0) (l.getD n 0) = true → growFrom b l n = growFrom b l (n + 1)) := run.hid (fun b n => grow_step)
  have HM : Hid (∀ b n, ¬ (n < l.length ∧ n < 16) → growFrom b l n = n) := run.hid (fun b n => grow_end)
  have HS : Hid (∀ b n, takes b (l.getD (n - 1) 0) (l.getD n 0) = false → growFrom b l n = n) := run.hid (fun b n => grow_stop)
  obtain ⟨hs1, hs2, hs3⟩ := start_bounds l hl
  clear hl
  generalize l.length = N at *
  go_enter Try.func76, Try.ntmps76
  go_wp2
  go_step3
  go_wp2_with fail
  refine (kind_any r0 w).mono ?_
  generalize kind r0 = k0 at *
  rintro e w1 ⟨rfl, hb1⟩
  by_cases h1 : k0 = 1
  · subst h1
    obtain ⟨e1, e2⟩ := HF1.out rfl
    have E := run.hid (And.intro e1 e2)
    clear e1 e2
    go_wp2
    try rw [Exit.noGoto_ret]
    go_ret2
    unfold Len
    rw [E.out.1, E.out.2]
    exact ⟨rfl, hb1⟩
  · have E2 := run.hid (HF2.out h1)
    have E3 := run.hid (HF3.out h1)
    have hc1 := (hb1.cell (p := ⟨b, off, none⟩) hb).trans hc0
    clear HF1 HF2 HF3 hc0
    go_wp2_with fail
    refine (of_any r0 w1).mono ?_
    generalize cellsAt r0 = c0 at *
    rintro e w2 ⟨rfl, hb2⟩
    have hB := hb1.trans (hb2.mono hb1.size)
    clear hb1 hb2 hc1
    go_upto_region 5 with fail
    go_cut [30] (fun c wx => c = .bool (pair l) ∧ Below w.heap.size w wx)
    case first =>
      by_cases h6 : k0 = 6
      · subst h6
        by_cases h2 : 1 < N
        · have hc1 := (hB.cell (p := ⟨b, off + 1, none⟩) hb).trans (HC.out 1 h2)
          generalize l.getD 1 0 = r1 at *
          go_wp2_with fail
          refine (kind_any r1 _).mono ?_
          generalize kind r1 = k1 at *
          rintro e w3 ⟨rfl, hb3⟩
          have hB3 := hB.trans (hb3.mono hB.size)
          have HE : Hid (pair l = decide (k1 = 6)) := run.hid (by rw [Bool.eq_iff_iff, HP.out]; simp [h2])
          by_cases h3 : k1 = 6
          · subst h3
            go_wp2
            go_meet
            exact ⟨by rw [HE.out]; rfl, hB3⟩
          · go_wp2
            go_meet
            exact ⟨by rw [HE.out, decide_eq_false h3]; exact congrArg Value.bool (by simp; omega), hB3⟩
        · have HE : Hid (pair l = false) := run.hid (by rw [← Bool.not_eq_true, HP.out]; exact fun h => h2 h.2.1)
          go_wp2
          go_meet
          exact ⟨by rw [HE.out], hB⟩
      · have HE : Hid (pair l = false) := run.hid (by rw [← Bool.not_eq_true, HP.out]; exact fun h => h6 h.1)
        go_wp2
        go_meet
        exact ⟨by rw [HE.out], hB⟩
    case rest =>
      obtain ⟨rfl, hBc⟩ := hcut
      clear hB HP
      have HST := run.hid (start_of l)
      generalize pair l = pr at *
      go_upto_if 30 with fail
      go_cut [5, 6] (fun n c wx => n = .int .i64 (start l) ∧ c = .int .i64 (if pr then 2 else c0 : Nat) ∧ Below w.heap.size w wx)
      case first =>
        cases pr with
        | true =>
          go_wp2
          go_meet
          exact ⟨by rw [HST.out]; rfl, rfl, hBc⟩
        | false =>
          go_wp2
          go_meet
          exact ⟨by rw [HST.out]; rfl, rfl, hBc⟩
      case rest =>
        obtain ⟨rfl, rfl, hBd⟩ := hcut
        clear hBc HST
        generalize start l = n0 at *
        generalize (if pr = true then 2 else c0) = c1 at *
        go_upto_region 7 with fail
        go_cut [43] (fun c wx => c = .bool (vary l) ∧ Below w.heap.size w wx)
        case first =>
          by_cases h8 : k0 = 8
          · subst h8
            by_cases h2 : 1 < N
            · have hc1 := (hBd.cell (p := ⟨b, off + 1, none⟩) hb).trans (HC.out 1 h2)
              generalize l.getD 1 0 = r1 at *
              have HE : Hid (vary l = decide (r1 = 0xfe0f)) := run.hid (by rw [Bool.eq_iff_iff, HV.out]; simp [h2])
              by_cases h3 : r1 = 0xfe0f
              · subst h3
                go_wp2
                go_meet
                exact ⟨by rw [HE.out]; rfl, hBd⟩
              · go_wp2
                go_meet
                exact ⟨by rw [HE.out, decide_eq_false h3]; exact congrArg Value.bool (by simp; omega), hBd⟩
            · have HE : Hid (vary l = false) := run.hid (by rw [← Bool.not_eq_true, HV.out]; exact fun h => h2 h.2.1)
              go_wp2
              go_meet
              exact ⟨by rw [HE.out], hBd⟩
          · have HE : Hid (vary l = false) := run.hid (by rw [← Bool.not_eq_true, HV.out]; exact fun h => h8 h.1)
            go_wp2
            go_meet
            exact ⟨by rw [HE.out], hBd⟩
        case rest =>
          obtain ⟨rfl, hBe⟩ := hcut
          clear hBd HV
          generalize vary l = va at *
          go_upto_if 43 with fail
          go_cut [6] (fun c wx => c = .int .i64 (wide l) ∧ Below w.heap.size w wx)
          case first =>
            cases va with
            | true =>
              go_wp2
              go_meet
              exact ⟨by rw [E3.out]; rfl, hBe⟩
            | false =>
              go_wp2
              go_meet
              exact ⟨by rw [E3.out]; rfl, hBe⟩
          case rest =>
            obtain ⟨rfl, hBf⟩ := hcut
            clear hBe E3
            go_wp2
            go_step3
            go_wp2
            have HW := run.hid (show ((wide l : Nat) : Int) = ((wide l : Nat) : Int) from rfl)
            generalize hwl : wide l = wl at *
            have HWL := run.hid hwl
            clear hwl HW
            go_loopw [5] (fun vn wr => ∃ m : Nat, m + 1 ≤ N ∧ m + 1 ≤ 16 ∧ vn = .int .i64 (m + 1 : Nat) ∧ Below w.heap.size w wr ∧ Hid (count l = growFrom k0 l (m + 1))) (fun vn _ => (16 - intOf vn).toNat)
            case atStart =>
              obtain ⟨m, rfl⟩ : ∃ m, n0 = m + 1 := ⟨n0 - 1, by omega⟩
              exact ⟨m, by omega, by omega, rfl, hBf, E2⟩
            case round =>
              clear E2 hBf hs1 hs2 hs3
              obtain ⟨m, hnN, hn16, rfl, hbel, HG⟩ := hrel
              by_cases hlt : m + 1 < N
              · by_cases h16 : m + 1 < 16
                · have HX : Hid (takes k0 (l.getD m 0) (l.getD (m + 1) 0) = true → count l = growFrom k0 l (m + 1 + 1)) := run.hid (fun h => HG.out.trans (HN.out k0 (m + 1) hlt h16 h))
                  have HY : Hid (takes k0 (l.getD m 0) (l.getD (m + 1) 0) = false → count l = m + 1) := run.hid (fun h => HG.out.trans (HS.out k0 (m + 1) h))
                  have hcn := (hbel.cell (p := ⟨b, off + (m + 1), none⟩) hb).trans (HC.out (m + 1) hlt)
                  clear HG
                  generalize l.getD (m + 1) 0 = rn at *
                  have hcp := HC.out m (by omega)
                  generalize l.getD m 0 = rp at *
                  have HCP := run.hid hcp
                  clear hcp
                  have T1 : Hid (kind rn = 2 ∨ kind rn = 3 ∨ kind rn = 4 → takes k0 rp rn = true) := run.hid takes_1
                  have T2 : Hid (kind rn = 5 → takes k0 rp rn = picture k0) := run.hid takes_2
                  have T3 : Hid (kind rn = 7 ∨ kind rn = 8 → takes k0 rp rn = (picture k0 && decide (kind rp = 3))) := run.hid takes_3
                  have T4 : Hid (¬ (kind rn = 2 ∨ kind rn = 3 ∨ kind rn = 4) ∧ kind rn ≠ 5 ∧ ¬ (kind rn = 7 ∨ kind rn = 8) → takes k0 rp rn = false) := run.hid takes_4
                  go_wp2_with fail
                  refine (kind_any rn wr).mono ?_
                  rintro e w3 ⟨rfl, hb3⟩
                  generalize kind rn = kn at *
                  have hB3 := hbel.trans (hb3.mono hbel.size)
                  clear hcn
                  by_cases c1 : kn = 2 ∨ kn = 3 ∨ kn = 4
                  · have HG := run.hid (HX.out (T1.out c1))
                    clear T1 T2 T3 T4 HX HY
                    rcases c1 with rfl | rfl | rfl
                    all_goals
                      go_wp2
                      go_roundw
                      case rel => exact ⟨m + 1, by omega, by omega, by go_num, hB3, HG⟩
                      case measure => simp [intOf]; omega
                  by_cases c2 : kn = 5
                  · have HT := run.hid (T2.out c2)
                    clear T1 T2 T3 T4 c1
                    subst c2
                    go_wp2_with fail
                    refine (picture_any k0 w3).mono ?_
                    generalize picture k0 = pk at *
                    rintro e w4 ⟨rfl, rfl⟩
                    cases pk with
                    | true =>
                      have HG := run.hid (HX.out HT.out)
                      clear HX HY HT
                      go_wp2
                      go_roundw
                      case rel => exact ⟨m + 1, by omega, by omega, by go_num, hB3, HG⟩
                      case measure => simp [intOf]; omega
                    | false =>
                      have HG := run.hid (HY.out HT.out)
                      clear HX HY HT
                      go_wp2
                      try rw [Exit.noGoto_ret]
                      go_ret2
                      unfold Len
                      rw [HG.out, HWL.out]
                      exact ⟨rfl, hB3⟩
                  by_cases c3 : kn = 7 ∨ kn = 8
                  · have HT := run.hid (T3.out c3)
                    have hcp := (hB3.cell (p := ⟨b, off + m, none⟩) hb).trans HCP.out
                    clear T1 T2 T3 T4 c1 c2 HCP
                    rcases c3 with rfl | rfl
                    all_goals
                      go_wp2_with fail
                      refine (picture_any k0 w3).mono ?_
                      generalize picture k0 = pk at *
                      rintro e w4 ⟨rfl, rfl⟩
                      cases pk with
                      | false =>
                        have HG := run.hid (HY.out (HT.out.trans (Bool.false_and _)))
                        clear HX HY HT
                        go_wp2
                        try rw [Exit.noGoto_ret]
                        go_ret2
                        unfold Len
                        rw [HG.out, HWL.out]
                        exact ⟨rfl, hB3⟩
                      | true =>
                        go_wp2_with fail
                        refine (kind_any rp _).mono ?_
                        generalize kind rp = kp at *
                        rintro e w5 ⟨rfl, hb5⟩
                        have hB5 := hB3.trans (hb5.mono hB3.size)
                        clear hcp
                        by_cases h3 : kp = 3
                        · subst h3
                          have HG := run.hid (HX.out (HT.out.trans rfl))
                          clear HX HY HT
                          go_wp2
                          go_roundw
                          case rel => exact ⟨m + 1, by omega, by omega, by go_num, hB5, HG⟩
                          case measure => simp [intOf]; omega
                        · have HG := run.hid (HY.out (HT.out.trans (by rw [decide_eq_false h3]; rfl)))
                          clear HX HY HT
                          go_wp2
                          try rw [Exit.noGoto_ret]
                          go_ret2
                          unfold Len
                          rw [HG.out, HWL.out]
                          exact ⟨rfl, hB5⟩
                  · have HG := run.hid (HY.out (T4.out ⟨c1, c2, c3⟩))
                    obtain ⟨e2, e3, e4, e7, e8⟩ : kn ≠ 2 ∧ kn ≠ 3 ∧ kn ≠ 4 ∧ kn ≠ 7 ∧ kn ≠ 8 := by omega
                    clear T1 T2 T3 T4 HX HY c1 c3
                    go_wp2
                    try rw [Exit.noGoto_ret]
                    go_ret2
                    unfold Len
                    rw [HG.out, HWL.out]
                    exact ⟨rfl, hB3⟩
                · have HE := run.hid (HG.out.trans (HM.out k0 (m + 1) (by omega)))
                  clear HG
                  go_wp2
                  try rw [Exit.noGoto_ret]
                  go_ret2
                  unfold Len
                  rw [HE.out, HWL.out]
                  exact ⟨rfl, hbel⟩
              · have HE := run.hid (HG.out.trans (HM.out k0 (m + 1) (by omega)))
                clear HG
                go_wp2
                try rw [Exit.noGoto_ret]
                go_ret2
                unfold Len
                rw [HE.out, HWL.out]
                exact ⟨rfl, hbel⟩

end Go.Proofs.Ytgpgbbbcodnieaa.clu
