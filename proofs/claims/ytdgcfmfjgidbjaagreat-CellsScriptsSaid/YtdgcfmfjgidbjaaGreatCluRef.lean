/-
  The walks of the document's clusters: picture, takes, First, wide.
-/
import Derived.Test.YtdgcfmfjgidbjaaGreatCluEvery
import Derived.Test.YtdgcfmfjgidbjaaGreatWidOf
import Derived.Test.YtdgcfmfjgidbjaaGreatLexes
import Derived.Deep.DeepCutAuto
namespace Go.Proofs.YtdgcfmfjgidbjaaGreat.clu
open Go.RowKit Go.Proofs
open Go.Proofs.YtdgcfmfjgidbjaaGreat.wid Go.Proofs.YtdgcfmfjgidbjaaGreat.utf
set_option linter.unusedVariables false

theorem refKindK (r : Int) (w : World) : Calls Tryz.prog 84 #[.int .i32 r] w fun e w' => e = .returned (.int .i8 (kind r)) ∧ Below w.heap.size w w' := by
  rw [kind_eq_ref]
  exact refKind_any r w

set_option maxHeartbeats 400000 in
theorem refPicture_any (k : Nat) (w : World) : Calls Tryz.prog 116 #[.int .i8 k] w fun e w' => e = .returned (.bool (picture k)) ∧ w' = w := by
  go_enter Tryz.func116, Tryz.ntmps116
  go_wp2
  all_goals
    go_ret
    refine ⟨congrArg (fun b => Ending.returned (Value.bool b)) ?_, rfl⟩
    rw [picture_of, Bool.eq_iff_iff]
    simp
    omega

set_option maxRecDepth 100000 in
set_option maxHeartbeats 2000000 in
theorem refTakes_any (b : Nat) (a n : Int) (w : World) : Calls Tryz.prog 115 #[.int .i8 b, .int .i32 a, .int .i32 n] w fun e w' => e = .returned (.bool (takes b a n)) ∧ Below w.heap.size w w' := by
  have T1 := run.hid (@takes_1 b a n)
  have T2 := run.hid (@takes_2 b a n)
  have T3 := run.hid (@takes_3 b a n)
  have T4 := run.hid (@takes_4 b a n)
  have hkl := kind_le n
  have HK := run.hid (refKindK n w)
  have HKA := run.hid (fun w => refKindK a w)
  generalize takes b a n = tk at *
  generalize kind n = kn at *
  generalize kind a = ka at *
  go_enter Tryz.func115, Tryz.ntmps115
  go_wp2_with fail
  refine HK.out.mono ?_
  rintro e w1 ⟨rfl, hb1⟩
  go_wp2_with fail
  refine (refPicture_any b w1).mono ?_
  generalize picture b = pb at *
  rintro e w2 ⟨rfl, rfl⟩
  by_cases c1 : kn = 2 ∨ kn = 3 ∨ kn = 4
  · have HT := run.hid (T1.out c1)
    clear T1 T2 T3 T4
    rcases c1 with rfl | rfl | rfl
    all_goals
      go_wp2
      go_ret
      exact ⟨by rw [HT.out]; rfl, hb1⟩
  by_cases c2 : kn = 5
  · have HT := run.hid (T2.out c2)
    clear T1 T2 T3 T4 c1
    subst c2
    go_wp2
    go_ret
    exact ⟨by rw [HT.out]; rfl, hb1⟩
  by_cases c3 : kn = 7 ∨ kn = 8
  · have HT := run.hid (T3.out c3)
    clear T1 T2 T3 T4 c1 c2
    rcases c3 with rfl | rfl
    all_goals
      go_wp2_with fail
      refine (HKA.out _).mono ?_
      rintro e w3 ⟨rfl, hb3⟩
      have hB := hb1.trans (hb3.mono hb1.size)
      cases pb with
      | false =>
        go_wp2
        go_ret
        exact ⟨by rw [HT.out, Bool.false_and]; rfl, hB⟩
      | true =>
        by_cases h3 : ka = 3
        · subst h3
          go_wp2
          go_ret
          exact ⟨by rw [HT.out]; rfl, hB⟩
        · have hf := run.hid (decide_eq_false h3)
          go_wp2
          go_ret
          exact ⟨by rw [HT.out, hf.out]; exact congrArg (fun b => Ending.returned (Value.bool b)) (by simp; omega), hB⟩
  · have HT := run.hid (T4.out ⟨c1, c2, c3⟩)
    obtain ⟨e2, e3, e4, e7, e8⟩ : kn ≠ 2 ∧ kn ≠ 3 ∧ kn ≠ 4 ∧ kn ≠ 7 ∧ kn ≠ 8 := by omega
    clear T1 T2 T3 T4 c1 c3
    go_wp2
    go_ret
    exact ⟨by rw [HT.out]; rfl, hb1⟩

set_option maxRecDepth 100000 in
set_option maxHeartbeats 4000000 in
theorem refFirst_any (v : Value) (l : List Int) (w : World) (hl : l ≠ []) (hlen : l.length ≤ 35184372088832) (hv : run.Reads w v (rv l)) : Calls Tryz.prog 112 #[v] w fun e w' => e = .returned (.int .i64 (count l)) ∧ Below w.heap.size w w' := by
  obtain ⟨i0, hi, hz0, hz1, hz2⟩ := info_parts info_rune
  obtain ⟨b, off, cap, rfl, hb, hc⟩ := reads_get hv (by intro e; exact hl (List.map_eq_nil_iff.1 e))
  rw [rv_length]
  have HC : Hid (∀ i, i < l.length → w.cell? ⟨b, off + i, none⟩ = some (.int .i32 (l.getD i 0))) := run.hid (fun i hi => hc i _ (rv_get hi))
  have h0 : 0 < l.length := List.length_pos_iff.2 hl
  have hc0 : w.cell? ⟨b, off, none⟩ = some (.int .i32 (l.getD 0 0)) := HC.out 0 h0
  clear hc hv
  have HF1 : Hid (kind (l.getD 0 0) = 1 → count l = 1 ∧ wide l = 0) := run.hid count_one
  have HF2 : Hid (kind (l.getD 0 0) ≠ 1 → count l = growFrom (kind (l.getD 0 0)) l (start l)) := run.hid count_more
  have HP : Hid (pair l = true ↔ kind (l.getD 0 0) = 6 ∧ 1 < l.length ∧ kind (l.getD 1 0) = 6) := run.hid pair_iff
  generalize l.getD 0 0 = r0 at *
  have HN : Hid (∀ b n, n < l.length → n < 16 → takes b (l.getD (n - 1) 0) (l.getD n 0) = true → growFrom b l n = growFrom b l (n + 1)) := run.hid (fun b n => grow_step)
  have HM : Hid (∀ b n, ¬ (n < l.length ∧ n < 16) → growFrom b l n = n) := run.hid (fun b n => grow_end)
  have HS : Hid (∀ b n, takes b (l.getD (n - 1) 0) (l.getD n 0) = false → growFrom b l n = n) := run.hid (fun b n => grow_stop)
  obtain ⟨hs1, hs2, hs3⟩ := start_bounds l hl
  clear hl
  have HST := run.hid (start_of l)
  generalize start l = n0 at *
  generalize l.length = N at *
  go_enter Tryz.func112, Tryz.ntmps112
  go_wp2_with fail
  refine (refKindK r0 w).mono ?_
  generalize kind r0 = k0 at *
  rintro e w1 ⟨rfl, hb1⟩
  by_cases h1 : k0 = 1
  · subst h1
    obtain ⟨e1, -⟩ := HF1.out rfl
    have E := run.hid e1
    clear e1
    go_wp2
    go_ret
    exact ⟨by rw [E.out]; rfl, hb1⟩
  · have E2 := run.hid (HF2.out h1)
    clear HF1 HF2 hc0
    obtain ⟨g, hg⟩ : ∃ g : Bool, g = (decide (k0 = 6) && decide (1 < N)) := ⟨_, rfl⟩
    have HG := run.hid hg
    clear hg
    go_upto_region 5 with fail
    go_cut [19] (fun c wx => c = .bool g ∧ wx = w1)
    case first =>
      by_cases h6 : k0 = 6
      · subst h6
        by_cases h2 : 1 < N
        · go_wp2
          go_meet
          exact ⟨by rw [HG.out]; exact congrArg Value.bool (by rw [Bool.eq_iff_iff]; simp; try omega), rfl⟩
        · go_wp2
          go_meet
          exact ⟨by rw [HG.out]; exact congrArg Value.bool (by rw [Bool.eq_iff_iff]; simp; try omega), rfl⟩
      · have h6' : ((k0 : Int) == 6) = false := by simp; omega
        go_wp2
        go_meet
        exact ⟨by rw [HG.out]; exact congrArg Value.bool (by rw [Bool.eq_iff_iff]; simp; try omega), rfl⟩
    obtain ⟨rfl, rfl⟩ := hcut
    go_upto_if 19 with fail
    go_cut [4] (fun c wx => c = .int .i64 n0 ∧ Below w.heap.size w wx)
    case first =>
      by_cases h6 : k0 = 6
      · subst h6
        by_cases h2 : 1 < N
        · obtain rfl : g = true := by rw [HG.out]; simp [h2]
          have hc1 := (hb1.cell (p := ⟨b, off + 1, none⟩) hb).trans (HC.out 1 h2)
          generalize l.getD 1 0 = r1 at *
          go_wp2_with fail
          refine (refKindK r1 _).mono ?_
          generalize kind r1 = k1 at *
          rintro e w3 ⟨rfl, hb3⟩
          have hB3 := hb1.trans (hb3.mono hb1.size)
          by_cases h3 : k1 = 6
          · have hp := run.hid (HP.out.2 (by refine ⟨?_, h2, h3⟩; first | rfl | trivial))
            subst h3
            go_wp2
            go_meet
            exact ⟨by rw [HST.out, hp.out]; rfl, hB3⟩
          · have hp : Hid (pair l = false) := run.hid (by rw [← Bool.not_eq_true, HP.out]; exact fun h => h3 h.2.2)
            have h3' : ((k1 : Int) == 6) = false := by simp; omega
            go_wp2
            go_meet
            exact ⟨by rw [HST.out, hp.out]; rfl, hB3⟩
        · obtain rfl : g = false := by rw [HG.out]; simp [h2]
          have hp : Hid (pair l = false) := run.hid (by rw [← Bool.not_eq_true, HP.out]; exact fun h => h2 h.2.1)
          go_wp2
          go_meet
          exact ⟨by rw [HST.out, hp.out]; rfl, hb1⟩
      · obtain rfl : g = false := by rw [HG.out]; simp [h6]
        have hp : Hid (pair l = false) := run.hid (by rw [← Bool.not_eq_true, HP.out]; exact fun h => h6 h.1)
        go_wp2
        go_meet
        exact ⟨by rw [HST.out, hp.out]; rfl, hb1⟩
    case rest =>
      obtain ⟨rfl, hBc⟩ := hcut
      clear HP HST hb1 HG
      go_wp2
      go_loopw [4] (fun vn wr => ∃ m : Nat, m + 1 ≤ N ∧ m + 1 ≤ 16 ∧ vn = .int .i64 (m + 1 : Nat) ∧ Below w.heap.size w wr ∧ Hid (count l = growFrom k0 l (m + 1))) (fun vn _ => (16 - intOf vn).toNat)
      case atStart =>
        obtain ⟨m, rfl⟩ : ∃ m, n0 = m + 1 := ⟨n0 - 1, by omega⟩
        exact ⟨m, by omega, by omega, rfl, hBc, E2⟩
      case round =>
        clear E2 hBc hs1 hs2 hs3
        obtain ⟨m, hnN, hn16, rfl, hbel, HG⟩ := hrel
        by_cases hlt : m + 1 < N
        · by_cases h16 : m + 1 < 16
          · have HX : Hid (takes k0 (l.getD m 0) (l.getD (m + 1) 0) = true → count l = growFrom k0 l (m + 1 + 1)) := run.hid (fun h => HG.out.trans (HN.out k0 (m + 1) hlt h16 h))
            have HY : Hid (takes k0 (l.getD m 0) (l.getD (m + 1) 0) = false → count l = m + 1) := run.hid (fun h => HG.out.trans (HS.out k0 (m + 1) h))
            have hk1 : wr.cell? ⟨b, off + (m + 1) * 1, none⟩ = some (.int .i32 (l.getD (m + 1) 0)) := by rw [Nat.mul_one]; exact (hbel.cell (p := ⟨b, off + (m + 1), none⟩) hb).trans (HC.out (m + 1) hlt)
            have hk2 : wr.cell? ⟨b, off + m * 1, none⟩ = some (.int .i32 (l.getD m 0)) := by rw [Nat.mul_one]; exact (hbel.cell (p := ⟨b, off + m, none⟩) hb).trans (HC.out m (by omega))
            have hbr := Nat.lt_of_lt_of_le hb hbel.size
            clear HG
            have CT := run.hid (fun w => refTakes_any k0 (l.getD m 0) (l.getD (m + 1) 0) w)
            generalize l.getD (m + 1) 0 = rn at *
            generalize l.getD m 0 = rp at *
            generalize takes k0 rp rn = tk at *
            go_upto_region 10 with fail
            refine lex.region (fun _ W => Below wr.heap.size wr W) (by kernel_rfl) (by kernel_rfl) (by kernel_rfl) ⟨rfl, rfl, rfl, Nat.le_refl _, fun _ _ => rfl⟩ ?_
            refine lex.begin 51 rfl ?_
            refine lex.o_pure (.int .i8 k0) (fun _ _ _ => rfl) ?_
            refine lex.o_pure (.slice (some ⟨b, off, none⟩) N cap) (fun _ _ _ => rfl) ?_
            refine lex.o_pure (.int .i64 (m + 1 : Nat)) (fun _ _ _ => rfl) ?_
            refine lex.o_pure (.int .i64 m) (fun _ _ _ => lex.run_sub rfl rfl rfl (by omega) (by omega)) ?_
            refine lex.o_pure (.pointer (some ⟨b, off + m * 1, none⟩)) (fun _ _ _ => lex.run_at rfl rfl rfl (by omega) Tryz.underlying97 hi hz1) ?_
            refine lex.o_pure (.int .i32 rp) (fun _ _ h => lex.run_load rfl rfl Tryz.underlying21 rfl ((h.cell (p := ⟨b, off + m * 1, none⟩) hbr).trans hk2)) ?_
            refine lex.o_pure (.slice (some ⟨b, off, none⟩) N cap) (fun _ _ _ => rfl) ?_
            refine lex.o_pure (.int .i64 (m + 1 : Nat)) (fun _ _ _ => rfl) ?_
            refine lex.o_pure (.pointer (some ⟨b, off + (m + 1) * 1, none⟩)) (fun _ _ _ => lex.run_at rfl rfl rfl hlt Tryz.underlying97 hi hz1) ?_
            refine lex.o_pure (.int .i32 rn) (fun _ _ h => lex.run_load rfl rfl Tryz.underlying21 rfl ((h.cell (p := ⟨b, off + (m + 1) * 1, none⟩) hbr).trans hk1)) ?_
            refine lex.o_call (.bool tk) 115 #[.int .i8 k0, .int .i32 rp, .int .i32 rn] (fun _ _ _ => lex.run_fn rfl rfl rfl (enters_of Tryz.func115 (by kernel_rfl) rfl)) (fun _ W h => (CT.out W).mono fun e w2 ⟨he, hb2⟩ => ⟨he, h.trans (hb2.mono h.size)⟩) ?_
            refine lex.o_pure (.bool tk) (fun _ _ _ => rfl) ?_
            refine lex.o_end ?_
            simp only [lex.ov]
            rintro W d - hbW
            have hB2 := hbel.trans (hbW.mono hbel.size)
            clear hbW hk1 hk2 CT
            cases tk with
            | true =>
              have HG := run.hid (HX.out rfl)
              clear HX HY
              go_wp2
              go_roundw
              case rel => exact ⟨m + 1, by omega, by omega, by go_num, hB2, HG⟩
              case measure => simp [intOf]; omega
            | false =>
              have HG := run.hid (HY.out rfl)
              clear HX HY
              go_wp2
              go_ret
              exact ⟨by rw [HG.out]; rfl, hB2⟩
          · have HE := run.hid (HG.out.trans (HM.out k0 (m + 1) (by omega)))
            clear HG
            go_wp2
            go_ret
            exact ⟨by rw [HE.out]; rfl, hbel⟩
        · have HE := run.hid (HG.out.trans (HM.out k0 (m + 1) (by omega)))
          clear HG
          go_wp2
          go_ret
          exact ⟨by rw [HE.out]; rfl, hbel⟩

end Go.Proofs.YtdgcfmfjgidbjaaGreat.clu
