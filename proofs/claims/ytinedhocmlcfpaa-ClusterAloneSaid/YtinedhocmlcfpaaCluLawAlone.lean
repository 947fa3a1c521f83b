/-
  The law ClusterAlone: a character alone, ahead of and behind a letter.
-/
import Derived.Test.YtinedhocmlcfpaaCluAlonePlain
import Derived.Lib.QuietBelow
import Derived.Deep.DeepCutAuto
namespace Go.Proofs.Ytinedhocmlcfpaa.clu
open Go.RowKit Go.Proofs
open Go.Proofs.Ytinedhocmlcfpaa.wid Go.Proofs.Ytinedhocmlcfpaa.utf
set_option linter.unusedVariables false

theorem one_new (w : World) (x : Int) (t : TypeId) : run.Reads (w.alloc (.cells #[.int .i32 x] t)) (.slice (some ⟨w.heap.size, 0, none⟩) 1 1) (rv [x]) := by
  refine ⟨_, 1, rfl, fun _ => ⟨w.heap.size, 0, rfl, by simp, ?_⟩, fun h => by cases h⟩
  intro i u hi
  have hh := run.heap_new w (.cells #[.int .i32 x] t)
  simp only [World.cell?, Nat.zero_add]
  rw [hh]
  simpa [rv] using hi

theorem told_one {r : Int} (h : kind r ≠ 0) : oneOk (str (text [r])) ∧ wide (runes (bs (str (text [r])))) = cellsAt r := by
  unfold oneOk
  rw [runes_one h, cl_single]
  exact ⟨⟨rfl, rfl⟩, wide_single r⟩
theorem told_ahead {r : Int} (h : kind r ≠ 0) : (told (⟨#[97]⟩ ++ str (text [r]))).length = if kind r = 2 ∨ kind r = 3 ∨ kind r = 4 then 1 else 2 := by
  unfold told
  rw [seen_length, runes_ahead h, cl_letter]
theorem told_behind {r : Int} (h : kind r ≠ 0) : (told (str (text [r]) ++ ⟨#[97]⟩)).length = 2 := by
  unfold told
  rw [seen_length, runes_behind h, cl_behind]; rfl

set_option maxRecDepth 100000 in
set_option maxHeartbeats 4000000 in
theorem lawAlone_any (r : Int) (w : World) : Calls Try.prog 7 #[.int .i32 r] w fun e w' => e = .returned (.bool true) ∧ Below w.heap.size w w' := by
  have HA := run.hid alive_any
  have h1 := @told_one r
  have h2 := @told_ahead r
  have h3 := @told_behind r
  have HOF := run.hid (of_any r)
  have HTX := run.hid (fun w => text_any _ [r] (w.alloc (.cells #[.int .i32 r] 21)) (one_new w r _) (by simp))
  have hsz : (str (text [r])).size ≤ 4 := by rw [str_size]; exact (text_length [r]).2
  have e1 : (⟨#[97]⟩ : ByteArray).size = 1 := rfl
  have HONE := run.hid (fun w => one_any (str (text [r])) w (by omega))
  have HL := run.hid (fun w => split_use (⟨#[97]⟩ ++ str (text [r])) w (by rw [ByteArray.size_append, e1]; omega))
  have HM := run.hid (fun w => split_use (str (text [r]) ++ ⟨#[97]⟩) w (by rw [ByteArray.size_append, e1]; omega))
  unfold OneIs at HONE
  go_enter Try.func7, Try.ntmps7
  go_wp2_with fail
  refine (kind_any r w).mono ?_
  rintro e w1 ⟨rfl, hb1⟩
  by_cases hk : kind r = 0
  · clear h1 h2 h3
    generalize kind r = k at *
    subst hk
    go_wp2_with fail
    refine (HA.out _).mono ?_
    rintro e w2 ⟨rfl, hb2⟩
    have hB := hb1.trans (hb2.mono hb1.size)
    go_wp2
    go_ret
    exact ⟨rfl, hB⟩
  · replace h1 := h1 hk
    replace h2 := h2 hk
    replace h3 := h3 hk
    rw [h1.2] at HONE
    have hok := run.hid h1.1
    clear h1
    generalize str (text [r]) = t at *
    generalize told (⟨#[97]⟩ ++ t) = la at *
    generalize told (t ++ ⟨#[97]⟩) = lb at *
    generalize cellsAt r = cw at *
    generalize kind r = k at *
    generalize hn : (if k = 2 ∨ k = 3 ∨ k = 4 then 1 else 2) = n at *
    have HN := run.hid hn
    clear hn
    have hbA := hb1.alloc hb1.size (.cells #[.int .i32 r] 21)
    go_wp2_with fail
    refine (HTX.out _).mono ?_
    rintro e w2 ⟨rfl, hb2⟩
    have hB2 := hbA.trans (hb2.mono hbA.size)
    go_wp2_with fail
    refine (HONE.out _).mono ?_
    rintro e w3 ⟨hb3, hone⟩
    rcases hone with ⟨-, rfl⟩ | ⟨hone, -⟩
    · have hB3 := hB2.trans (hb3.mono hB2.size)
      obtain ⟨hy0, hy1⟩ := new_two w3 (.string t) (.int .i64 cw) 36
      have hB3n := hB3.alloc hB3.size (.cells #[.string t, .int .i64 cw] 36)
      have hlt : w3.heap.size < (w3.alloc (.cells #[.string t, .int .i64 cw] 36)).heap.size := by simp
      go_wp2_with fail
      generalize w3.alloc (.cells #[.string t, .int .i64 cw] 36) = w4 at *
      refine (HL.out _).mono ?_
      rintro e w5 ⟨v5, rfl, -, hr5, hb5⟩
      obtain ⟨a5, c5, rfl, -⟩ := hr5
      have hB5 := hB3n.trans (hb5.mono hB3n.size)
      replace hy1 := (hb5.cell (p := ⟨w3.heap.size, 1, none⟩) hlt).trans hy1
      replace hlt := Nat.lt_of_lt_of_le hlt hb5.size
      go_wp2_with fail
      refine (HM.out _).mono ?_
      rintro e w6 ⟨v6, rfl, -, hr6, hb6⟩
      obtain ⟨a6, c6, rfl, -⟩ := hr6
      have hB6 := hB5.trans (hb6.mono hB5.size)
      replace hy1 := (hb6.cell (p := ⟨w3.heap.size, 1, none⟩) hlt).trans hy1
      replace hlt := Nat.lt_of_lt_of_le hlt hb6.size
      rw [h3]
      generalize w3.heap.size = nb at *
      clear HL HM HONE HTX hb1 hb2 hb3 hb5 hb6 hbA hB2 hB3 hB3n hB5 hy0 h3
      have hk1 := cell_regrown hy1
      have cOF : ∀ d os, Calls Try.prog 30 #[.int .i32 r] (Sort.grow (redrawn w6 d) os) fun e w'' => e = .returned (.int .i64 cw) ∧ ∃ p : Regrown, w'' = Sort.grow (redrawn w6 p.d) p.os := fun d os => Calls.regrown_of (HOF.out _)
      have cHA : ∀ d os, Calls Try.prog 19 #[] (Sort.grow (redrawn w6 d) os) fun e w'' => e = .returned (.bool true) ∧ ∃ p : Regrown, w'' = Sort.grow (redrawn w6 p.d) p.os := fun d os => Calls.regrown_of (HA.out _)
      have COF := run.hid cOF
      have CHA := run.hid cHA
      clear cOF cHA
      obtain ⟨j, hjn⟩ : ∃ j : Bool, j = decide (k = 2 ∨ k = 3 ∨ k = 4) := ⟨_, rfl⟩
      have HJ := run.hid hjn
      clear hjn
      go_upto_region 8 with fail
      go_cut [9] (fun c wx => c = .bool j ∧ wx = w6)
      case first =>
        by_cases hj : k = 2 ∨ k = 3 ∨ k = 4
        · rw [decide_eq_true hj] at HJ
          rcases hj with rfl | rfl | rfl
          all_goals
            go_wp2_with fail
            go_meet
            exact ⟨by rw [HJ.out], rfl⟩
        · rw [decide_eq_false hj] at HJ
          go_wp2_with fail
          go_meet
          exact ⟨by rw [HJ.out]; exact congrArg Value.bool (by simp; omega), rfl⟩
      case rest =>
        obtain ⟨rfl, rfl⟩ := hcut
        have hnj : n = if j then 1 else 2 := by
          rw [← HN.out, HJ.out]
          by_cases hj : k = 2 ∨ k = 3 ∨ k = 4 <;> simp [hj]
        cases j with
        | true =>
          obtain rfl : n = 1 := hnj
          clear HN HJ
          go_upto_region 9 with fail
          refine wp_region_quiet_below (by kernel_rfl) (by kernel_rfl) ?_
          repeat (quiet_step (first | exact COF.out _ _ | exact CHA.out _ _))
          refine wpQuiet_nil ?_
          intro _ hw'
          obtain ⟨⟨dq, osq⟩, hw''⟩ := hw'
          subst hw''
          go_wp2
          go_ret
          exact ⟨rfl, hB6.trans ((below_regrown _ dq osq).mono hB6.size)⟩
        | false =>
          obtain rfl : n = 2 := hnj
          clear HN HJ
          go_upto_region 9 with fail
          refine wp_region_quiet_below (by kernel_rfl) (by kernel_rfl) ?_
          repeat (quiet_step (first | exact COF.out _ _ | exact CHA.out _ _))
          refine wpQuiet_nil ?_
          intro _ hw'
          obtain ⟨⟨dq, osq⟩, hw''⟩ := hw'
          subst hw''
          go_wp2
          go_ret
          exact ⟨rfl, hB6.trans ((below_regrown _ dq osq).mono hB6.size)⟩
    · exact absurd hok.out hone

end Go.Proofs.Ytinedhocmlcfpaa.clu
