/-
  The walks of the document's clusters: One, Joins.
-/
import Derived.Test.YtinedhocmlcfpaaCluRef2
import Derived.Test.YtinedhocmlcfpaaCluJoins
import Derived.Test.YtinedhocmlcfpaaCluSameRef
import Derived.Test.YtinedhocmlcfpaaRowKit
namespace Go.Proofs.Ytinedhocmlcfpaa.clu
open Go.RowKit Go.Proofs
open Go.Proofs.Ytinedhocmlcfpaa.wid Go.Proofs.Ytinedhocmlcfpaa.utf
set_option linter.unusedVariables false

set_option maxRecDepth 100000 in
set_option maxHeartbeats 4000000 in
theorem refOne_any (s : ByteArray) (w : World) (hs : s.size ≤ 1099511627776) : Calls Try.prog 22 #[.string s] w (OneIs s w) := by
  have HS := run.hid (fun w => refSplit_any s w hs)
  unfold Splits at HS
  have hOK := run.hid (show oneOk s ↔ (cl (runes (bs s))).length = 1 ∧ str (text (runes (bs s))) = s from Iff.rfl)
  have hC1 := run.hid (fun h => @cl_len_one (runes (bs s)) h)
  unfold OneIs
  generalize runes (bs s) = L at *
  go_enter Try.func22, Try.ntmps22
  have hbel := run.below_one w (.cells #[.string ByteArray.empty, .int .i64 0] 36)
  have hnew := run.heap_new w (.cells #[.string ByteArray.empty, .int .i64 0] 36)
  go_wp2_with fail
  refine (HS.out _).mono ?_
  rintro e w1 ⟨v, rfl, hown, hb1⟩
  have hB := hbel.trans (hb1.mono hbel.size)
  have hnew1 := (hb1.block w.heap.size (by simp)).trans hnew
  by_cases h1 : (cl L).length = 1
  · have h2 := hC1.out h1
    rw [h1, h2] at hown
    obtain ⟨g, cap, rfl⟩ := ownsRow_succ (k := 0) hown
    have hc0 : w1.cell? ⟨g, 0, none⟩ = some (.string (str (text L))) := (hown.cellAt 0 (by simp)).trans rfl
    have hc1 : w1.cell? ⟨g, 1, none⟩ = some (.int .i64 (wide L)) := (hown.cellAt 1 (by simp)).trans rfl
    have hn0 : w1.cell? ⟨w.heap.size, 0, none⟩ = some (.string ByteArray.empty) := by simp [World.cell?, hnew1]
    have hn1 : w1.cell? ⟨w.heap.size, 1, none⟩ = some (.int .i64 0) := by simp [World.cell?, hnew1]
    have hnf : w1.frozen? ⟨w.heap.size, 0, none⟩ = false := by simp [World.frozen?, hnew1]
    have hnf1 : w1.frozen? ⟨w.heap.size, 1, none⟩ = false := by simp [World.frozen?, hnew1]
    have hEQ := run.hid (toList_eq_iff (str (text L)) s)
    by_cases h3 : str (text L) = s
    · have hok := run.hid (hOK.out.2 ⟨h1, h3⟩)
      rw [h3] at hc0
      clear hOK hC1 hEQ HS hown h2 hnew
      generalize hwd : wide L = wd at *
      have HWD := run.hid hwd
      clear hwd
      go_wp2
      have hT := two_cells w1 w.heap.size _ _ (.string s) (.int .i64 wd) _ hnew1
      refine bodyPost_ret (v := .tuple #[.agg #[.string s, .int .i64 wd], .bool true]) ((results_cell_tmp rfl _ _ _).trans (by simp [go_sem, hT.1, hT.2])) rfl ?_
      exact ⟨below_two w w1 _ _ _ hB, .inl ⟨hok.out, by rw [HWD.out]⟩⟩
    · have hok := run.hid (fun h => h3 (hOK.out.1 h).2)
      have hE2 : ((str (text L)).toList == s.toList) = false := by rw [hEQ.out]; exact decide_eq_false h3
      clear hOK hC1 hEQ HS hown h2 hnew
      generalize hwd : wide L = wd at *
      have HWD := run.hid hwd
      clear hwd
      generalize str (text L) = st at *
      go_wp2
      have hT := two_cells w1 w.heap.size _ _ (.string ⟨#[]⟩) (.int .i64 0) _ hnew1
      refine bodyPost_ret (v := .tuple #[.agg #[.string ⟨#[]⟩, .int .i64 0], .bool false]) ((results_cell_tmp rfl _ _ _).trans (by simp [go_sem, hT.1, hT.2])) rfl ?_
      exact ⟨below_two w w1 _ _ _ hB, .inr ⟨hok.out, rfl⟩⟩
  · have hok := run.hid (fun h => h1 (hOK.out.1 h).1)
    obtain ⟨a, cap, rfl⟩ := run.own_value hown
    have hn0 : w1.cell? ⟨w.heap.size, 0, none⟩ = some (.string ByteArray.empty) := by simp [World.cell?, hnew1]
    have hn1 : w1.cell? ⟨w.heap.size, 1, none⟩ = some (.int .i64 0) := by simp [World.cell?, hnew1]
    have hnf : w1.frozen? ⟨w.heap.size, 0, none⟩ = false := by simp [World.frozen?, hnew1]
    have hnf1 : w1.frozen? ⟨w.heap.size, 1, none⟩ = false := by simp [World.frozen?, hnew1]
    clear hOK hC1 HS hown hnew
    generalize (cl L).length = k at *
    go_wp2
    have hT := two_cells w1 w.heap.size _ _ (.string ⟨#[]⟩) (.int .i64 0) _ hnew1
    refine bodyPost_ret (v := .tuple #[.agg #[.string ⟨#[]⟩, .int .i64 0], .bool false]) ((results_cell_tmp rfl _ _ _).trans (by simp [go_sem, hT.1, hT.2])) rfl ?_
    exact ⟨below_two w w1 _ _ _ hB, .inr ⟨hok.out, rfl⟩⟩


/-- the document's Split, for use -/
theorem refSplit_use (s : ByteArray) (w : World) (hs : s.size ≤ 1099511627776) : Calls Try.prog 13 #[.string s] w fun e w' =>
    ∃ v, e = .returned v ∧ w'.ownsRow w.heap.size 36 2 v (told s).length (cells2 (told s)) ∧ Reads2 w' v (told s) ∧ Below w.heap.size w w' :=
  (refSplit_any s w hs).mono fun _ _ ⟨v, he, ho, hb⟩ => by
    rw [cc_seen, ← seen_length] at ho
    exact ⟨v, he, ho, reads2_own ho, hb⟩

theorem upI_append (l m : List (ByteArray × Nat)) : upI (l ++ m) = upI l ++ upI m := by simp [upI]
theorem joins_same (a b : ByteArray) : (!sameC (upI (told (a ++ b))) (upI (told a ++ told b))) = joins a b := by
  unfold joins sameC
  by_cases h : told (a ++ b) = told a ++ told b
  · rw [h]; simp
  · have h2 : ¬ upI (told (a ++ b)) = upI (told a ++ told b) := fun e => h (upI_inj e)
    simp [h, h2]
theorem cells2_one (l : List (ByteArray × Nat)) : ∀ u ∈ cells2 l, u.oneCell' = true := by
  intro u hu
  unfold cells2 at hu
  obtain ⟨q, -, hu⟩ := List.mem_flatMap.1 hu
  simp only [List.mem_cons, List.not_mem_nil, or_false] at hu
  rcases hu with rfl | rfl <;> rfl
theorem cells2_append (l m : List (ByteArray × Nat)) : cells2 (l ++ m) = cells2 l ++ cells2 m := by simp [cells2]

set_option maxRecDepth 100000 in
set_option maxHeartbeats 4000000 in
theorem refJoins_any (a b : ByteArray) (w : World) (ha : a.size ≤ 274877906944) (hb : b.size ≤ 274877906944) : Calls Try.prog 25 #[.string a, .string b] w fun e w' => e = .returned (.bool (joins a b)) ∧ Below w.heap.size w w' := by
  obtain ⟨i0, hi, hz0, hz1, hz2⟩ := info_parts info_clu
  have H1 := run.hid (fun w => refSplit_use (a ++ b) w (by rw [ByteArray.size_append]; omega))
  have H2 := run.hid (fun w => refSplit_use a w (by omega))
  have H3 := run.hid (fun w => refSplit_use b w (by omega))
  have hl1 := told_length (a ++ b)
  have hl2 := told_length a
  have hl3 := told_length b
  rw [ByteArray.size_append] at hl1
  have hcat : ¬ 9223372036854775807 < a.size + b.size := by omega
  have HJ := run.hid (joins_same a b)
  generalize told (a ++ b) = X at *
  generalize told a = Y at *
  generalize told b = Z at *
  generalize joins a b = jn at *
  go_enter Try.func25, Try.ntmps25
  go_wp2_with fail
  refine (H1.out _).mono ?_
  rintro e w1 ⟨v1, rfl, -, hr1, hb1⟩
  go_wp2_with fail
  refine (H2.out _).mono ?_
  rintro e w2 ⟨v2, rfl, ho2, -, hb2⟩
  go_wp2_with fail
  refine (H3.out _).mono ?_
  rintro e w3 ⟨v3, rfl, ho3, -, hb3⟩
  have hb23 := hb2.trans (hb3.mono hb2.size)
  have hB := hb1.trans (hb23.mono hb1.size)
  have R1 := run.hid (hr1.below hb23)
  have N2 := run.hid (run.readsN_own (run.own_below ho2 hb3))
  have N3 := run.hid (run.readsN_own ho3)
  have hown0 := World.ownsRow_nil w3 w3.heap.size 36 2
  clear H1 H2 H3 hb1 hb2 hb3 hb23 ho2 ho3 hr1
  have hsz3 := hB.size
  have hnil : cells2 ([] : List (ByteArray × Nat)) = [] := rfl
  go_wp2_with (at_builtin; refine run.wpList_append_any _ rfl _ _ 22 rfl w3.heap.size 36 i0 (.agg #[.string ByteArray.empty, .int .i64 0]) 2 24 Try.underlying22 hi hz0 hz1 hz2 rfl (by decide) _ _ _ rfl hown0 v2 Y.length (cells2 Y) rfl N2.out (cells2_one _) (by unfold maxLen; omega) (by omega) (Nat.le_refl _) ?_)
  intro v4 w4 hown4 hg4 _ _
  have hbel4 := run.below_append (Below.refl w3.heap.size w3) hown0 hg4 (Nat.le_refl _)
  have N3' := run.hid (N3.out.below hbel4)
  clear hown0 hg4 hnil
  go_wp2_with (at_builtin; refine run.wpList_append_any _ rfl _ _ 22 rfl w3.heap.size 36 i0 (.agg #[.string ByteArray.empty, .int .i64 0]) 2 24 Try.underlying22 hi hz0 hz1 hz2 rfl (by decide) _ _ _ rfl hown4 v3 Z.length (cells2 Z) rfl N3'.out (cells2_one _) (by unfold maxLen; omega) (by omega) hbel4.size ?_)
  intro v5 w5 hown5 hg5 _ _
  have hbel5 := run.below_append hbel4 hown4 hg5 hbel4.size
  rw [← cells2_append, ← List.length_append] at hown5
  have R5 := run.hid (readsI_up (reads2_own hown5))
  have R1' := run.hid (readsI_up (R1.out.below hbel5))
  have HS := run.hid (refSameC_any _ _ _ _ w5 R1'.out R5.out (by rw [upI_length]; omega) (by rw [upI_length, List.length_append]; omega))
  replace hB := hB.trans (hbel5.mono hB.size)
  clear hown4 hg5 hbel4 hbel5 hown5 R5 R1' R1 N2 N3 N3'
  generalize sameC (upI X) (upI (Y ++ Z)) = sm at *
  go_wp2_with fail
  refine HS.out.mono ?_
  rintro e w6 ⟨rfl, hb6⟩
  replace hB := hB.trans (hb6.mono hB.size)
  go_wp2
  go_ret
  exact ⟨by rw [← HJ.out]; rfl, hB⟩

/-- both tell the same of one text -/
theorem one_both (s : ByteArray) (hs : s.size ≤ 1099511627776) : ∃ (cs : ByteArray) (cw : Int) (ok : Bool),
    (∀ w, Calls Try.prog 22 #[.string s] w fun e w' => e = .returned (.tuple #[.agg #[.string cs, .int .i64 cw], .bool ok]) ∧ Below w.heap.size w w') ∧
    (∀ w, Calls Try.prog 23 #[.string s] w fun e w' => e = .returned (.tuple #[.agg #[.string cs, .int .i64 cw], .bool ok]) ∧ Below w.heap.size w w') := by
  by_cases h : oneOk s
  · refine ⟨s, wide (runes (bs s)), true, fun w => (refOne_any s w hs).mono fun e w' ⟨hb, h1⟩ => ?_, fun w => (one_any s w hs).mono fun e w' ⟨hb, h1⟩ => ?_⟩
    all_goals
      rcases h1 with ⟨-, he⟩ | ⟨h1, -⟩
      · exact ⟨he, hb⟩
      · exact absurd h h1
  · refine ⟨ByteArray.empty, 0, false, fun w => (refOne_any s w hs).mono fun e w' ⟨hb, h1⟩ => ?_, fun w => (one_any s w hs).mono fun e w' ⟨hb, h1⟩ => ?_⟩
    all_goals
      rcases h1 with ⟨h1, -⟩ | ⟨-, he⟩
      · exact absurd h1 h
      · exact ⟨he, hb⟩

end Go.Proofs.Ytinedhocmlcfpaa.clu
