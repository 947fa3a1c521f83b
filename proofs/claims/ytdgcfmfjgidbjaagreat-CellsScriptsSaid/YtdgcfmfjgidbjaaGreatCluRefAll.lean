/-
  The walks of the document's clusters: wide, Clusters, Split.
  The document's Split, for use.
  The walk of the document's clusters: One.
-/
import Derived.Test.YtdgcfmfjgidbjaaGreatCluRef
import Derived.Test.YtdgcfmfjgidbjaaGreatUtfRefAll
import Derived.Test.YtdgcfmfjgidbjaaGreatWrpAll
import Derived.Test.YtdgcfmfjgidbjaaGreatCluEvery
import Derived.Test.YtdgcfmfjgidbjaaGreatRowKit
section
namespace Go.Proofs.YtdgcfmfjgidbjaaGreat.clu
open Go.RowKit Go.Proofs
open Go.Proofs.YtdgcfmfjgidbjaaGreat.wid Go.Proofs.YtdgcfmfjgidbjaaGreat.utf
set_option linter.unusedVariables false

theorem pair_no {l : List Int} (h : kind (l.getD 0 0) ≠ 6) : pair l = false := by rw [← Bool.not_eq_true, pair_iff]; exact fun e => h e.1
theorem vary_no {l : List Int} (h : kind (l.getD 0 0) ≠ 8) : vary l = false := by rw [← Bool.not_eq_true, vary_iff]; exact fun e => h e.1
theorem wide_zero {l : List Int} (h : kind (l.getD 0 0) = 1 ∨ kind (l.getD 0 0) = 2 ∨ kind (l.getD 0 0) = 3 ∨ kind (l.getD 0 0) = 4) : wide l = 0 := by
  unfold wide
  by_cases h1 : kind (l.getD 0 0) = 1
  · rw [if_pos h1]
  · rw [if_neg h1, pair_no (by omega), vary_no (by omega)]
    exact cells_zero h
theorem wide_two {l : List Int} (h : kind (l.getD 0 0) = 7 ∨ kind (l.getD 0 0) = 5) : wide l = 2 := by
  unfold wide
  rw [if_neg (by omega), pair_no (by omega), vary_no (by omega)]
  exact cells_two h
theorem wide_eight {l : List Int} (h : kind (l.getD 0 0) = 8) : wide l = if vary l then 2 else 1 := by
  unfold wide
  rw [if_neg (by omega), pair_no (by omega)]
  have := cells_one (k := kind (l.getD 0 0)) (by omega)
  unfold cellsAt
  rw [this]
  rfl
theorem wide_six {l : List Int} (h : kind (l.getD 0 0) = 6) : wide l = if pair l then 2 else 1 := by
  unfold wide
  rw [if_neg (by omega), vary_no (by omega)]
  have := cells_one (k := kind (l.getD 0 0)) (by omega)
  unfold cellsAt
  rw [this]
  cases pair l <;> rfl
theorem wide_one {l : List Int} (h : kind (l.getD 0 0) = 0 ∨ kind (l.getD 0 0) = 9) : wide l = 1 := by
  unfold wide
  rw [if_neg (by omega), pair_no (by omega), vary_no (by omega)]
  exact cells_one (by omega)

set_option maxRecDepth 100000 in
set_option maxHeartbeats 4000000 in
theorem refWide_any (v : Value) (l : List Int) (w : World) (hl : l ≠ []) (hlen : l.length ≤ 35184372088832) (hv : run.Reads w v (rv l)) : Calls Tryz.prog 113 #[v] w fun e w' => e = .returned (.int .i64 (wide l)) ∧ Below w.heap.size w w' := by
  obtain ⟨b, off, cap, rfl, hb, hc⟩ := reads_get hv (by intro e; exact hl (List.map_eq_nil_iff.1 e))
  rw [rv_length]
  have HC : Hid (∀ i, i < l.length → w.cell? ⟨b, off + i, none⟩ = some (.int .i32 (l.getD i 0))) := run.hid (fun i hi => hc i _ (rv_get hi))
  have h0 : 0 < l.length := List.length_pos_iff.2 hl
  have hc0 : w.cell? ⟨b, off, none⟩ = some (.int .i32 (l.getD 0 0)) := HC.out 0 h0
  clear hc hv
  have W0 := run.hid (@wide_zero l)
  have W2 := run.hid (@wide_two l)
  have W8 := run.hid (@wide_eight l)
  have W6 := run.hid (@wide_six l)
  have W1 := run.hid (@wide_one l)
  have HP : Hid (pair l = true ↔ kind (l.getD 0 0) = 6 ∧ 1 < l.length ∧ kind (l.getD 1 0) = 6) := run.hid pair_iff
  have HV : Hid (vary l = true ↔ kind (l.getD 0 0) = 8 ∧ 1 < l.length ∧ l.getD 1 0 = 0xfe0f) := run.hid vary_iff
  have hkl := kind_le (l.getD 0 0)
  generalize l.getD 0 0 = r0 at *
  clear hl
  have HK := run.hid (fun r w => refKindK r w)
  generalize wide l = wd at *
  generalize pair l = pr at *
  generalize vary l = vr at *
  generalize l.length = N at *
  go_enter Tryz.func113, Tryz.ntmps113
  go_wp2_with fail
  refine (HK.out r0 w).mono ?_
  generalize kind r0 = k0 at *
  rintro e w1 ⟨rfl, hb1⟩
  by_cases c0 : k0 = 1 ∨ k0 = 2 ∨ k0 = 3 ∨ k0 = 4
  · have E := run.hid (W0.out c0)
    clear W0 W2 W8 W6 W1 HP HV
    rcases c0 with rfl | rfl | rfl | rfl
    all_goals
      go_wp2
      go_ret
      exact ⟨by rw [E.out]; rfl, hb1⟩
  by_cases c2 : k0 = 7 ∨ k0 = 5
  · have E := run.hid (W2.out c2)
    clear W0 W2 W8 W6 W1 HP HV
    rcases c2 with rfl | rfl
    all_goals
      go_wp2
      go_ret
      exact ⟨by rw [E.out]; rfl, hb1⟩
  by_cases c1 : k0 = 0 ∨ k0 = 9
  · have E := run.hid (W1.out c1)
    clear W0 W2 W8 W6 W1 HP HV
    rcases c1 with rfl | rfl
    all_goals
      go_wp2
      go_ret
      exact ⟨by rw [E.out]; rfl, hb1⟩
  by_cases c8 : k0 = 8
  · have E := run.hid (W8.out c8)
    clear W0 W2 W8 W6 W1 HP
    subst c8
    by_cases h2 : 1 < N
    · have hc1 := (hb1.cell (p := ⟨b, off + 1, none⟩) hb).trans (HC.out 1 h2)
      generalize l.getD 1 0 = r1 at *
      by_cases h3 : r1 = 0xfe0f
      · obtain rfl : vr = true := HV.out.2 (by refine ⟨?_, h2, h3⟩; first | rfl | trivial)
        subst h3
        go_wp2
        go_ret
        exact ⟨by rw [E.out]; rfl, hb1⟩
      · obtain rfl : vr = false := by rw [← Bool.not_eq_true, HV.out]; exact fun h => h3 h.2.2
        have h3' : (r1 == 65039) = false := by simpa using h3
        go_wp2
        go_ret
        exact ⟨by rw [E.out]; rfl, hb1⟩
    · obtain rfl : vr = false := by rw [← Bool.not_eq_true, HV.out]; exact fun h => h2 h.2.1
      go_wp2
      go_ret
      exact ⟨by rw [E.out]; rfl, hb1⟩
  · obtain rfl : k0 = 6 := by omega
    have E := run.hid (W6.out rfl)
    clear W0 W2 W8 W6 W1 HV c0 c2 c1 c8
    by_cases h2 : 1 < N
    · have hc1 := (hb1.cell (p := ⟨b, off + 1, none⟩) hb).trans (HC.out 1 h2)
      generalize l.getD 1 0 = r1 at *
      go_wp2_with fail
      refine (HK.out r1 _).mono ?_
      generalize kind r1 = k1 at *
      rintro e w3 ⟨rfl, hb3⟩
      have hB3 := hb1.trans (hb3.mono hb1.size)
      by_cases h3 : k1 = 6
      · obtain rfl : pr = true := HP.out.2 (by refine ⟨?_, h2, h3⟩; first | rfl | trivial)
        subst h3
        go_wp2
        go_ret
        exact ⟨by rw [E.out]; rfl, hB3⟩
      · obtain rfl : pr = false := by rw [← Bool.not_eq_true, HP.out]; exact fun h => h3 h.2.2
        have h3' : ((k1 : Int) == 6) = false := by simp; omega
        go_wp2
        go_ret
        exact ⟨by rw [E.out]; rfl, hB3⟩
    · obtain rfl : pr = false := by rw [← Bool.not_eq_true, HP.out]; exact fun h => h2 h.2.1
      go_wp2
      go_ret
      exact ⟨by rw [E.out]; rfl, hb1⟩

/-- clusters so far, and those that are left -/
theorem cl_more {l : List Int} {at_ : Nat} {pre : List (List Int)} (h : cl l = pre ++ cl (l.drop at_)) (hlt : at_ < l.length) :
    cl l = (pre ++ [(l.drop at_).take (count (l.drop at_))]) ++ cl (l.drop (at_ + count (l.drop at_))) ∧ 1 ≤ count (l.drop at_) ∧ at_ + count (l.drop at_) ≤ l.length ∧ pre.length < (cl l).length := by
  have hne : l.drop at_ ≠ [] := by intro e; have := congrArg List.length e; rw [List.length_drop] at this; simp at this; omega
  obtain ⟨h1, h2, h3⟩ := count_bounds _ hne
  rw [List.length_drop] at h3
  have hs := cl_step _ hne
  rw [List.drop_drop] at hs
  refine ⟨by rw [h, hs]; simp, h1, by omega, ?_⟩
  rw [h, hs]; simp

theorem reads_part {w : World} {b off N at_ n c : Nat} {l : List Int} (hb : b < w.heap.size) (hc : ∀ i, i < N → w.cell? ⟨b, off + i, none⟩ = some (.int .i32 (l.getD i 0))) (hN : l.length = N) (h : at_ + n ≤ N) :
    run.Reads w (.slice (some ⟨b, off + at_, none⟩) n c) (rv ((l.drop at_).take n)) := by
  have hl : ((l.drop at_).take n).length = n := by rw [List.length_take, List.length_drop]; omega
  refine ⟨_, c, by rw [rv_length, hl], fun _ => ⟨b, off + at_, rfl, hb, ?_⟩, fun h => by cases h⟩
  intro i u hi
  have hi2 : i < n := by
    rcases Nat.lt_or_ge i n with h2 | h2
    · exact h2
    · rw [List.getElem?_eq_none (by rw [rv_length, hl]; exact h2)] at hi; cases hi
  rw [rv_get (by rw [hl]; exact hi2)] at hi
  rw [Nat.add_assoc, hc (at_ + i) (by omega), ← hi]
  simp [List.getD_eq_getElem?_getD, hi2, List.getElem?_drop]
theorem cc_one (pre : List (List Int)) (p : List Int) : cc pre ++ [.string (str (text p)), .int .i64 (wide p)] = cc (pre ++ [p]) := by simp [cc]

set_option maxRecDepth 100000 in
set_option maxHeartbeats 4000000 in
theorem refClusters_any (a : Option Addr) (cap : Nat) (l : List Int) (w : World) (hlen : l.length ≤ 1099511627776) (hcap : l.length ≤ cap) (hv : run.Reads w (.slice a l.length cap) (rv l)) : Calls Tryz.prog 103 #[.slice a l.length cap] w fun e w' =>
    ∃ u, e = .returned u ∧ w'.ownsRow w.heap.size 83 2 u (cl l).length (cc (cl l)) ∧ Below w.heap.size w w' := by
  obtain ⟨i0, hi, hz0, hz1, hz2⟩ := info_parts info_clu
  have HV : Hid (l ≠ [] → ∃ b off, a = some ⟨b, off, none⟩ ∧ b < w.heap.size ∧ ∀ i, i < l.length → w.cell? ⟨b, off + i, none⟩ = some (.int .i32 (l.getD i 0))) := run.hid (fun hne => by
    obtain ⟨b, off, c, e, hb, hc⟩ := reads_get hv (by intro e; exact hne (List.map_eq_nil_iff.1 e))
    simp only [Value.slice.injEq] at e
    obtain ⟨rfl, -, -⟩ := e
    exact ⟨b, off, rfl, hb, fun i hi => hc i _ (rv_get hi)⟩)
  have hcl := cl_length _ l (Nat.le_refl _)
  clear hv
  have HM := run.hid (fun at_ pre => @cl_more l at_ pre)
  generalize hN : l.length = N at *
  have HN := run.hid hN
  clear hN
  go_enter Tryz.func103, Tryz.ntmps103
  go_wp2
  go_loopw [3, 4] (fun vo vi wr => ∃ (at_ : Nat) (pre : List (List Int)), at_ ≤ N ∧ vi = .int .i64 at_ ∧ Hid (cl l = pre ++ cl (l.drop at_)) ∧ wr.ownsRow w.heap.size 83 2 vo pre.length (cc pre) ∧ Below w.heap.size w wr) (fun _ vi _ => ((N : Int) - intOf vi).toNat)
  case atStart => exact ⟨0, [], by omega, rfl, run.hid rfl, World.ownsRow_nil _ _ _ _, Below.refl _ _⟩
  case round =>
    obtain ⟨at_, pre, hat, rfl, HP, hown, hbel⟩ := hrel
    by_cases hlt : at_ < N
    · obtain ⟨b, off, rfl, hb, hc⟩ := HV.out (by intro e; have := HN.out; rw [e] at this; simp at this; omega)
      have hlt' : at_ < l.length := by rw [HN.out]; exact hlt
      obtain ⟨hm1, hm2, hm3, hm4⟩ := HM.out at_ pre HP.out hlt
      have hHM := run.hid hm1
      clear hm1
      have hcw : ∀ i, i < N → wr.cell? ⟨b, off + i, none⟩ = some (.int .i32 (l.getD i 0)) := fun i hi => (hbel.cell (p := ⟨b, off + i, none⟩) hb).trans (hc i hi)
      have hbr := Nat.lt_of_lt_of_le hb hbel.size
      have hne : l.drop at_ ≠ [] := by intro e; have := congrArg List.length e; rw [List.length_drop] at this; simp at this; omega
      have hfull : (l.drop at_).take (N - at_) = l.drop at_ := List.take_of_length_le (by rw [List.length_drop, HN.out]; omega)
      have hR1 := reads_part (at_ := at_) (n := N - at_) (c := cap - at_) hbr hcw HN.out (by omega)
      rw [hfull] at hR1
      have F1 := run.hid (refFirst_any _ (l.drop at_) wr hne (by rw [List.length_drop, HN.out]; omega) hR1)
      have hpl : ((l.drop at_).take (count (l.drop at_))).length = count (l.drop at_) := by rw [List.length_take, List.length_drop, HN.out]; omega
      have hpne : (l.drop at_).take (count (l.drop at_)) ≠ [] := by intro e; rw [e] at hpl; simp at hpl; omega
      have F2 := run.hid (fun (w1 : World) (h1 : Below wr.heap.size wr w1) => refText_any (.slice (some ⟨b, off + at_, none⟩) (count (l.drop at_)) (cap - at_)) _ w1 ((reads_part (at_ := at_) (n := count (l.drop at_)) (c := cap - at_) hbr hcw HN.out (by omega)).below h1) (by rw [hpl]; omega))
      have F3 := run.hid (fun (w1 : World) (h1 : Below wr.heap.size wr w1) => refWide_any (.slice (some ⟨b, off + at_, none⟩) (count (l.drop at_)) (cap - at_)) _ w1 hpne (by rw [hpl]; omega) ((reads_part (at_ := at_) (n := count (l.drop at_)) (c := cap - at_) hbr hcw HN.out (by omega)).below h1))
      clear hR1 hcw hc hne hpne hfull hpl hlt'
      have hneq : ¬ cap = at_ := by omega
      have HCC := run.hid (cc_one pre ((l.drop at_).take (count (l.drop at_))))
      generalize (l.drop at_).take (count (l.drop at_)) = p at *
      generalize hcn : count (l.drop at_) = n at *
      have HCN := run.hid hcn
      clear hcn
      have HCL := run.hid hcl
      go_wp2_with fail
      refine F1.out.mono ?_
      rintro e w1 ⟨rfl, hb1⟩
      go_wp2_with fail
      refine (F2.out w1 hb1).mono ?_
      rintro e w2 ⟨rfl, hb2⟩
      have hb12 := hb1.trans (hb2.mono hb1.size)
      go_wp2_with fail
      refine (F3.out w2 hb12).mono ?_
      rintro e w3 ⟨rfl, hb3⟩
      have hb13 := hb12.trans (hb3.mono hb12.size)
      have hown3 := run.own_below hown hb13
      have hbel3 := hbel.trans (hb13.mono hbel.size)
      have hsz3 := hbel3.size
      clear hb1 hb2 hb3 hb12 hb13 hown F1 F2 F3
      generalize str (text p) = tx at *
      generalize wide p = wd at *
      go_wp2_with (at_builtin; refine wpList_append_own _ rfl _ _ 80 rfl w.heap.size 83 i0 (.agg #[.string ByteArray.empty, .int .i64 0]) 2 24 Tryz.underlying80 hi hz0 hz1 hz2 rfl (by decide) _ _ _ rfl (hown3.alloc _) ⟨w3.heap.size, 0, none⟩ 1 1 [.string tx, .int .i64 wd] rfl rfl (news_two _ _ _ _) (one_two _ _) (by unfold maxLen; omega) (by omega) (by simp; omega) ?_)
      intro v' w4 hown4 hgrow _
      have hbel4 := run.below_append (hbel3.alloc hsz3 (.cells #[.string tx, .int .i64 wd] 83)) (hown3.alloc _) hgrow (by simp; omega)
      rw [HCC.out] at hown4
      clear hown3 hbel3 hgrow hsz3
      have hHP : Hid (cl l = pre ++ [p] ++ cl (l.drop (at_ + n))) := hHM
      go_wp2
      go_roundw
      case rel => exact ⟨at_ + n, pre ++ [p], hm3, by go_num, hHP, by rw [List.length_append, List.length_singleton]; exact hown4, hbel4⟩
      case measure => simp [intOf]; omega
    · obtain rfl : at_ = N := by omega
      have hend : Hid (cl l = pre) := run.hid (by
        have := HP.out
        rwa [List.drop_eq_nil_of_le (Nat.le_of_eq HN.out), cl_nil, List.append_nil] at this)
      go_wp2
      go_ret
      rw [hend.out]
      exact ⟨_, rfl, hown, hbel⟩

set_option maxHeartbeats 1000000 in
theorem refSplit_any (s : ByteArray) (w : World) (hs : s.size ≤ 1099511627776) : Calls Tryz.prog 85 #[.string s] w (Splits s w) := by
  have hl := runes_len s
  have HR := run.hid (fun w => refRunes_use s w (by omega) (by omega))
  unfold Splits
  generalize runes (bs s) = L at *
  go_enter Tryz.func85, Tryz.ntmps85
  go_wp2_with fail
  refine (HR.out _).mono ?_
  rintro e w1 ⟨v1, rfl, hown, hr, hb1, -⟩
  obtain ⟨a, cap, rfl, hcap⟩ : ∃ a cap, v1 = .slice a L.length cap ∧ L.length ≤ cap := by
    obtain ⟨-, h⟩ := hown
    rcases h with ⟨rfl, h0⟩ | ⟨g, cap, cur, rfl, -, -, h1, -⟩
    · exact ⟨none, 0, by rw [h0], by omega⟩
    · exact ⟨_, cap, rfl, h1⟩
  have HC := run.hid (refClusters_any a cap L w1 (by omega) hcap hr)
  generalize L.length = N at *
  go_wp2_with fail
  refine HC.out.mono ?_
  rintro e w2 ⟨u, rfl, hown2, hb2⟩
  have HO := run.hid hown2
  go_wp2
  go_ret
  exact ⟨_, rfl, run.own_mono HO.out hb1.size, hb1.trans (hb2.mono hb1.size)⟩

end Go.Proofs.YtdgcfmfjgidbjaaGreat.clu
end
section
namespace Go.Proofs.YtdgcfmfjgidbjaaGreat.clu
open Go.RowKit Go.Proofs
open Go.Proofs.YtdgcfmfjgidbjaaGreat.wid Go.Proofs.YtdgcfmfjgidbjaaGreat.utf
set_option linter.unusedVariables false

theorem refSplit_use (s : ByteArray) (w : World) (hs : s.size ≤ 1099511627776) : Calls Tryz.prog 85 #[.string s] w fun e w' =>
    ∃ v, e = .returned v ∧ w'.ownsRow w.heap.size 83 2 v (told s).length (cells2 (told s)) ∧ Reads2 w' v (told s) ∧ Below w.heap.size w w' :=
  (refSplit_any s w hs).mono fun _ _ ⟨v, he, ho, hb⟩ => by
    rw [cc_seen, ← seen_length] at ho
    exact ⟨v, he, ho, reads2_own ho, hb⟩

end Go.Proofs.YtdgcfmfjgidbjaaGreat.clu
end
section
namespace Go.Proofs.YtdgcfmfjgidbjaaGreat.clu
open Go.RowKit Go.Proofs
open Go.Proofs.YtdgcfmfjgidbjaaGreat.wid Go.Proofs.YtdgcfmfjgidbjaaGreat.utf
set_option linter.unusedVariables false

set_option maxRecDepth 100000 in
set_option maxHeartbeats 4000000 in
theorem refOne_any (s : ByteArray) (w : World) (hs : s.size ≤ 1099511627776) : Calls Tryz.prog 90 #[.string s] w (OneIs s w) := by
  have HS := run.hid (fun w => refSplit_any s w hs)
  unfold Splits at HS
  have hOK := run.hid (show oneOk s ↔ (cl (runes (bs s))).length = 1 ∧ str (text (runes (bs s))) = s from Iff.rfl)
  have hC1 := run.hid (fun h => @cl_len_one (runes (bs s)) h)
  unfold OneIs
  generalize runes (bs s) = L at *
  go_enter Tryz.func90, Tryz.ntmps90
  have hbel := run.below_one w (.cells #[.string ByteArray.empty, .int .i64 0] 83)
  have hnew := run.heap_new w (.cells #[.string ByteArray.empty, .int .i64 0] 83)
  go_wp2_with fail
  refine (HS.out _).mono ?_
  rintro e w1 ⟨v, rfl, hown, hb1⟩
  have hB := hbel.trans (hb1.mono hbel.size)
  have hnew1 := (hb1.block w.heap.size (by simp)).trans hnew
  by_cases h1 : (cl L).length = 1
  · have h2 := hC1.out h1
    rw [h1, h2] at hown
    obtain ⟨g, cap, rfl⟩ := ownsRow_succ (k := 0) hown
    have hc0 : w1.cell? ⟨g, 0, none⟩ = some (.string (str (text L))) := (hown.cellAt 0 (by simp)).trans rfl
    have hc1 : w1.cell? ⟨g, 1, none⟩ = some (.int .i64 (wide L)) := (hown.cellAt 1 (by simp)).trans rfl
    have hn0 : w1.cell? ⟨w.heap.size, 0, none⟩ = some (.string ByteArray.empty) := by simp [World.cell?, hnew1]
    have hn1 : w1.cell? ⟨w.heap.size, 1, none⟩ = some (.int .i64 0) := by simp [World.cell?, hnew1]
    have hnf : w1.frozen? ⟨w.heap.size, 0, none⟩ = false := by simp [World.frozen?, hnew1]
    have hnf1 : w1.frozen? ⟨w.heap.size, 1, none⟩ = false := by simp [World.frozen?, hnew1]
    have hEQ := run.hid (toList_eq_iff (str (text L)) s)
    by_cases h3 : str (text L) = s
    · have hok := run.hid (hOK.out.2 ⟨h1, h3⟩)
      rw [h3] at hc0
      clear hOK hC1 hEQ HS hown h2 hnew
      generalize hwd : wide L = wd at *
      have HWD := run.hid hwd
      clear hwd
      go_wp2
      have hT := two_cells w1 w.heap.size _ _ (.string s) (.int .i64 wd) _ hnew1
      refine bodyPost_ret (v := .tuple #[.agg #[.string s, .int .i64 wd], .bool true]) ((results_cell_tmp rfl _ _ _).trans (by simp [go_sem, hT.1, hT.2])) rfl ?_
      exact ⟨below_two w w1 _ _ _ hB, .inl ⟨hok.out, by rw [HWD.out]⟩⟩
    · have hok := run.hid (fun h => h3 (hOK.out.1 h).2)
      have hE2 : ((str (text L)).toList == s.toList) = false := by rw [hEQ.out]; exact decide_eq_false h3
      clear hOK hC1 hEQ HS hown h2 hnew
      generalize hwd : wide L = wd at *
      have HWD := run.hid hwd
      clear hwd
      generalize str (text L) = st at *
      go_wp2
      have hT := two_cells w1 w.heap.size _ _ (.string ⟨#[]⟩) (.int .i64 0) _ hnew1
      refine bodyPost_ret (v := .tuple #[.agg #[.string ⟨#[]⟩, .int .i64 0], .bool false]) ((results_cell_tmp rfl _ _ _).trans (by simp [go_sem, hT.1, hT.2])) rfl ?_
      exact ⟨below_two w w1 _ _ _ hB, .inr ⟨hok.out, rfl⟩⟩
  · have hok := run.hid (fun h => h1 (hOK.out.1 h).1)
    obtain ⟨a, cap, rfl⟩ := run.own_value hown
    have hn0 : w1.cell? ⟨w.heap.size, 0, none⟩ = some (.string ByteArray.empty) := by simp [World.cell?, hnew1]
    have hn1 : w1.cell? ⟨w.heap.size, 1, none⟩ = some (.int .i64 0) := by simp [World.cell?, hnew1]
    have hnf : w1.frozen? ⟨w.heap.size, 0, none⟩ = false := by simp [World.frozen?, hnew1]
    have hnf1 : w1.frozen? ⟨w.heap.size, 1, none⟩ = false := by simp [World.frozen?, hnew1]
    clear hOK hC1 HS hown hnew
    generalize (cl L).length = k at *
    go_wp2
    have hT := two_cells w1 w.heap.size _ _ (.string ⟨#[]⟩) (.int .i64 0) _ hnew1
    refine bodyPost_ret (v := .tuple #[.agg #[.string ⟨#[]⟩, .int .i64 0], .bool false]) ((results_cell_tmp rfl _ _ _).trans (by simp [go_sem, hT.1, hT.2])) rfl ?_
    exact ⟨below_two w w1 _ _ _ hB, .inr ⟨hok.out, rfl⟩⟩

end Go.Proofs.YtdgcfmfjgidbjaaGreat.clu
end
