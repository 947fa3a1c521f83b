/-
  The walks of sameLines (of two equal lists), Count; the document's Lines.
-/
import Derived.Test.YtgniobgadilpgaaWrpRefRows
import Derived.Test.YtgniobgadilpgaaWrpLawWakes
import Derived.BigQuiet
namespace Go.Proofs.Ytgniobgadilpgaa.wrp
open Go.RowKit Go.Proofs
open Go.Proofs.Ytgniobgadilpgaa.wid Go.Proofs.Ytgniobgadilpgaa.utf Go.Proofs.Ytgniobgadilpgaa.clu
set_option linter.unusedVariables false

theorem cells4_gets {L : List LV} {i : Nat} (h : i < L.length) (x0 : LV) : (cells4 L)[i * 4]? = some (.string (L.getD i x0).text) ∧ (cells4 L)[i * 4 + 1]? = some (.int .i64 (L.getD i x0).width) ∧ (cells4 L)[i * 4 + 2]? = some (.int .i8 (L.getD i x0).fin) ∧ (cells4 L)[i * 4 + 3]? = some (.string (L.getD i x0).lost) := by
  have e : cells4 L = cells4 (L.take i) ++ (lcells (L.getD i x0) ++ cells4 (L.drop (i + 1))) := by
    have e2 : L = L.take i ++ (L.getD i x0 :: L.drop (i + 1)) := by
      conv => lhs; rw [← List.take_append_drop i L, List.drop_eq_getElem_cons h]
      simp [List.getD_eq_getElem?_getD, h]
    conv => lhs; rw [e2]
    rw [cells4_append]; rfl
  have hl : (cells4 (L.take i)).length = i * 4 := by rw [cells4_length, List.length_take]; congr 1; omega
  rw [e]
  refine ⟨?_, ?_, ?_, ?_⟩
  all_goals
    rw [List.getElem?_append_right (by omega)]
    simp [hl, lcells]
/-- lines to be read -/
def RLs (w : World) (v : Value) (L : List LV) : Prop :=
  ∃ a cap, v = .slice a L.length cap ∧ ∀ i, i < L.length → ∃ b off, a = some ⟨b, off, none⟩ ∧ b < w.heap.size ∧ w.cell? ⟨b, off + i * 4, none⟩ = some (.string (L.getD i ⟨e0, 0, 0, e0⟩).text) ∧ w.cell? ⟨b, off + i * 4 + 1, none⟩ = some (.int .i64 (L.getD i ⟨e0, 0, 0, e0⟩).width) ∧
    w.cell? ⟨b, off + i * 4 + 2, none⟩ = some (.int .i8 (L.getD i ⟨e0, 0, 0, e0⟩).fin) ∧ w.cell? ⟨b, off + i * 4 + 3, none⟩ = some (.string (L.getD i ⟨e0, 0, 0, e0⟩).lost)
theorem rls_own {w : World} {base : Nat} {v : Value} {L : List LV} (h : w.ownsRow base 43 4 v L.length (cells4 L)) : RLs w v L := by
  obtain ⟨a, cap, rfl⟩ := run.own_value h
  refine ⟨a, cap, rfl, fun i hi => ?_⟩
  rcases h.2 with ⟨h1, h2⟩ | ⟨g, cap', cur, h1, -, hg, -, -, -, -⟩
  · omega
  simp only [Value.slice.injEq] at h1
  obtain ⟨rfl, -, rfl⟩ := h1
  obtain ⟨c0, c1, c2, c3⟩ := cells4_gets hi ⟨e0, 0, 0, e0⟩
  have hlt := (Array.getElem?_eq_some_iff.1 hg).1
  have hl : (cells4 L).length = L.length * 4 := cells4_length L
  refine ⟨g, 0, rfl, hlt, ?_, ?_, ?_, ?_⟩
  · rw [show 0 + i * 4 = i * 4 by omega]; exact (h.cellAt (i * 4) (by omega)).trans c0
  · rw [show 0 + i * 4 + 1 = i * 4 + 1 by omega]; exact (h.cellAt (i * 4 + 1) (by omega)).trans c1
  · rw [show 0 + i * 4 + 2 = i * 4 + 2 by omega]; exact (h.cellAt (i * 4 + 2) (by omega)).trans c2
  · rw [show 0 + i * 4 + 3 = i * 4 + 3 by omega]; exact (h.cellAt (i * 4 + 3) (by omega)).trans c3
theorem RLs.below {w w' : World} {v : Value} {L : List LV} (h : RLs w v L) (hb : Below w.heap.size w w') : RLs w' v L := by
  obtain ⟨a, cap, rfl, h⟩ := h
  refine ⟨a, cap, rfl, fun i hi => ?_⟩
  obtain ⟨b, off, ha, hlt, h0, h1, h2, h3⟩ := h i hi
  exact ⟨b, off, ha, Nat.lt_of_lt_of_le hlt hb.size, (hb.cell (p := ⟨b, off + i * 4, none⟩) hlt).trans h0, (hb.cell (p := ⟨b, off + i * 4 + 1, none⟩) hlt).trans h1, (hb.cell (p := ⟨b, off + i * 4 + 2, none⟩) hlt).trans h2, (hb.cell (p := ⟨b, off + i * 4 + 3, none⟩) hlt).trans h3⟩

set_option maxRecDepth 100000 in
set_option maxHeartbeats 4000000 in
theorem sameLines_eq (u v : Value) (L : List LV) (w : World) (hu : RLs w u L) (hv : RLs w v L) (hL : L.length ≤ 1099511627776) : Calls Try.prog 28 #[u, v] w fun e w' => e = .returned (.bool true) ∧ Below w.heap.size w w' := by
  obtain ⟨a1, k1, rfl, h1⟩ := hu
  obtain ⟨a2, k2, rfl, h2⟩ := hv
  have R1 := run.hid h1
  have R2 := run.hid h2
  clear h1 h2
  generalize hN : L.length = N at *
  go_enter Try.func28, Try.ntmps28
  go_wp2
  go_loopw [5] (fun vi wr => ∃ i : Nat, i ≤ N ∧ vi = .int .i64 i ∧ Below w.heap.size w wr) (fun vi _ => ((N : Int) - intOf vi).toNat)
  case atStart => exact ⟨0, by omega, rfl, Below.refl _ _⟩
  case round =>
    obtain ⟨i, hi, rfl, hbel⟩ := hrel
    by_cases hlt : i < N
    · obtain ⟨b1, o1, rfl, hlb1, x0, x1, x2, x3⟩ := R1.out i hlt
      obtain ⟨b2, o2, rfl, hlb2, y0, y1, y2, y3⟩ := R2.out i hlt
      replace x0 := (hbel.cell (p := ⟨b1, o1 + i * 4, none⟩) hlb1).trans x0
      replace x1 := (hbel.cell (p := ⟨b1, o1 + i * 4 + 1, none⟩) hlb1).trans x1
      replace x2 := (hbel.cell (p := ⟨b1, o1 + i * 4 + 2, none⟩) hlb1).trans x2
      replace x3 := (hbel.cell (p := ⟨b1, o1 + i * 4 + 3, none⟩) hlb1).trans x3
      replace y0 := (hbel.cell (p := ⟨b2, o2 + i * 4, none⟩) hlb2).trans y0
      replace y1 := (hbel.cell (p := ⟨b2, o2 + i * 4 + 1, none⟩) hlb2).trans y1
      replace y2 := (hbel.cell (p := ⟨b2, o2 + i * 4 + 2, none⟩) hlb2).trans y2
      replace y3 := (hbel.cell (p := ⟨b2, o2 + i * 4 + 3, none⟩) hlb2).trans y3
      generalize L.getD i ⟨e0, 0, 0, e0⟩ = ln at *
      obtain ⟨tt, tw, tf, tl⟩ := ln
      dsimp only at x0 x1 x2 x3 y0 y1 y2 y3
      clear R1 R2 hN
      go_upto_region 6 with fail
      go_quiet (fail)
      go_wp2
      go_roundw
      case rel => exact ⟨i + 1, by omega, by go_num, below_drewN hbel _⟩
      case measure => simp [intOf]; omega
    · obtain rfl : i = N := by omega
      clear R1 R2 hN
      go_wp2
      go_ret
      exact ⟨rfl, hbel⟩

theorem count_any (s : ByteArray) (wd mode : Int) (w : World) (hs : s.size ≤ 16777216) : Calls Try.prog 30 #[.string s, .int .i64 wd, .int .i8 mode] w fun e w' => e = .returned (.int .i64 ((linesT s wd mode).length : Nat)) ∧ Below w.heap.size w w' := by
  have HL := run.hid (lines_any s wd mode w hs)
  generalize linesT s wd mode = L at *
  go_enter Try.func30, Try.ntmps30
  go_wp2_with fail
  refine HL.out.mono ?_
  rintro e w1 ⟨v1, rfl, hown, hb⟩
  obtain ⟨a, c, rfl⟩ := run.own_value hown
  clear hown HL
  go_wp2
  go_ret
  exact ⟨rfl, hb⟩

theorem cells4_one (L : List LV) : ∀ u ∈ cells4 L, u.oneCell' = true := by
  intro u hu
  unfold cells4 at hu
  obtain ⟨x, -, hx⟩ := List.mem_flatMap.1 hu
  simp only [lcells, List.mem_cons, List.not_mem_nil, or_false] at hx
  rcases hx with rfl | rfl | rfl | rfl <;> rfl

set_option maxRecDepth 100000 in
set_option maxHeartbeats 4000000 in
theorem refLines_any (s : ByteArray) (wd mode : Int) (w : World) (hs : s.size ≤ 16777216) : Calls Try.prog 29 #[.string s, .int .i64 wd, .int .i8 mode] w fun e w' =>
    ∃ v, e = .returned v ∧ w'.ownsRow w.heap.size 43 4 v (linesT s wd mode).length (cells4 (linesT s wd mode)) ∧ Below w.heap.size w w' := by
  obtain ⟨ir, hir, hr0, hr1, hr2⟩ := info_parts info_line
  by_cases h1 : wd < 1
  · have HT : Hid (linesT s wd mode = []) := by show _ = _; unfold linesT; rw [if_pos h1]
    go_enter Try.func29, Try.ntmps29
    go_wp2
    go_ret
    rw [HT.out]
    exact ⟨_, rfl, World.ownsRow_nil _ _ _ _, Below.refl _ _⟩
  · have HT : Hid (linesT s wd mode = linesTo wd.toNat (modeOf mode) (rowsT (flow s)) (rowsT (flow s)).length) := by show _ = _; unfold linesT; rw [if_neg h1]
    obtain ⟨n, rfl⟩ : ∃ n : Nat, wd = n := ⟨wd.toNat, by omega⟩
    rw [Int.toNat_natCast] at HT
    have HRO := run.hid (refRows_any s w hs)
    have hok := flow_ok s
    have hfl : (flow s).length ≤ 67108864 := by have := flow_len s; omega
    generalize linesT s n mode = LT at *
    generalize flow s = X at *
    have hwe := rowsT_weigh X
    have hRl := rowsT_len X
    have HWE := run.hid hwe
    have HRL := run.hid (fun i => @row_len X i)
    have HRK := run.hid (fun i => @row_ok X hok i)
    generalize rowsT X = all at *
    have HMO := run.hid (show modeOf mode = modeOf mode from rfl)
    have HROW := run.hid (fun (v : Value) (r0 : List TV) (fin : Nat) (w : World) h1 h2 h3 => refRow_any v r0 n (modeOf mode) fin mode rfl w h1 h2 h3)
    generalize modeOf mode = m at *
    have HNX := run.hid (fun i => linesTo_next n m all i)
    have HLL := run.hid (fun i h => Nat.le_trans (linesTo_len n m all i h) (Nat.le_trans (weigh_take all i) HWE.out))
    have HRW := run.hid (fun i => show rowOf n m all i = rowL n m (finOf all.length i) ((all.getD i []).length + 1) (all.getD i []) from rfl)
    clear hwe hok HMO
    generalize hR : all.length = R at *
    go_enter Try.func29, Try.ntmps29
    go_wp2_with fail
    refine HRO.out.mono ?_
    rintro e w1 ⟨v1, vs, rfl, hown1, hrows, hb1⟩
    have hs1 := hb1.size
    have HRS := run.hid (fun w' (h : Below w1.heap.size w1 w') i (hi : i < all.length) => (hrows.2 i hi).below h)
    have hvl := hrows.1
    obtain ⟨a1, c1, rfl⟩ := run.own_value hown1
    have HA := run.hid (fun k (h : k < R) => show ∃ b off, a1 = some ⟨b, off, none⟩ ∧ b < w1.heap.size ∧ w1.cell? ⟨b, off + k, none⟩ = some (vs.getD k (.bool false)) from by
      obtain ⟨b, off, cap', he, hb, hc⟩ := reads_get (run.reads_own hown1) (by intro e; rw [e] at hvl; simp at hvl; omega)
      simp only [Value.slice.injEq] at he
      exact ⟨b, off, he.1, hb, hc k _ (by simp [List.getD_eq_getElem?_getD, show k < vs.length by omega])⟩)
    clear hown1 hrows hvl HRO
    go_wp2
    go_loopw [8, 9] (fun vo vi wr => ∃ (i lo : Nat), i ≤ R ∧ vi = .int .i64 i ∧ Hid (wr.ownsRow w1.heap.size 43 4 vo lo (cells4 (linesTo n m all i))) ∧ Hid (lo = (linesTo n m all i).length) ∧ Below w1.heap.size w1 wr) (fun _ vi _ => ((R : Int) - intOf vi).toNat)
    case atStart => exact ⟨0, 0, by omega, rfl, World.ownsRow_nil _ _ _ _, rfl, Below.refl _ _⟩
    case round =>
      obtain ⟨i, lo, hi, rfl, HOWN, HLO, hbel⟩ := hrel
      have hsz := hbel.size
      by_cases hlt : i < R
      · obtain ⟨b, off, rfl, hb, hc⟩ := HA.out i hlt
        replace hc := (hbel.cell (p := ⟨b, off + i, none⟩) hb).trans hc
        have hr0 := HRS.out wr hbel i (by omega)
        have hl0 := HRL.out i
        have HK0 := run.hid (HRK.out i)
        have hnl := HLL.out (i + 1) (by omega)
        rw [HNX.out i, List.length_append, HRW.out i, ← HLO.out] at hnl
        have HN : Hid (linesTo n m all (i + 1) = linesTo n m all i ++ rowL n m (finOf R i) ((all.getD i []).length + 1) (all.getD i [])) := by show _ = _; rw [HNX.out i, HRW.out i]
        have HCALL := run.hid (fun fin => HROW.out (vs.getD i (.bool false)) (all.getD i []) fin wr hr0 HK0.out (by omega))
        generalize vs.getD i (.bool false) = v0 at *
        generalize all.getD i [] = r0 at *
        obtain ⟨fin, hfin⟩ : ∃ fin, finOf R i = fin := ⟨_, rfl⟩
        rw [hfin] at HN hnl
        clear HA HRS HRL HRK HNX HRW HLL HWE hR HROW hr0
        go_upto_if 25 with fail
        go_cut [10] (fun c wx => c = .int .i8 fin ∧ wx = wr)
        case first =>
          by_cases hl : i + 1 = R
          · have e : fin = 0 := by rw [← hfin]; unfold finOf; rw [if_pos hl]
            subst e
            have h2 : ((i : Int) == (R : Int) - 1) = true := by rw [beq_iff_eq]; omega
            clear hfin
            go_wp2
            go_meet
            exact ⟨rfl, rfl⟩
          · have e : fin = 1 := by rw [← hfin]; unfold finOf; rw [if_neg hl]
            subst e
            have h2 : ((i : Int) == (R : Int) - 1) = false := by rw [beq_eq_false_iff_ne]; omega
            clear hfin
            go_wp2
            go_meet
            exact ⟨rfl, rfl⟩
        obtain ⟨rfl, hww⟩ := hcut
        replace hww := hww.symm
        subst hww
        clear hfin
        have HC2 := run.hid (HCALL.out fin)
        have HN2 := run.hid (fun L h => (HN.out.trans (congrArg (linesTo n m all i ++ ·) (h : rowL n m fin (r0.length + 1) r0 = L))))
        obtain ⟨LR, hLR⟩ : ∃ LR, rowL n m fin (r0.length + 1) r0 = LR := ⟨_, rfl⟩
        rw [hLR] at HC2 hnl
        have HN3 := run.hid (HN2.out LR hLR)
        clear HCALL HN HN2 hLR HK0
        go_wp2_with fail
        refine HC2.out.mono ?_
        rintro e w3 ⟨u3, rfl, hown3, hb3⟩
        have hs3 := hb3.size
        have c3 := hbel.trans (hb3.mono hsz)
        have HOW3 := run.hid (run.own_below HOWN.out hb3)
        have HRD := run.hid (run.readsN_own hown3)
        clear HOWN hown3 hb3 HC2
        go_wp2_with (at_builtin; refine run.wpList_append_any _ rfl _ _ 39 rfl w1.heap.size 43 ir (.agg #[.string ByteArray.empty, .int .i64 0, .int .i8 0, .string ByteArray.empty]) 4 48 Try.underlying39 hir hr0 hr1 hr2 rfl (by decide) _ _ _ rfl HOW3.out _ LR.length (cells4 LR) rfl HRD.out (cells4_one LR) (by unfold maxLen; omega) (by omega) (by omega) ?_)
        intro v' w5 hown5 hgrow hold hstep
        have c5 := run.below_append c3 HOW3.out hgrow (by omega)
        have H5 : Hid (w5.ownsRow w1.heap.size 43 4 v' (lo + LR.length) (cells4 (linesTo n m all (i + 1)))) := by
          show World.ownsRow _ _ _ _ _ _ _; rw [HN3.out, cells4_append]; exact hown5
        have HLO2 : Hid (lo + LR.length = (linesTo n m all (i + 1)).length) := by show _ = _; rw [HN3.out, List.length_append, ← HLO.out]
        clear hown5 hgrow hold hstep HOW3 HRD HN3 HLO
        go_wp2
        go_roundw
        case rel => exact ⟨i + 1, lo + LR.length, by omega, by go_num, H5, HLO2, c5⟩
        case measure => simp [intOf]; omega
      · obtain rfl : i = R := by omega
        have HF := run.hid (run.own_mono HOWN.out hs1)
        rw [HLO.out] at HF
        have hbf := hb1.trans (hbel.mono hs1)
        clear HA HRS HRL HRK HNX HRW HLL HWE hR HROW HOWN
        go_wp2
        go_ret
        rw [HT.out]
        exact ⟨_, rfl, HF.out, hbf⟩

end Go.Proofs.Ytgniobgadilpgaa.wrp
