/-
  The walk of the layer wrap: Align.
-/
import Derived.Test.YtmjmmoecplndmaaWrpTrim
namespace Go.Proofs.Ytmjmmoecplndmaa.wrp
open Go.RowKit Go.Proofs
open Go.Proofs.Ytmjmmoecplndmaa.wid Go.Proofs.Ytmjmmoecplndmaa.utf Go.Proofs.Ytmjmmoecplndmaa.clu
set_option linter.unusedVariables false

def blanksT (n : Nat) : ByteArray := ⟨(blanksL n).toArray⟩
theorem blanksT_size (n : Nat) : (blanksT n).size = n := by
  show (blanksL n).toArray.size = n
  rw [List.size_toArray]; unfold blanksL; rw [List.length_replicate]
theorem blanks_use (n : Nat) (w : World) (hn : n ≤ 140737488355328) : Calls Try.prog 45 #[.int .i64 n] w fun e w' => e = .returned (.string (blanksT n)) ∧ Below w.heap.size w w' := blanks_any n w hn

/-- how many blanks -/
def gapsT (X : List TV) : Nat := (X.filter fun q => decide (q.1 = sp)).length
theorem gapsT_take {X : List TV} {i : Nat} (h : i < X.length) : gapsT (X.take (i + 1)) = gapsT (X.take i) + if (X.getD i t0).1 = sp then 1 else 0 := by
  rw [List.take_succ_eq_append_getElem h]
  unfold gapsT
  rw [List.filter_append, List.length_append]
  simp only [List.getD_eq_getElem?_getD, List.getElem?_eq_getElem h, Option.getD_some, List.filter_cons, List.filter_nil]
  split <;> simp_all
theorem gapsT_le (X : List TV) : gapsT X ≤ X.length := List.length_filter_le _ _
theorem gapsT_take_le (X : List TV) (i : Nat) : gapsT (X.take i) ≤ gapsT X := by
  have h : gapsT X = gapsT (X.take i) + gapsT (X.drop i) := by unfold gapsT; rw [← List.length_append, ← List.filter_append, List.take_append_drop]
  omega
/-- one cluster more, and the blanks behind it -/
def fillF (free gaps : Nat) (st : List UInt8 × Nat) (q : TV) : List UInt8 × Nat :=
  if q.1 = sp then (st.1 ++ q.1.data.toList ++ blanksL ((free + gaps - 1 - st.2) / gaps), st.2 + 1) else (st.1 ++ q.1.data.toList, st.2)
def fillS (free gaps : Nat) (X : List TV) : List UInt8 × Nat := X.foldl (fillF free gaps) ([], 0)
theorem fillS_take {free gaps : Nat} {X : List TV} {i : Nat} (h : i < X.length) : fillS free gaps (X.take (i + 1)) = fillF free gaps (fillS free gaps (X.take i)) (X.getD i t0) := by
  unfold fillS
  rw [List.take_succ_eq_append_getElem h, List.foldl_append]
  simp [List.getD_eq_getElem?_getD, h]
theorem fillS_gaps (free gaps : Nat) (X : List TV) : ∀ i, i ≤ X.length → (fillS free gaps (X.take i)).2 = gapsT (X.take i)
  | 0, _ => by simp [fillS, gapsT]
  | i + 1, h => by
    rw [fillS_take (by omega), gapsT_take (by omega)]
    unfold fillF
    split
    · rw [← fillS_gaps free gaps X i (by omega)]
    · rw [← fillS_gaps free gaps X i (by omega)]; rfl
theorem fillS_len {free gaps : Nat} {X : List TV} (ho : Ok X) (hf : free ≤ 4096) (hg : 1 ≤ gaps) : ∀ i, i ≤ X.length → (fillS free gaps (X.take i)).1.length ≤ 8192 * i
  | 0, _ => by simp [fillS]
  | i + 1, h => by
    have ih := fillS_len ho hf hg i (by omega)
    have hq := (ho (X.getD i t0) (by rw [List.getD_eq_getElem?_getD, List.getElem?_eq_getElem (by omega)]; exact List.getElem_mem _)).1
    have e2 : (X.getD i t0).1.data.toList.length = (X.getD i t0).1.size := rfl
    rw [fillS_take (by omega)]
    unfold fillF
    split
    · have hb : (free + gaps - 1 - (fillS free gaps (X.take i)).2) / gaps ≤ 4097 := by
        have h1 : free + gaps - 1 - (fillS free gaps (X.take i)).2 ≤ 4096 + gaps := by omega
        have h2 := Nat.div_le_div_right (c := gaps) h1
        rw [Nat.add_div_right _ (by omega)] at h2
        have h3 := Nat.div_le_self 4096 gaps
        omega
      simp only [List.length_append, e2, blanksL, List.length_replicate]
      omega
    · simp only [List.length_append, e2]
      omega

def alignT (s : ByteArray) (wd how : Int) : ByteArray :=
  let n := sideN wd
  let c := (lineT s).take (fitT (lineT s) n)
  let free := n - wideT c
  if how = 1 then blanksT free ++ joinT c
  else if how = 2 then blanksT (free / 2) ++ joinT c ++ blanksT (free - free / 2)
  else if how = 5 ∧ gapsT c ≠ 0 then ⟨(fillS free (gapsT c) c).1.toArray⟩
  else joinT c ++ blanksT free

set_option maxHeartbeats 4000000 in
theorem align_any (s : ByteArray) (wd : Int) (how : Int) (w : World) (hs : s.size ≤ 16777216) : Calls Try.prog 24 #[.string s, .int .i64 wd, .int .i8 how] w fun e w' => e = .returned (.string (alignT s wd how)) ∧ Below w.heap.size w w' := by
  have HLS := run.hid (fun w => line_any s w (by omega))
  have hoc := line_ok s
  have hlc : (lineT s).length ≤ 67108864 := by have := line_len s; omega
  have hn := sideN_eq wd
  have hn2 := sideN_le wd
  have HT2 := run.hid (show alignT s wd how = _ from rfl)
  unfold alignT at HT2
  have HT2 : Hid (alignT s wd how = _) := HT2
  generalize alignT s wd how = T at *
  generalize lineT s = M at *
  generalize sideN wd = n at *
  have OM := run.hid hoc
  clear hoc hs
  go_enter Try.func24, Try.ntmps24
  go_wp2_with fail
  refine (HLS.out _).mono ?_
  rintro e w1 ⟨v1, rfl, hr1, hb1⟩
  have hs1 := hb1.size
  obtain ⟨a, cap, rfl⟩ : ∃ a cap, v1 = .slice a M.length cap := by obtain ⟨a, cap, h, -⟩ := hr1; exact ⟨a, cap, h⟩
  have HM := hr1.all
  have hcapm := hr1.slice.2
  have hk := fitT_le M n
  clear HLS hr1
  have HF := run.hid (fun w' h => fit_use (.slice a M.length cap) M n w' (HM.out w' h) OM.out (by omega) (by omega))
  have HC : Hid (∀ w', Below w1.heap.size w1 w' → RS w' (.slice a (fitT M n) cap) (M.take (fitT M n))) := fun w' h => (HM.out w' h).take _ (fitT_le M n)
  have hwm := fitT_wide M n
  generalize fitT M n = k at *
  have hlk : (M.take k).length = k := by rw [List.length_take]; omega
  have OC := run.hid (OM.out.take k)
  generalize M.take k = C at *
  generalize M.length = N at *
  go_wp2_with fail
  refine (HF.out _ (Below.refl _ _)).mono ?_
  rintro e w2 ⟨rfl, hb2⟩
  have hkc : k ≤ cap := by omega
  clear HF HM
  go_wp2_with fail
  refine (wide_use _ _ _ (HC.out _ hb2) OC.out (by omega)).mono ?_
  rintro e w3 ⟨rfl, hb3⟩
  have c3 := hb2.trans (hb3.mono hb2.size)
  obtain ⟨r, hr⟩ : ∃ r, n - wideT C = r := ⟨_, rfl⟩
  rw [hr] at HT2
  have hr2 : (n : Int) - (wideT C : Nat) = (r : Int) := by omega
  have hrn : r ≤ 4096 := by omega
  generalize wideT C = wm at *
  clear hr hb3 hb2
  by_cases h1 : how = 1
  · subst h1
    have HT0 := run.hid (HT2.out.trans (if_pos rfl))
    clear HT2
    go_wp2_with fail
    refine (blanks_use r _ (by omega)).mono ?_
    rintro e w4 ⟨rfl, hb4⟩
    have c4 := c3.trans (hb4.mono c3.size)
    go_wp2_with fail
    refine (join_use _ _ _ (HC.out _ c4) OC.out (by omega)).mono ?_
    rintro e w5 ⟨rfl, hb5⟩
    have c5 := c4.trans (hb5.mono c4.size)
    have sz1 := joinT_size OC.out (by omega)
    have sz2 := blanksT_size r
    have hb := hb1.trans (c5.mono hs1)
    generalize joinT C = j1 at *
    generalize blanksT r = j2 at *
    have hadd : ¬ 9223372036854775807 < j2.size + j1.size := by omega
    go_wp2
    go_ret
    exact ⟨by rw [HT0.out]; rfl, hb⟩
  by_cases h2 : how = 2
  · subst h2
    have HT0 := run.hid ((HT2.out.trans (if_neg (by decide))).trans (if_pos rfl))
    clear HT2
    obtain ⟨q, hq⟩ : ∃ q, r / 2 = q := ⟨_, rfl⟩
    obtain ⟨p, hp⟩ : ∃ p, r - q = p := ⟨_, rfl⟩
    rw [hq, hp] at HT0
    have hq2 : (r : Int) / 2 = (q : Int) := by omega
    have hp2 : (r : Int) - (q : Int) = (p : Int) := by omega
    have hqr : q ≤ 4096 ∧ p ≤ 4096 ∧ q ≤ r := by omega
    clear hq hp
    go_wp2_with fail
    refine (blanks_use q _ (by omega)).mono ?_
    rintro e w4 ⟨rfl, hb4⟩
    have c4 := c3.trans (hb4.mono c3.size)
    go_wp2_with fail
    refine (join_use _ _ _ (HC.out _ c4) OC.out (by omega)).mono ?_
    rintro e w5 ⟨rfl, hb5⟩
    have c5 := c4.trans (hb5.mono c4.size)
    have sz1 := joinT_size OC.out (by omega)
    have sz2 := blanksT_size q
    generalize joinT C = j1 at *
    generalize blanksT q = j2 at *
    have hadd : ¬ 9223372036854775807 < j2.size + j1.size := by omega
    go_wp2_with fail
    refine (blanks_use p _ (by omega)).mono ?_
    rintro e w6 ⟨rfl, hb6⟩
    have c6 := c5.trans (hb6.mono c5.size)
    have hb := hb1.trans (c6.mono hs1)
    have sz3 := blanksT_size p
    generalize blanksT p = j3 at *
    have hsz12 : (j2 ++ j1).size = j2.size + j1.size := ByteArray.size_append
    have hadd2 : ¬ 9223372036854775807 < (j2 ++ j1).size + j3.size := by omega
    generalize j2 ++ j1 = j12 at *
    go_wp2
    go_ret
    exact ⟨by rw [HT0.out]; rfl, hb⟩
  have h1' : (how == 1) = false := beq_eq_false_iff_ne.2 h1
  have h2' : (how == 2) = false := beq_eq_false_iff_ne.2 h2
  have HT0 := run.hid ((HT2.out.trans (if_neg h1)).trans (if_neg h2))
  clear HT2
  by_cases h5 : how = 5
  · subst h5
    have HT1 := run.hid (fun (h : gapsT C ≠ 0) => HT0.out.trans (if_pos ⟨rfl, h⟩))
    have HT3 := run.hid (fun (h : gapsT C = 0) => HT0.out.trans (if_neg (fun h' => h'.2 h)))
    clear HT0
    have HGT := run.hid (fun i => @gapsT_take C i)
    have HGE := run.hid (gapsT_le C)
    have HGTL := run.hid (fun i => gapsT_take_le C i)
    have HEND : Hid (C.take k = C) := List.take_of_length_le (by omega)
    have HCELL := run.hid (fun (i : Nat) (hi : i < k) => show ∃ b off, a = some ⟨b, off, none⟩ ∧ b < w1.heap.size ∧ w1.cell? ⟨b, off + i * 2, none⟩ = some (.string (C.getD i t0).1) ∧ w1.cell? ⟨b, off + i * 2 + 1, none⟩ = some (.int .i64 ((C.getD i t0).2 : Nat)) from by
      obtain ⟨a', cap', e, -, hc⟩ := HC.out w1 (Below.refl _ _)
      simp only [Value.slice.injEq] at e
      obtain ⟨rfl, -, -⟩ := e
      exact hc i (by omega))
    have HG0 : Hid (gapsT (C.take 0) = 0) := by show _ = _; simp [gapsT]
    go_wp2_with fail
    go_loopw [9, 56] (fun vg vi wr => ∃ i : Nat, i ≤ k ∧ vi = .int .i64 i ∧ vg = .int .i64 (gapsT (C.take i) : Nat) ∧ Below w1.heap.size w1 wr) (fun _ vi _ => ((k : Int) - intOf vi).toNat)
    case atStart => exact ⟨0, by omega, rfl, by rw [HG0.out]; rfl, c3⟩
    case round =>
      obtain ⟨i, hi, rfl, rfl, hbel⟩ := hrel
      by_cases hlt : i < k
      · obtain ⟨b1, o1, rfl, hlb1, hx0, hx1⟩ := HCELL.out i hlt
        replace hx0 := (hbel.cell (p := ⟨b1, o1 + i * 2, none⟩) hlb1).trans hx0
        replace hx1 := (hbel.cell (p := ⟨b1, o1 + i * 2 + 1, none⟩) hlb1).trans hx1
        have HTi := run.hid (HGT.out i (by omega))
        have hle := Nat.le_trans (HGTL.out i) HGE.out
        rw [hlk] at hle
        unfold t0 at HTi hx0 hx1
        generalize C.getD i (ByteArray.empty, 0) = q at *
        obtain ⟨qs, qw⟩ := q
        dsimp only at hx0 hx1 HTi
        have hbn := hbel.alloc hbel.size (.cells #[.string qs, .int .i64 qw] 29)
        have hbeq := sp_eq qs
        generalize gapsT (C.take i) = sm at *
        by_cases h9 : qs = sp
        · have HTj := run.hid (HTi.out.trans (congrArg (sm + ·) (if_pos h9)))
          rw [decide_eq_true h9] at hbeq
          clear HCELL HGT HGTL HGE HEND HT1 HT3 HTi h9 HG0 HC
          go_wp2
          go_roundw
          case rel => exact ⟨i + 1, by omega, by go_num, by rw [HTj.out]; go_num, hbn⟩
          case measure => simp [intOf]; omega
        · have HTj := run.hid (HTi.out.trans (congrArg (sm + ·) (if_neg h9)))
          rw [decide_eq_false h9] at hbeq
          clear HCELL HGT HGTL HGE HEND HT1 HT3 HTi h9 HG0 HC
          go_wp2
          go_roundw
          case rel => exact ⟨i + 1, by omega, by go_num, by rw [HTj.out]; rfl, hbn⟩
          case measure => simp [intOf]; omega
      · obtain rfl : i = k := by omega
        rw [HEND.out]
        by_cases hG : gapsT C = 0
        · have HT0 := run.hid (HT3.out hG)
          rw [hG]
          clear HT1 HT3 HGT HGTL HGE HCELL HG0 HEND
          go_wp2_with fail
          refine (join_use _ _ _ (HC.out _ hbel) OC.out (by omega)).mono ?_
          rintro e w4 ⟨rfl, hb4⟩
          have c4 := hbel.trans (hb4.mono hbel.size)
          go_wp2_with fail
          refine (blanks_use r _ (by omega)).mono ?_
          rintro e w5 ⟨rfl, hb5⟩
          have c5 := c4.trans (hb5.mono c4.size)
          have sz1 := joinT_size OC.out (by omega)
          have sz2 := blanksT_size r
          have hb := hb1.trans (c5.mono hs1)
          generalize joinT C = j1 at *
          generalize blanksT r = j2 at *
          have hadd : ¬ 9223372036854775807 < j1.size + j2.size := by omega
          go_wp2
          go_ret
          exact ⟨by rw [HT0.out]; rfl, hb⟩
        · have HT0 := run.hid (HT1.out hG)
          have hGl := HGE.out
          rw [hlk] at hGl
          have HFG := run.hid (fun j hj => fillS_gaps r (gapsT C) C j hj)
          have HFT := run.hid (fun j => @fillS_take r (gapsT C) C j)
          have HFL := run.hid (fun j hj => fillS_len (free := r) (gaps := gapsT C) OC.out hrn (by omega) j hj)
          rw [← HEND.out] at HT0
          rw [HEND.out] at HT0
          have HT4 : Hid (T = ⟨(fillS r (gapsT C) (C.take i)).1.toArray⟩) := by show _ = _; rw [HEND.out]; exact HT0.out
          clear HT0 HT1 HT3 HEND HC HG0
          generalize gapsT C = G at *
          have hG1 : 1 ≤ G := by omega
          have hGi : ((G : Int) == 0) = false := by rw [beq_eq_false_iff_ne]; omega
          generalize wr = wz at *
          have hsz := hbel.size
          have hstart : Hid (Built wz.heap.size wz.heap.size [] (wz.alloc (.cells #[.pointer none, .slice none 0 0] 65))) := built_new wz _ (Nat.le_refl _)
          have hbel0 := run.below_one wz (.cells #[.pointer none, .slice none 0 0] 65)
          go_wp2_with fail
          go_loopw [13, 70] (fun vn vi wr => ∃ j : Nat, j ≤ i ∧ vi = .int .i64 j ∧ vn = .int .i64 ((fillS r G (C.take j)).2 : Nat) ∧ Hid (Built wz.heap.size wz.heap.size (fillS r G (C.take j)).1 wr) ∧ Below wz.heap.size wz wr ∧ wz.heap.size < wr.heap.size) (fun _ vi _ => ((i : Int) - intOf vi).toNat)
          case atStart => exact ⟨0, by omega, rfl, by simp [fillS], by simpa [fillS] using hstart, hbel0, by simp⟩
          case round =>
            obtain ⟨j, hj, rfl, rfl, HB, hbelq, hzr⟩ := hrel
            by_cases hjl : j < i
            · obtain ⟨b1, o1, rfl, hlb1, hx0, hx1⟩ := HCELL.out j hjl
              have hbelw := hbel.trans (hbelq.mono hsz)
              replace hx0 := (hbelw.cell (p := ⟨b1, o1 + j * 2, none⟩) hlb1).trans hx0
              replace hx1 := (hbelw.cell (p := ⟨b1, o1 + j * 2 + 1, none⟩) hlb1).trans hx1
              have HTj := run.hid (HFT.out j (by omega))
              have hg1 := HFG.out j (by omega)
              have hg2 := HGT.out j (by omega)
              have hg3 := HGTL.out (j + 1)
              have hlen := HFL.out j (by omega)
              have hlen2 := HFL.out (j + 1) (by omega)
              rw [← hg1] at hg2
              unfold fillF at HTj
              unfold t0 at HTj hg2 hx0 hx1
              generalize C.getD j (ByteArray.empty, 0) = q at *
              obtain ⟨qs, qw⟩ := q
              dsimp only at hx0 hx1 HTj hg2
              have hbn := hbelq.alloc hbelq.size (.cells #[.string qs, .int .i64 qw] 29)
              have hbeq := sp_eq qs
              clear hg1
              generalize fillS r G (C.take j) = st at *
              obtain ⟨sl, sn⟩ := st
              dsimp only at HTj hlen HB hg2
              have hsz2 : qs.data.toList.length = qs.size := rfl
              by_cases h9 : qs = sp
              · have HTk := run.hid (HTj.out.trans (if_pos h9))
                rw [if_pos h9] at hg2
                rw [decide_eq_true h9] at hbeq
                rw [HTk.out] at hlen2
                simp only [List.length_append] at hlen2
                have hsnG : sn < G := by omega
                have HW := run.hid (write_kept wz.heap.size wz.heap.size sl qs (wr.alloc (.cells #[.string qs, .int .i64 qw] 29)) (Lib.IsBuilderF.alloc HB.out _) (by omega) hbn.size)
                have hnew := new_two wr (.string qs) (.int .i64 qw) 29
                have hltn : wr.heap.size < (wr.alloc (.cells #[.string qs, .int .i64 qw] 29)).heap.size := by simp
                obtain ⟨b, hbq, hbq2⟩ : ∃ b : Nat, (r + G - 1 - sn) / G = b ∧ b ≤ 4097 := by
                  refine ⟨_, rfl, ?_⟩
                  have h1 : r + G - 1 - sn ≤ 4096 + G := by omega
                  have h2 := Nat.div_le_div_right (c := G) h1
                  rw [Nat.add_div_right _ (by omega)] at h2
                  have h3 := Nat.div_le_self 4096 G
                  omega
                have HLEN := run.hid (show sl.length + qs.data.toList.length + 4097 ≤ 140737488355328 from by omega)
                clear HCELL HGT HGTL HGE HFT HFL HFG HT4 hsz2 hlen hlen2 hg2 hg3 h9 hnew
                go_wp2_with fail
                refine HW.out.mono ?_
                rintro e w4 ⟨rfl, hb4, hbel4, hkept⟩
                have c4 := hbn.trans hbel4
                obtain ⟨hx2, hx3⟩ := kept_two hkept (run.heap_new wr _) (by omega) (by decide)
                have hbq3 : ((r : Int) + (G : Int) - 1 - (sn : Int)) / (G : Int) = (b : Int) := by
                  rw [← hbq, Int.natCast_ediv]; congr 1; omega
                have hs4 := hbel4.size
                have hsl2 : ∀ l2 : List UInt8, l2.length ≤ 4097 → (sl ++ qs.data.toList).length + l2.length ≤ 140737488355328 := fun l2 h => by rw [List.length_append]; have := HLEN.out; omega
                have HSL := run.hid hsl2
                clear hx0 hx1 hsl2
                go_wp2_with fail
                refine (blanks_use b _ (by omega)).mono ?_
                rintro e w5 ⟨rfl, hb5⟩
                have c5 := c4.trans (hb5.mono c4.size)
                have HW2 := run.hid (write_any wz.heap.size wz.heap.size (sl ++ qs.data.toList) (blanksT b) w5 (built_below hb4 hb5) (by rw [blanksT_size]; have := HSL.out (blanksL b) (by unfold blanksL; rw [List.length_replicate]; exact hbq2); unfold blanksL at this; rw [List.length_replicate] at this; exact this) c5.size)
                have HTm : Hid (fillS r G (C.take (j + 1)) = (sl ++ qs.data.toList ++ (blanksT b).data.toList, sn + 1)) := by show _ = _; rw [HTk.out, hbq]; rfl
                have hs5 := hb5.size
                clear hbq hbq3 HSL HTk hb4 hbel4 hkept hx2 hx3 HW hb5
                go_wp2_with fail
                refine HW2.out.mono ?_
                rintro e w6 ⟨rfl, hb6, hbel6⟩
                have c6 := c5.trans hbel6
                have HB6 := run.hid hb6
                have hs6 := hbel6.size
                have hzr6 : wz.heap.size < w6.heap.size := by omega
                clear hb6 HW2 hbel6
                go_wp2
                go_roundw
                case rel => exact ⟨j + 1, by omega, by go_num, by rw [HTm.out]; go_num, by rw [HTm.out]; exact HB6, c6, hzr6⟩
                case measure => simp [intOf]; omega
              · have HTk := run.hid (HTj.out.trans (if_neg h9))
                rw [decide_eq_false h9] at hbeq
                have HW := run.hid (write_kept wz.heap.size wz.heap.size sl qs (wr.alloc (.cells #[.string qs, .int .i64 qw] 29)) (Lib.IsBuilderF.alloc HB.out _) (by rw [HTk.out] at hlen2; simp only [List.length_append] at hlen2; omega) hbn.size)
                clear HCELL HGT HGTL HGE HFT HFL HFG HT4 hsz2 hlen hlen2 hg2 hg3 h9
                have hltn : wr.heap.size < (wr.alloc (.cells #[.string qs, .int .i64 qw] 29)).heap.size := by simp
                go_wp2_with fail
                refine HW.out.mono ?_
                rintro e w4 ⟨rfl, hb4, hbel4, hkept⟩
                have c4 := hbn.trans hbel4
                obtain ⟨hx2, hx3⟩ := kept_two hkept (run.heap_new wr _) (by omega) (by decide)
                have hs4 := hbel4.size
                have hzr4 : wz.heap.size < w4.heap.size := by omega
                have HB4 := run.hid hb4
                clear hx0 hx1 hb4 hbel4 hkept HW
                go_wp2
                go_roundw
                case rel => exact ⟨j + 1, by omega, by go_num, by rw [HTk.out], by rw [HTk.out]; exact HB4, c4, hzr4⟩
                case measure => simp [intOf]; omega
            · obtain rfl : j = i := by omega
              have HS := run.hid (string_any wz.heap.size wz.heap.size (fillS r G (C.take j)).1 wr HB.out hbelq.size)
              clear HCELL HGT HGTL HGE HFT HFL HFG HB
              have hbB := hb1.trans ((hbel.trans (hbelq.mono hsz)).mono hs1)
              go_wp2_with fail
              refine HS.out.mono ?_
              rintro e w4 ⟨rfl, -, hb4⟩
              have hbf := hb1.trans ((hbel.trans ((hbelq.trans hb4).mono hsz)).mono hs1)
              go_wp2
              go_ret
              exact ⟨by rw [HT4.out]; rfl, hbf⟩
  · have h5' : (how == 5) = false := beq_eq_false_iff_ne.2 h5
    have HT1 := run.hid (HT0.out.trans (if_neg (fun h => h5 h.1)))
    clear HT0
    go_wp2_with fail
    refine (join_use _ _ _ (HC.out _ c3) OC.out (by omega)).mono ?_
    rintro e w4 ⟨rfl, hb4⟩
    have c4 := c3.trans (hb4.mono c3.size)
    go_wp2_with fail
    refine (blanks_use r _ (by omega)).mono ?_
    rintro e w5 ⟨rfl, hb5⟩
    have c5 := c4.trans (hb5.mono c4.size)
    have sz1 := joinT_size OC.out (by omega)
    have sz2 := blanksT_size r
    have hb := hb1.trans (c5.mono hs1)
    generalize joinT C = j1 at *
    generalize blanksT r = j2 at *
    have hadd : ¬ 9223372036854775807 < j1.size + j2.size := by omega
    go_wp2
    go_ret
    exact ⟨by rw [HT1.out]; rfl, hb⟩

end Go.Proofs.Ytmjmmoecplndmaa.wrp
