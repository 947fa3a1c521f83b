/-
  The walk of the document's layer wrap: Align.
-/
import Derived.Test.YtgniobgadilpgaaWrpRefTrim
import Derived.Test.YtgniobgadilpgaaWrpAlign
import Derived.Deep.DeepCutAuto
namespace Go.Proofs.Ytgniobgadilpgaa.wrp
open Go.RowKit Go.Proofs
open Go.Proofs.Ytgniobgadilpgaa.wid Go.Proofs.Ytgniobgadilpgaa.utf Go.Proofs.Ytgniobgadilpgaa.clu
set_option linter.unusedVariables false

theorem refBlanks_use (n : Nat) (w : World) (hn : n ≤ 35184372088832) : Calls Try.prog 57 #[.int .i64 n] w fun e w' => e = .returned (.string (blanksT n)) ∧ Below w.heap.size w w' := refBlanks_any n w hn
def strL (l : List UInt8) : ByteArray := ⟨l.toArray⟩
theorem strL_size (l : List UInt8) : (strL l).size = l.length := by show l.toArray.size = _; rw [List.size_toArray]
theorem strL_append (l : List UInt8) (q : ByteArray) : strL l ++ q = strL (l ++ q.data.toList) := by
  apply ByteArray.ext
  rw [ByteArray.data_append]
  simp [strL]
theorem blanksT_strL (b : Nat) : blanksT b = strL (blanksL b) := rfl
theorem fill_div {r G n : Nat} (h : n < G) : (r + G - 1 - n) / G = r / G + if n < r % G then 1 else 0 := by
  have h1 := Nat.div_add_mod r G
  have h2 := Nat.mod_lt r (show 0 < G by omega)
  generalize r / G = d at *
  generalize r % G = m at *
  split
  · rename_i hlt
    have e : r + G - 1 - n = (m - 1 - n) + G * (d + 1) := by rw [Nat.mul_add]; omega
    rw [e, Nat.add_mul_div_left _ _ (by omega), Nat.div_eq_of_lt (by omega)]; omega
  · rename_i hge
    have e : r + G - 1 - n = (m + G - 1 - n) + G * d := by omega
    rw [e, Nat.add_mul_div_left _ _ (by omega), Nat.div_eq_of_lt (by omega)]; omega

set_option maxRecDepth 100000 in
set_option maxHeartbeats 4000000 in
theorem refAlign_any (s : ByteArray) (wd : Int) (how : Int) (w : World) (hs : s.size ≤ 16777216) : Calls Try.prog 22 #[.string s, .int .i64 wd, .int .i8 how] w fun e w' => e = .returned (.string (alignT s wd how)) ∧ Below w.heap.size w w' := by
  have HLS := run.hid (fun w => refLine_any s w (by omega))
  have hoc := line_ok s
  have hlc : (lineT s).length ≤ 67108864 := by have := line_len s; omega
  have HBR := run.hid (fun w => brought_any wd w)
  have hn := sideN_eq wd
  have hn2 := sideN_le wd
  have HT2 := run.hid (show alignT s wd how = _ from rfl)
  unfold alignT at HT2
  have HT2 : Hid (alignT s wd how = _) := HT2
  generalize alignT s wd how = T at *
  generalize lineT s = M at *
  generalize sideN wd = n at *
  have OM := run.hid hoc
  clear hoc hs
  go_enter Try.func22, Try.ntmps22
  go_wp2_with fail
  refine (HBR.out _).mono ?_
  rintro e w0 ⟨rfl, hww⟩
  replace hww := hww.symm
  subst hww
  go_wp2_with fail
  refine (HLS.out _).mono ?_
  rintro e w1 ⟨v1, rfl, hr1, hb1⟩
  have hs1 := hb1.size
  obtain ⟨a, cap, rfl⟩ : ∃ a cap, v1 = .slice a M.length cap := by obtain ⟨a, cap, h, -⟩ := hr1; exact ⟨a, cap, h⟩
  have HM := hr1.all
  have hcapm := hr1.slice.2
  have hk := fitT_le M n
  clear HLS hr1
  have HF := run.hid (fun w' h => refFit_use (.slice a M.length cap) M n w' (HM.out w' h) OM.out (by omega) (by omega))
  have HC : Hid (∀ w', Below w1.heap.size w1 w' → RS w' (.slice a (fitT M n) cap) (M.take (fitT M n))) := fun w' h => (HM.out w' h).take _ (fitT_le M n)
  have hwm := fitT_wide M n
  generalize fitT M n = k at *
  have hlk : (M.take k).length = k := by rw [List.length_take]; omega
  have OC := run.hid (OM.out.take k)
  generalize M.take k = C at *
  generalize M.length = N at *
  go_wp2_with fail
  refine (HF.out _ (Below.refl _ _)).mono ?_
  rintro e w2 ⟨rfl, hb2⟩
  have hkc : k ≤ cap := by omega
  clear HF HM
  go_wp2_with fail
  refine (refWide_use _ _ _ (HC.out _ hb2) OC.out (by omega)).mono ?_
  rintro e w3 ⟨rfl, hb3⟩
  have c3 := hb2.trans (hb3.mono hb2.size)
  obtain ⟨r, hr⟩ : ∃ r, n - wideT C = r := ⟨_, rfl⟩
  rw [hr] at HT2
  have hr2 : (n : Int) - (wideT C : Nat) = (r : Int) := by omega
  have hrn : r ≤ 4096 := by omega
  generalize wideT C = wm at *
  clear hr hb3 hb2
  by_cases h1 : how = 1
  · subst h1
    have HT0 := run.hid (HT2.out.trans (if_pos rfl))
    clear HT2
    go_wp2_with fail
    refine (refBlanks_use r _ (by omega)).mono ?_
    rintro e w4 ⟨rfl, hb4⟩
    have c4 := c3.trans (hb4.mono c3.size)
    go_wp2_with fail
    refine (refJoin_use _ _ _ (HC.out _ c4) OC.out (by omega)).mono ?_
    rintro e w5 ⟨rfl, hb5⟩
    have c5 := c4.trans (hb5.mono c4.size)
    have sz1 := joinT_size OC.out (by omega)
    have sz2 := blanksT_size r
    have hb := hb1.trans (c5.mono hs1)
    generalize joinT C = j1 at *
    generalize blanksT r = j2 at *
    have hadd : ¬ 9223372036854775807 < j2.size + j1.size := by omega
    go_wp2
    go_ret
    exact ⟨by rw [HT0.out]; rfl, hb⟩
  by_cases h2 : how = 2
  · subst h2
    have HT0 := run.hid ((HT2.out.trans (if_neg (by decide))).trans (if_pos rfl))
    clear HT2
    obtain ⟨q, hq⟩ : ∃ q, r / 2 = q := ⟨_, rfl⟩
    obtain ⟨p, hp⟩ : ∃ p, r - q = p := ⟨_, rfl⟩
    rw [hq, hp] at HT0
    have hq2 : (r : Int) / 2 = (q : Int) := by omega
    have hp2 : (r : Int) - (q : Int) = (p : Int) := by omega
    have hqr : q ≤ 4096 ∧ p ≤ 4096 ∧ q ≤ r := by omega
    clear hq hp
    go_wp2_with fail
    refine (refBlanks_use q _ (by omega)).mono ?_
    rintro e w4 ⟨rfl, hb4⟩
    have c4 := c3.trans (hb4.mono c3.size)
    go_wp2_with fail
    refine (refJoin_use _ _ _ (HC.out _ c4) OC.out (by omega)).mono ?_
    rintro e w5 ⟨rfl, hb5⟩
    have c5 := c4.trans (hb5.mono c4.size)
    have sz1 := joinT_size OC.out (by omega)
    have sz2 := blanksT_size q
    generalize joinT C = j1 at *
    generalize blanksT q = j2 at *
    have hadd : ¬ 9223372036854775807 < j2.size + j1.size := by omega
    go_wp2_with fail
    refine (refBlanks_use p _ (by omega)).mono ?_
    rintro e w6 ⟨rfl, hb6⟩
    have c6 := c5.trans (hb6.mono c5.size)
    have hb := hb1.trans (c6.mono hs1)
    have sz3 := blanksT_size p
    generalize blanksT p = j3 at *
    have hsz12 : (j2 ++ j1).size = j2.size + j1.size := ByteArray.size_append
    have hadd2 : ¬ 9223372036854775807 < (j2 ++ j1).size + j3.size := by omega
    generalize j2 ++ j1 = j12 at *
    go_wp2
    go_ret
    exact ⟨by rw [HT0.out]; rfl, hb⟩
  have h1' : (how == 1) = false := beq_eq_false_iff_ne.2 h1
  have h2' : (how == 2) = false := beq_eq_false_iff_ne.2 h2
  have HT0 := run.hid ((HT2.out.trans (if_neg h1)).trans (if_neg h2))
  clear HT2
  have HT1 := run.hid (fun (h : how = 5 ∧ gapsT C ≠ 0) => HT0.out.trans (if_pos h))
  have HT3 := run.hid (fun (h : ¬ (how = 5 ∧ gapsT C ≠ 0)) => HT0.out.trans (if_neg h))
  clear HT0
  have HGT := run.hid (fun i => @gapsT_take C i)
  have HGE := run.hid (gapsT_le C)
  have HGTL := run.hid (fun i => gapsT_take_le C i)
  have HEND : Hid (C.take k = C) := List.take_of_length_le (by omega)
  have HCELL := run.hid (fun (i : Nat) (hi : i < k) => show ∃ b off, a = some ⟨b, off, none⟩ ∧ b < w1.heap.size ∧ w1.cell? ⟨b, off + i * 2, none⟩ = some (.string (C.getD i t0).1) ∧ w1.cell? ⟨b, off + i * 2 + 1, none⟩ = some (.int .i64 ((C.getD i t0).2 : Nat)) from by
    obtain ⟨a', cap', e, -, hc⟩ := HC.out w1 (Below.refl _ _)
    simp only [Value.slice.injEq] at e
    obtain ⟨rfl, -, -⟩ := e
    exact hc i (by omega))
  have HG0 : Hid (gapsT (C.take 0) = 0) := by show _ = _; simp [gapsT]
  go_wp2_with fail
  go_loopw [10, 11] (fun vg vi wr => ∃ i : Nat, i ≤ k ∧ vi = .int .i64 i ∧ vg = .int .i64 (gapsT (C.take i) : Nat) ∧ Below w1.heap.size w1 wr) (fun _ vi _ => ((k : Int) - intOf vi).toNat)
  case atStart => exact ⟨0, by omega, rfl, by rw [HG0.out]; rfl, c3⟩
  case round =>
    obtain ⟨i, hi, rfl, rfl, hbel⟩ := hrel
    by_cases hlt : i < k
    · obtain ⟨b1, o1, rfl, hlb1, hx0, hx1⟩ := HCELL.out i hlt
      replace hx0 := (hbel.cell (p := ⟨b1, o1 + i * 2, none⟩) hlb1).trans hx0
      have HTi := run.hid (HGT.out i (by omega))
      have hle := Nat.le_trans (HGTL.out i) HGE.out
      rw [hlk] at hle
      unfold t0 at HTi hx0
      clear hx1
      generalize C.getD i (ByteArray.empty, 0) = q at *
      obtain ⟨qs, qw⟩ := q
      dsimp only at hx0 HTi
      have hbeq := sp_eq qs
      generalize gapsT (C.take i) = sm at *
      by_cases h9 : qs = sp
      · have HTj := run.hid (HTi.out.trans (congrArg (sm + ·) (if_pos h9)))
        rw [decide_eq_true h9] at hbeq
        clear HCELL HGT HGTL HGE HEND HT1 HT3 HTi h9 HG0 HC
        go_wp2
        go_roundw
        case rel => exact ⟨i + 1, by omega, by go_num, by rw [HTj.out]; go_num, hbel⟩
        case measure => simp [intOf]; omega
      · have HTj := run.hid (HTi.out.trans (congrArg (sm + ·) (if_neg h9)))
        rw [decide_eq_false h9] at hbeq
        clear HCELL HGT HGTL HGE HEND HT1 HT3 HTi h9 HG0 HC
        go_wp2
        go_roundw
        case rel => exact ⟨i + 1, by omega, by go_num, by rw [HTj.out]; rfl, hbel⟩
        case measure => simp [intOf]; omega
    · obtain rfl : i = k := by omega
      rw [HEND.out]
      obtain ⟨jb, hjb⟩ : ∃ jb : Bool, decide (how ≠ 5 ∨ gapsT C = 0) = jb := ⟨_, rfl⟩
      have hgl := HGE.out
      rw [hlk] at hgl
      have HGG := run.hid (show gapsT C = gapsT C from rfl)
      obtain ⟨G, hG⟩ : ∃ G, gapsT C = G := ⟨_, rfl⟩
      rw [hG] at hjb hgl
      rw [hG]
      have HGH := run.hid hG
      clear hG
      go_upto_region 16 with fail
      go_cut [70] (fun c wx => c = .bool jb ∧ wx = wr)
      case first =>
        by_cases ha : how = 5
        · have e : jb = decide (G = 0) := by rw [← hjb]; exact decide_eq_decide.2 ⟨fun h => h.resolve_left (fun h => h ha), .inr⟩
          have hg : ((G : Int) == 0) = decide (G = 0) := by rw [Bool.eq_iff_iff]; simp
          subst e
          clear hjb
          subst ha
          go_wp2
          go_meet
          exact ⟨by simp, rfl⟩
        · have e : jb = true := by rw [← hjb]; exact decide_eq_true (.inl ha)
          have h5 : (how != 5) = true := by simp [ha]
          subst e
          clear hjb ha
          go_wp2
          go_meet
          exact ⟨rfl, rfl⟩
      obtain ⟨rfl, hww⟩ := hcut
      replace hww := hww.symm
      subst hww
      cases jb with
      | true =>
        have hd := of_decide_eq_true hjb
        have HT0 := run.hid (HT3.out (fun h => by rcases hd with h1 | h1; exact h1 h.1; exact h.2 (by rw [HGH.out]; exact h1)))
        clear HT1 HT3 HGT HGTL HGE HCELL HG0 HEND hjb hd
        go_wp2_with fail
        refine (refJoin_use _ _ _ (HC.out _ hbel) OC.out (by omega)).mono ?_
        rintro e w4 ⟨rfl, hb4⟩
        have c4 := hbel.trans (hb4.mono hbel.size)
        go_wp2_with fail
        refine (refBlanks_use r _ (by omega)).mono ?_
        rintro e w5 ⟨rfl, hb5⟩
        have c5 := c4.trans (hb5.mono c4.size)
        have sz1 := joinT_size OC.out (by omega)
        have sz2 := blanksT_size r
        have hb := hb1.trans (c5.mono hs1)
        generalize joinT C = j1 at *
        generalize blanksT r = j2 at *
        have hadd : ¬ 9223372036854775807 < j1.size + j2.size := by omega
        go_wp2
        go_ret
        exact ⟨by rw [HT0.out]; rfl, hb⟩
      | false =>
        have hd := of_decide_eq_false hjb
        have hG0 : G ≠ 0 := fun h => hd (.inr h)
        have HT0 := run.hid (HT1.out ⟨Classical.byContradiction fun h => hd (.inl h), by rw [HGH.out]; exact hG0⟩)
        have HFG := run.hid (fun j hj => fillS_gaps r (gapsT C) C j hj)
        have HFT := run.hid (fun j => @fillS_take r (gapsT C) C j)
        have HFL := run.hid (fun j hj => fillS_len (free := r) (gaps := gapsT C) OC.out hrn (by rw [HGH.out]; omega) j hj)
        rw [HGH.out] at HT0 HFG HFT HFL
        have HT4 : Hid (T = strL (fillS r G (C.take i)).1) := by show _ = _; rw [HEND.out]; exact HT0.out
        have HGL2 := run.hid (fun j => show gapsT (C.take j) ≤ G from by rw [← HGH.out]; exact HGTL.out j)
        clear HT0 HT1 HT3 HEND HC HG0 hjb hd HGTL HGE HGG
        have hG1 : 1 ≤ G := by omega
        generalize wr = wz at *
        have hsz := hbel.size
        go_wp2_with fail
        go_loopw [12, 13, 14] (fun vs vn vi wr => ∃ j : Nat, j ≤ i ∧ vi = .int .i64 j ∧ vn = .int .i64 ((fillS r G (C.take j)).2 : Nat) ∧ vs = .string (strL (fillS r G (C.take j)).1) ∧ Below wz.heap.size wz wr) (fun _ _ vi _ => ((i : Int) - intOf vi).toNat)
        case atStart => exact ⟨0, by omega, rfl, by simp [fillS], by simp [fillS, strL], Below.refl _ _⟩
        case round =>
          obtain ⟨j, hj, rfl, rfl, rfl, hbelq⟩ := hrel
          by_cases hjl : j < i
          · obtain ⟨b1, o1, rfl, hlb1, hx0, -⟩ := HCELL.out j hjl
            have hbelw := hbel.trans (hbelq.mono hsz)
            replace hx0 := (hbelw.cell (p := ⟨b1, o1 + j * 2, none⟩) hlb1).trans hx0
            have HTj := run.hid (HFT.out j (by omega))
            have hg1 := HFG.out j (by omega)
            have hg2 := HGT.out j (by omega)
            have hg3 := HGL2.out (j + 1)
            have hlen := HFL.out j (by omega)
            have hlen2 := HFL.out (j + 1) (by omega)
            have hqz := (OC.out (C.getD j t0) (by rw [List.getD_eq_getElem?_getD, List.getElem?_eq_getElem (by omega)]; exact List.getElem_mem _)).1
            rw [← hg1] at hg2
            unfold fillF at HTj
            generalize C.getD j t0 = q at *
            obtain ⟨qs, qw⟩ := q
            dsimp only at hx0 HTj hg2 hqz
            have hbeq := sp_eq qs
            clear hg1
            generalize fillS r G (C.take j) = st at *
            obtain ⟨sl, sn⟩ := st
            dsimp only at HTj hlen hg2 ⊢
            have hssz := strL_size sl
            have HCAT := run.hid (strL_append sl qs)
            have hcsz : (strL sl ++ qs).size = sl.length + qs.size := by rw [ByteArray.size_append, hssz]
            have hadd1 : ¬ 9223372036854775807 < (strL sl).size + qs.size := by omega
            by_cases h9 : qs = sp
            · have HTk := run.hid (HTj.out.trans (if_pos h9))
              rw [if_pos h9] at hg2
              rw [decide_eq_true h9] at hbeq
              have hsnG : sn < G := by omega
              have HTm := HTk.out
              rw [fill_div hsnG] at HTm
              have hdI : (r : Int) / (G : Int) = ((r / G : Nat) : Int) := by rw [Int.natCast_ediv]
              have hmI : (r : Int) % (G : Int) = ((r % G : Nat) : Int) := by rw [Int.natCast_emod]
              have hdl : r / G ≤ 4096 := Nat.le_trans (Nat.div_le_self r G) hrn
              generalize r / G = d at *
              generalize r % G = m at *
              clear HTj HTk HCELL HGT HFT HFL HFG HT4 HGL2 hg2 hg3 h9 hlen2
              by_cases hlt : sn < m
              · rw [if_pos hlt] at HTm
                have HTn := run.hid HTm
                clear HTm
                have hsm : decide ((sn : Int) < (m : Int)) = true := decide_eq_true (by omega)
                go_wp2_with fail
                refine (refBlanks_use (d + 1) _ (by omega)).mono ?_
                rintro e w4 ⟨rfl, hb4⟩
                have c4 := hbelq.trans (hb4.mono hbelq.size)
                have HS2 := run.hid (show strL sl ++ qs ++ blanksT (d + 1) = strL (sl ++ qs.data.toList ++ blanksL (d + 1)) from by rw [HCAT.out, blanksT_strL, strL_append]; rfl)
                have sz3 := blanksT_size (d + 1)
                have hadd2 : ¬ 9223372036854775807 < (strL sl ++ qs).size + (blanksT (d + 1)).size := by omega
                generalize strL sl ++ qs = s1 at *
                generalize blanksT (d + 1) = s2 at *
                go_wp2
                go_roundw
                case rel => exact ⟨j + 1, by omega, by go_num, by rw [HTn.out]; go_num, by rw [HTn.out]; exact congrArg Value.string HS2.out, c4⟩
                case measure => simp [intOf]; omega
              · rw [if_neg hlt] at HTm
                have HTn := run.hid HTm
                clear HTm
                have hsm : decide ((sn : Int) < (m : Int)) = false := decide_eq_false (by omega)
                go_wp2_with fail
                refine (refBlanks_use (d) _ (by omega)).mono ?_
                rintro e w4 ⟨rfl, hb4⟩
                have c4 := hbelq.trans (hb4.mono hbelq.size)
                have HS2 := run.hid (show strL sl ++ qs ++ blanksT (d) = strL (sl ++ qs.data.toList ++ blanksL (d)) from by rw [HCAT.out, blanksT_strL, strL_append]; rfl)
                have sz3 := blanksT_size (d)
                have hadd2 : ¬ 9223372036854775807 < (strL sl ++ qs).size + (blanksT (d)).size := by omega
                generalize strL sl ++ qs = s1 at *
                generalize blanksT (d) = s2 at *
                go_wp2
                go_roundw
                case rel => exact ⟨j + 1, by omega, by go_num, by rw [HTn.out]; go_num, by rw [HTn.out]; exact congrArg Value.string HS2.out, c4⟩
                case measure => simp [intOf]; omega
            · have HTk := run.hid (HTj.out.trans (if_neg h9))
              rw [decide_eq_false h9] at hbeq
              clear HTj HCELL HGT HFT HFL HFG HT4 HGL2 hg2 hg3 h9 hlen2
              go_wp2
              go_roundw
              case rel => exact ⟨j + 1, by omega, by go_num, by rw [HTk.out], by rw [HTk.out]; exact congrArg Value.string HCAT.out, hbelq⟩
              case measure => simp [intOf]; omega
          · obtain rfl : j = i := by omega
            have hb := hb1.trans ((hbel.trans (hbelq.mono hsz)).mono hs1)
            clear HCELL HFG HFT HFL HGL2 HGT
            go_wp2
            go_ret
            exact ⟨by rw [HT4.out]; rfl, hb⟩

end Go.Proofs.Ytgniobgadilpgaa.wrp
