/-
  The walk of the document's layer wrap: Flow.
-/
import Derived.Test.YtbhhfagifdjmmaaGreatWrpFlow
import Derived.Test.YtbhhfagifdjmmaaGreatCluUse
import Derived.Test.YtbhhfagifdjmmaaGreatCluRefUse
namespace Go.Proofs.YtbhhfagifdjmmaaGreat.wrp
open Go.RowKit Go.Proofs
open Go.Proofs.YtbhhfagifdjmmaaGreat.wid Go.Proofs.YtbhhfagifdjmmaaGreat.utf Go.Proofs.YtbhhfagifdjmmaaGreat.clu
set_option linter.unusedVariables false

/-- what is kept of the first j characters, tabs blank -/
def keptB (l : List Int) : List Int := (kept l).map blank1
theorem keptB_take {l : List Int} {j : Nat} (h : j < l.length) : keptB (l.take (j + 1)) = keptB (l.take j) ++ if del1 (l.getD j 0) then [] else [blank1 (l.getD j 0)] := by
  unfold keptB
  rw [kept_take h, List.map_append]
  split <;> rfl
theorem keptB_len (l : List Int) (j : Nat) : (keptB (l.take j)).length ≤ j := by
  unfold keptB
  rw [List.length_map]
  have := kept_len (l.take j)
  rw [List.length_take] at this
  omega
theorem keptB_nine {l : List Int} {j : Nat} (h : j < l.length) (e : l.getD j 0 = 9) : keptB (l.take (j + 1)) = keptB (l.take j) ++ [32] := by
  rw [keptB_take h, e]
  simp [del1, blank1]
theorem keptB_keep {l : List Int} {j : Nat} {r : Int} (h : j < l.length) (e : l.getD j 0 = r) (h9 : r ≠ 9) (hk : r = 10 ∨ kind r ≠ 1) : keptB (l.take (j + 1)) = keptB (l.take j) ++ [r] := by
  rw [keptB_take h, e]
  have hd : del1 r = false := decide_eq_false (fun ⟨h1, h2, h3⟩ => by rcases hk with hk | hk <;> omega)
  simp [hd, blank1, h9]
theorem keptB_drop {l : List Int} {j : Nat} {r : Int} (h : j < l.length) (e : l.getD j 0 = r) (h9 : r ≠ 9) (h10 : r ≠ 10) (hk : kind r = 1) : keptB (l.take (j + 1)) = keptB (l.take j) := by
  rw [keptB_take h, e]
  have hd : del1 r = true := decide_eq_true ⟨h10, h9, hk⟩
  simp [hd]
theorem rv_snoc (l : List Int) (x : Int) : rv l ++ [.int .i32 x] = rv (l ++ [x]) := by unfold rv; rw [List.map_append]; rfl
theorem kept2_yes {l : List TV} {j : Nat} {q : TV} (h : j < l.length) (e : l.getD j t0 = q) (hk : 0 < q.2 ∨ q.1 = nl) : kept2 (l.take (j + 1)) = kept2 (l.take j) ++ [q] := by
  rw [kept2_take h, e]
  have hd : del2 q = false := decide_eq_false (fun ⟨h1, h2⟩ => hk.elim (fun hk => by omega) (fun hk => h2 hk))
  simp [hd]
theorem kept2_no {l : List TV} {j : Nat} {q : TV} (h : j < l.length) (e : l.getD j t0 = q) (h0 : q.2 = 0) (hk : q.1 ≠ nl) : kept2 (l.take (j + 1)) = kept2 (l.take j) := by
  rw [kept2_take h, e]
  have hd : del2 q = true := decide_eq_true ⟨h0, hk⟩
  simp [hd]
theorem kept2_lent (l : List TV) (j : Nat) : (kept2 (l.take j)).length ≤ j := by
  have := kept2_len (l.take j)
  rw [List.length_take] at this
  omega
theorem cells2_snoc (l : List TV) (q : TV) : cells2 l ++ [.string q.1, .int .i64 (q.2 : Nat)] = cells2 (l ++ [q]) := by unfold cells2; rw [List.flatMap_append]; rfl

set_option maxRecDepth 100000 in
set_option maxHeartbeats 4000000 in
theorem refFlow_any (s : ByteArray) (w : World) (hs : s.size ≤ 68719476736) : Calls Tryz.prog 35 #[.string s] w fun e w' =>
    ∃ v, e = .returned v ∧ w'.ownsRow w.heap.size 40 2 v (flow s).length (cells2 (flow s)) ∧ Below w.heap.size w w' := by
  obtain ⟨ir, hir, hr0, hr1, hr2⟩ := info_parts info_rune
  obtain ⟨ic, hic, hc0, hc1, hc2⟩ := info_parts info_clu
  have hl := runes_len s
  have HR := run.hid (refRunes_use s w (by omega) (by omega))
  have HT := run.hid (fun v w' (h : run.Reads w' v (rv (keptB (runes (bs s))))) => refText_any v (keptB (runes (bs s))) w' h (by have := keptB_len (runes (bs s)) (runes (bs s)).length; rw [List.take_of_length_le (Nat.le_refl _)] at this; omega))
  have HSP := run.hid (fun w' => refSplit_use (flowText s) w' (by have := flowText_size s; omega))
  have hTl : (told (flowText s)).length ≤ 274877906944 := by have := told_length (flowText s); have := flowText_size s; omega
  have hft : str (text (keptB (runes (bs s)))) = flowText s := rfl
  have hfl : kept2 (told (flowText s)) = flow s := rfl
  rw [hft] at HT
  have HKK := run.hid (fun r w => refKindK r w)
  generalize runes (bs s) = X at *
  generalize flow s = F at *
  generalize told (flowText s) = TF at *
  generalize flowText s = ft at *
  have hXl : X.length ≤ 68719476736 := by omega
  have HNINE := run.hid (fun j => @keptB_nine X j)
  have HKEEP := run.hid (fun j r => @keptB_keep X j r)
  have HDROP := run.hid (fun j r => @keptB_drop X j r)
  have HLEN := run.hid (fun j => keptB_len X j)
  have HEND1 : Hid (X.take X.length = X) := List.take_of_length_le (Nat.le_refl _)
  have HYES := run.hid (fun j q => @kept2_yes TF j q)
  have HNO := run.hid (fun j q => @kept2_no TF j q)
  have HLEN2 := run.hid (fun j => kept2_lent TF j)
  have HEND2 : Hid (kept2 (TF.take TF.length) = F) := by show _ = _; rw [List.take_of_length_le (Nat.le_refl _)]; exact hfl
  clear hft hfl hl
  go_enter Tryz.func35, Tryz.ntmps35
  go_wp2_with fail
  refine HR.out.mono ?_
  rintro e w1 ⟨v1, rfl, -, hrd, hb1, -⟩
  have HV := run.hid hrd
  obtain ⟨a, cap, rfl, -⟩ := hrd
  have HA := run.hid (fun k (h : k < X.length) => show ∃ b off, a = some ⟨b, off, none⟩ ∧ b < w1.heap.size ∧ w1.cell? ⟨b, off + k, none⟩ = some (.int .i32 (X.getD k 0)) from by
    obtain ⟨b, off, cap', he, hb, hc⟩ := reads_get HV.out (by intro e; have := congrArg List.length e; rw [rv_length] at this; simp at this; subst this; simp at h)
    simp only [Value.slice.injEq] at he
    exact ⟨b, off, he.1, hb, hc k _ (rv_get h)⟩)
  have hs1 := hb1.size
  rw [rv_length]
  clear HR HV
  generalize hN : X.length = N at *
  go_wp2
  go_loopw [4, 5] (fun vk vj wr => ∃ j : Nat, j ≤ N ∧ vj = .int .i64 j ∧ wr.ownsRow w1.heap.size 21 1 vk (keptB (X.take j)).length (rv (keptB (X.take j))) ∧ Below w1.heap.size w1 wr) (fun _ vj _ => ((N : Int) - intOf vj).toNat)
  case atStart => exact ⟨0, by omega, rfl, World.ownsRow_nil _ _ _ _, Below.refl _ _⟩
  case round =>
    obtain ⟨j, hj, rfl, hown, hbel⟩ := hrel
    by_cases hlt : j < N
    · obtain ⟨b, off, rfl, hb, hc⟩ := HA.out j hlt
      replace hc := (hbel.cell (p := ⟨b, off + j, none⟩) hb).trans hc
      have H9 := run.hid (fun h => HNINE.out j (by omega) h)
      have HK := run.hid (fun r h => HKEEP.out j r (by omega) h)
      have HD := run.hid (fun r h => HDROP.out j r (by omega) h)
      have hlen := HLEN.out j
      have hsz := hbel.size
      generalize hx : X.getD j 0 = x at *
      replace HK := run.hid (HK.out x rfl)
      replace HD := run.hid (HD.out x rfl)
      clear HA HNINE HKEEP HDROP hx HT HSP HYES HNO HEND1 HEND2 HLEN2 hTl
      by_cases h9 : x = 9
      · subst h9
        have HN := run.hid (H9.out rfl)
        clear H9 HK HD
        go_wp2_with (at_builtin; refine run.wpList_append_any _ rfl _ _ 67 rfl w1.heap.size 21 ir (.int .i32 0) 1 4 Tryz.underlying67 hir hr0 hr1 hr2 rfl (by decide) _ _ _ rfl (hown.alloc _) _ 1 [.int .i32 32] rfl (run.readsN_new wr [.int .i32 32] 1 1 _ rfl) (by intro u hu; simp only [List.mem_singleton] at hu; subst hu; rfl) (by unfold maxLen; omega) (by omega) (by simp; omega) ?_)
        intro v' w3 hown3 hgrow hold hstep
        have hbel3 := run.below_append (hbel.alloc hsz _) (hown.alloc _) hgrow (by simp; omega)
        have h3 : w3.ownsRow w1.heap.size 21 1 v' (keptB (X.take (j + 1))).length (rv (keptB (X.take (j + 1)))) := by
          rw [HN.out, ← rv_snoc, List.length_append]; exact hown3
        clear hown hgrow hold hstep hbel hown3
        go_wp2
        go_roundw
        case rel => exact ⟨j + 1, by omega, by go_num, h3, hbel3⟩
        case measure => simp [intOf]; omega
      have h9' : (x == 9) = false := beq_eq_false_iff_ne.2 h9
      by_cases h10 : x = 10
      · subst h10
        have HN := run.hid (HK.out h9 (.inl rfl))
        clear H9 HK HD
        go_wp2_with (at_builtin; refine run.wpList_append_any _ rfl _ _ 67 rfl w1.heap.size 21 ir (.int .i32 0) 1 4 Tryz.underlying67 hir hr0 hr1 hr2 rfl (by decide) _ _ _ rfl (hown.alloc _) _ 1 [.int .i32 10] rfl (run.readsN_new wr [.int .i32 10] 1 1 _ rfl) (by intro u hu; simp only [List.mem_singleton] at hu; subst hu; rfl) (by unfold maxLen; omega) (by omega) (by simp; omega) ?_)
        intro v' w3 hown3 hgrow hold hstep
        have hbel3 := run.below_append (hbel.alloc hsz _) (hown.alloc _) hgrow (by simp; omega)
        have h3 : w3.ownsRow w1.heap.size 21 1 v' (keptB (X.take (j + 1))).length (rv (keptB (X.take (j + 1)))) := by
          rw [HN.out, ← rv_snoc, List.length_append]; exact hown3
        clear hown hgrow hold hstep hbel hown3
        go_wp2
        go_roundw
        case rel => exact ⟨j + 1, by omega, by go_num, h3, hbel3⟩
        case measure => simp [intOf]; omega
      have h10' : (x == 10) = false := beq_eq_false_iff_ne.2 h10
      go_wp2_with fail
      refine (HKK.out _ _).mono ?_
      rintro e w2 ⟨rfl, hb2⟩
      have hbel2 := hbel.trans (hb2.mono hsz)
      have hown2 := run.own_below hown hb2
      have hsz2 := hbel2.size
      replace hc := (hb2.cell (p := ⟨b, off + j, none⟩) (Nat.lt_of_lt_of_le hb hsz)).trans hc
      clear hown hbel hb2
      by_cases hk : kind x = 1
      · have HN := run.hid (HD.out h9 h10 hk)
        rw [hk]
        clear H9 HK HD hk hc
        rw [← HN.out] at hown2
        go_wp2
        go_roundw
        case rel => exact ⟨j + 1, by omega, by go_num, hown2, hbel2⟩
        case measure => simp [intOf]; omega
      · have HN := run.hid (HK.out h9 (.inr hk))
        have hk' : ((kind x : Int) == 1) = false := by rw [beq_eq_false_iff_ne]; omega
        clear H9 HK HD hk
        generalize ((kind x : Nat) : Int) = kx at *
        go_wp2_with (at_builtin; refine run.wpList_append_any _ rfl _ _ 67 rfl w1.heap.size 21 ir (.int .i32 0) 1 4 Tryz.underlying67 hir hr0 hr1 hr2 rfl (by decide) _ _ _ rfl (hown2.alloc _) _ 1 [.int .i32 x] rfl (run.readsN_new w2 [.int .i32 x] 1 1 _ rfl) (by intro u hu; simp only [List.mem_singleton] at hu; subst hu; rfl) (by unfold maxLen; omega) (by omega) (by simp; omega) ?_)
        intro v' w3 hown3 hgrow hold hstep
        have hbel3 := run.below_append (hbel2.alloc hsz2 _) (hown2.alloc _) hgrow (by simp; omega)
        have h3 : w3.ownsRow w1.heap.size 21 1 v' (keptB (X.take (j + 1))).length (rv (keptB (X.take (j + 1)))) := by
          rw [HN.out, ← rv_snoc, List.length_append]; exact hown3
        clear hown2 hgrow hold hstep hbel2 hown3
        go_wp2
        go_roundw
        case rel => exact ⟨j + 1, by omega, by go_num, h3, hbel3⟩
        case measure => simp [intOf]; omega
    · obtain rfl : j = N := by omega
      rw [HEND1.out] at hown
      have HT0 := run.hid (HT.out _ wr (run.reads_own hown))
      have hsz := hbel.size
      clear HA HNINE HKEEP HDROP HT HLEN HEND1 hown hN
      go_wp2_with fail
      refine HT0.out.mono ?_
      rintro e w3 ⟨rfl, hb3⟩
      have c3 := hbel.trans (hb3.mono hsz)
      go_wp2_with fail
      refine (HSP.out _).mono ?_
      rintro e w4 ⟨v4, rfl, -, hrd, hb4⟩
      have c4 := c3.trans (hb4.mono c3.size)
      have hbw4 := hb1.trans (c4.mono hs1)
      obtain ⟨a4, cap4, rfl, hcell⟩ := hrd
      have HC := run.hid hcell
      clear hcell HSP HT0 hb3 hb4 c3
      generalize hM : TF.length = M at *
      have hs4 := hbw4.size
      go_wp2
      generalize wr = wz at *
      go_loopw [7, 8] (fun vk vj wr => ∃ i : Nat, i ≤ M ∧ vj = .int .i64 i ∧ wr.ownsRow w4.heap.size 40 2 vk (kept2 (TF.take i)).length (cells2 (kept2 (TF.take i))) ∧ Below w4.heap.size w4 wr) (fun _ vj _ => ((M : Int) - intOf vj).toNat)
      case atStart => exact ⟨0, by omega, rfl, World.ownsRow_nil _ _ _ _, Below.refl _ _⟩
      case round =>
        obtain ⟨i, hi, rfl, hown, hbel⟩ := hrel
        by_cases hlt : i < M
        · obtain ⟨b, off, rfl, hb, hx0, hx1⟩ := HC.out i hlt
          replace hx0 := (hbel.cell (p := ⟨b, off + i * 2, none⟩) hb).trans hx0
          replace hx1 := (hbel.cell (p := ⟨b, off + i * 2 + 1, none⟩) hb).trans hx1
          have HY := run.hid (fun q h => HYES.out i q (by omega) h)
          have HO := run.hid (fun q h => HNO.out i q (by omega) h)
          have hlen := HLEN2.out i
          have hsz := hbel.size
          unfold t0 at HY HO
          generalize TF.getD i (ByteArray.empty, 0) = q at *
          replace HY := run.hid (HY.out q rfl)
          replace HO := run.hid (HO.out q rfl)
          obtain ⟨qs, qw⟩ := q
          dsimp only at hx0 hx1 HY HO
          have hbeq := nl_eq qs
          clear HC HYES HNO HLEN2 HEND2 hM
          by_cases hk : 0 < qw ∨ qs = nl
          · have HN := run.hid (HY.out hk)
            clear HY HO
            by_cases hq : 0 < qw
            · clear hk
              go_wp2_with (at_builtin; refine run.wpList_append_any _ rfl _ _ 37 rfl w4.heap.size 40 ic _ 2 24 Tryz.underlying37 hic hc0 hc1 hc2 rfl (by decide) _ _ _ rfl (hown.alloc _) _ 1 [.string qs, .int .i64 (qw : Nat)] rfl (run.readsN_new wr [.string qs, .int .i64 (qw : Nat)] 1 2 _ rfl) (by intro u hu; simp only [List.mem_cons, List.not_mem_nil, or_false] at hu; rcases hu with rfl | rfl <;> rfl) (by unfold maxLen; omega) (by omega) (by simp; omega) ?_)
              intro v' w6 hown6 hgrow hold hstep
              have hbel6 := run.below_append (hbel.alloc hsz _) (hown.alloc _) hgrow (by simp; omega)
              have h6 : w6.ownsRow w4.heap.size 40 2 v' (kept2 (TF.take (i + 1))).length (cells2 (kept2 (TF.take (i + 1)))) := by
                rw [HN.out, ← cells2_snoc, List.length_append]; exact hown6
              clear hown hgrow hold hstep hbel hown6 HN
              go_wp2
              go_roundw
              case rel => exact ⟨i + 1, by omega, by go_num, h6, hbel6⟩
              case measure => simp [intOf]; omega
            · obtain rfl : qw = 0 := by omega
              have hn : qs = nl := by rcases hk with h | h; omega; exact h
              rw [decide_eq_true hn] at hbeq
              clear hk hq hn
              go_wp2_with (at_builtin; refine run.wpList_append_any _ rfl _ _ 37 rfl w4.heap.size 40 ic _ 2 24 Tryz.underlying37 hic hc0 hc1 hc2 rfl (by decide) _ _ _ rfl (hown.alloc _) _ 1 [.string qs, .int .i64 (0 : Nat)] rfl (run.readsN_new wr [.string qs, .int .i64 (0 : Nat)] 1 2 _ rfl) (by intro u hu; simp only [List.mem_cons, List.not_mem_nil, or_false] at hu; rcases hu with rfl | rfl <;> rfl) (by unfold maxLen; omega) (by omega) (by simp; omega) ?_)
              intro v' w6 hown6 hgrow hold hstep
              have hbel6 := run.below_append (hbel.alloc hsz _) (hown.alloc _) hgrow (by simp; omega)
              have h6 : w6.ownsRow w4.heap.size 40 2 v' (kept2 (TF.take (i + 1))).length (cells2 (kept2 (TF.take (i + 1)))) := by
                rw [HN.out, ← cells2_snoc, List.length_append]; exact hown6
              clear hown hgrow hold hstep hbel hown6 HN
              go_wp2
              go_roundw
              case rel => exact ⟨i + 1, by omega, by go_num, h6, hbel6⟩
              case measure => simp [intOf]; omega
          · have h0 : qw = 0 := by omega
            have hnl : qs ≠ nl := fun e => hk (.inr e)
            have HN := run.hid (HO.out h0 hnl)
            rw [decide_eq_false hnl] at hbeq
            subst h0
            rw [← HN.out] at hown
            clear HY HO hk hnl
            go_wp2
            go_roundw
            case rel => exact ⟨i + 1, by omega, by go_num, hown, hbel⟩
            case measure => simp [intOf]; omega
        · obtain rfl : i = M := by omega
          rw [HEND2.out] at hown
          have hbf := hbw4.trans (hbel.mono hs4)
          have HO := run.hid (run.own_mono hown hs4)
          clear HC HYES HNO HLEN2 HEND2 hM hown
          go_wp2
          go_ret
          exact ⟨_, rfl, HO.out, hbf⟩

end Go.Proofs.YtbhhfagifdjmmaaGreat.wrp
