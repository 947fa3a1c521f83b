/-
  The walk of the document's layer wrap: Flow.
  Rows of clusters read; a line: breaks become blanks.
  The walk of the document's layer wrap: OneLine.
-/
import Derived.Test.YtdgcfmfjgidbjaaGreatWrpAll
import Derived.Test.YtdgcfmfjgidbjaaGreatCluRefAll
section
namespace Go.Proofs.YtdgcfmfjgidbjaaGreat.wrp
open Go.RowKit Go.Proofs
open Go.Proofs.YtdgcfmfjgidbjaaGreat.wid Go.Proofs.YtdgcfmfjgidbjaaGreat.utf Go.Proofs.YtdgcfmfjgidbjaaGreat.clu
set_option linter.unusedVariables false

/-- what is kept of the first j characters, tabs blank -/
def keptB (l : List Int) : List Int := (kept l).map blank1
theorem keptB_take {l : List Int} {j : Nat} (h : j < l.length) : keptB (l.take (j + 1)) = keptB (l.take j) ++ if del1 (l.getD j 0) then [] else [blank1 (l.getD j 0)] := by
  unfold keptB
  rw [kept_take h, List.map_append]
  split <;> rfl
theorem keptB_len (l : List Int) (j : Nat) : (keptB (l.take j)).length ≤ j := by
  unfold keptB
  rw [List.length_map]
  have := kept_len (l.take j)
  rw [List.length_take] at this
  omega
theorem keptB_nine {l : List Int} {j : Nat} (h : j < l.length) (e : l.getD j 0 = 9) : keptB (l.take (j + 1)) = keptB (l.take j) ++ [32] := by
  rw [keptB_take h, e]
  simp [del1, blank1]
theorem keptB_keep {l : List Int} {j : Nat} {r : Int} (h : j < l.length) (e : l.getD j 0 = r) (h9 : r ≠ 9) (hk : r = 10 ∨ kind r ≠ 1) : keptB (l.take (j + 1)) = keptB (l.take j) ++ [r] := by
  rw [keptB_take h, e]
  have hd : del1 r = false := decide_eq_false (fun ⟨h1, h2, h3⟩ => by rcases hk with hk | hk <;> omega)
  simp [hd, blank1, h9]
theorem keptB_drop {l : List Int} {j : Nat} {r : Int} (h : j < l.length) (e : l.getD j 0 = r) (h9 : r ≠ 9) (h10 : r ≠ 10) (hk : kind r = 1) : keptB (l.take (j + 1)) = keptB (l.take j) := by
  rw [keptB_take h, e]
  have hd : del1 r = true := decide_eq_true ⟨h10, h9, hk⟩
  simp [hd]
theorem rv_snoc (l : List Int) (x : Int) : rv l ++ [.int .i32 x] = rv (l ++ [x]) := by unfold rv; rw [List.map_append]; rfl
theorem kept2_yes {l : List TV} {j : Nat} {q : TV} (h : j < l.length) (e : l.getD j t0 = q) (hk : 0 < q.2 ∨ q.1 = nl) : kept2 (l.take (j + 1)) = kept2 (l.take j) ++ [q] := by
  rw [kept2_take h, e]
  have hd : del2 q = false := decide_eq_false (fun ⟨h1, h2⟩ => hk.elim (fun hk => by omega) (fun hk => h2 hk))
  simp [hd]
theorem kept2_no {l : List TV} {j : Nat} {q : TV} (h : j < l.length) (e : l.getD j t0 = q) (h0 : q.2 = 0) (hk : q.1 ≠ nl) : kept2 (l.take (j + 1)) = kept2 (l.take j) := by
  rw [kept2_take h, e]
  have hd : del2 q = true := decide_eq_true ⟨h0, hk⟩
  simp [hd]
theorem kept2_lent (l : List TV) (j : Nat) : (kept2 (l.take j)).length ≤ j := by
  have := kept2_len (l.take j)
  rw [List.length_take] at this
  omega
theorem cells2_snoc (l : List TV) (q : TV) : cells2 l ++ [.string q.1, .int .i64 (q.2 : Nat)] = cells2 (l ++ [q]) := by unfold cells2; rw [List.flatMap_append]; rfl

set_option maxRecDepth 100000 in
set_option maxHeartbeats 4000000 in
theorem refFlow_any (s : ByteArray) (w : World) (hs : s.size ≤ 68719476736) : Calls Tryz.prog 64 #[.string s] w fun e w' =>
    ∃ v, e = .returned v ∧ w'.ownsRow w.heap.size 83 2 v (flow s).length (cells2 (flow s)) ∧ Below w.heap.size w w' := by
  obtain ⟨ir, hir, hr0, hr1, hr2⟩ := info_parts info_rune
  obtain ⟨ic, hic, hc0, hc1, hc2⟩ := info_parts info_clu
  have hl := runes_len s
  have HR := run.hid (refRunes_use s w (by omega) (by omega))
  have HT := run.hid (fun v w' (h : run.Reads w' v (rv (keptB (runes (bs s))))) => refText_any v (keptB (runes (bs s))) w' h (by have := keptB_len (runes (bs s)) (runes (bs s)).length; rw [List.take_of_length_le (Nat.le_refl _)] at this; omega))
  have HSP := run.hid (fun w' => refSplit_use (flowText s) w' (by have := flowText_size s; omega))
  have hTl : (told (flowText s)).length ≤ 274877906944 := by have := told_length (flowText s); have := flowText_size s; omega
  have hft : str (text (keptB (runes (bs s)))) = flowText s := rfl
  have hfl : kept2 (told (flowText s)) = flow s := rfl
  rw [hft] at HT
  have HKK := run.hid (fun r w => refKindK r w)
  generalize runes (bs s) = X at *
  generalize flow s = F at *
  generalize told (flowText s) = TF at *
  generalize flowText s = ft at *
  have hXl : X.length ≤ 68719476736 := by omega
  have HNINE := run.hid (fun j => @keptB_nine X j)
  have HKEEP := run.hid (fun j r => @keptB_keep X j r)
  have HDROP := run.hid (fun j r => @keptB_drop X j r)
  have HLEN := run.hid (fun j => keptB_len X j)
  have HEND1 : Hid (X.take X.length = X) := List.take_of_length_le (Nat.le_refl _)
  have HYES := run.hid (fun j q => @kept2_yes TF j q)
  have HNO := run.hid (fun j q => @kept2_no TF j q)
  have HLEN2 := run.hid (fun j => kept2_lent TF j)
  have HEND2 : Hid (kept2 (TF.take TF.length) = F) := by show _ = _; rw [List.take_of_length_le (Nat.le_refl _)]; exact hfl
  clear hft hfl hl
  go_enter Tryz.func64, Tryz.ntmps64
  go_wp2_with fail
  refine HR.out.mono ?_
  rintro e w1 ⟨v1, rfl, -, hrd, hb1, -⟩
  have HV := run.hid hrd
  obtain ⟨a, cap, rfl, -⟩ := hrd
  have HA := run.hid (fun k (h : k < X.length) => show ∃ b off, a = some ⟨b, off, none⟩ ∧ b < w1.heap.size ∧ w1.cell? ⟨b, off + k, none⟩ = some (.int .i32 (X.getD k 0)) from by
    obtain ⟨b, off, cap', he, hb, hc⟩ := reads_get HV.out (by intro e; have := congrArg List.length e; rw [rv_length] at this; simp at this; subst this; simp at h)
    simp only [Value.slice.injEq] at he
    exact ⟨b, off, he.1, hb, hc k _ (rv_get h)⟩)
  have hs1 := hb1.size
  rw [rv_length]
  clear HR HV
  generalize hN : X.length = N at *
  go_wp2
  go_loopw [4, 5] (fun vk vj wr => ∃ j : Nat, j ≤ N ∧ vj = .int .i64 j ∧ wr.ownsRow w1.heap.size 21 1 vk (keptB (X.take j)).length (rv (keptB (X.take j))) ∧ Below w1.heap.size w1 wr) (fun _ vj _ => ((N : Int) - intOf vj).toNat)
  case atStart => exact ⟨0, by omega, rfl, World.ownsRow_nil _ _ _ _, Below.refl _ _⟩
  case round =>
    obtain ⟨j, hj, rfl, hown, hbel⟩ := hrel
    by_cases hlt : j < N
    · obtain ⟨b, off, rfl, hb, hc⟩ := HA.out j hlt
      replace hc := (hbel.cell (p := ⟨b, off + j, none⟩) hb).trans hc
      have H9 := run.hid (fun h => HNINE.out j (by omega) h)
      have HK := run.hid (fun r h => HKEEP.out j r (by omega) h)
      have HD := run.hid (fun r h => HDROP.out j r (by omega) h)
      have hlen := HLEN.out j
      have hsz := hbel.size
      generalize hx : X.getD j 0 = x at *
      replace HK := run.hid (HK.out x rfl)
      replace HD := run.hid (HD.out x rfl)
      clear HA HNINE HKEEP HDROP hx HT HSP HYES HNO HEND1 HEND2 HLEN2 hTl
      by_cases h9 : x = 9
      · subst h9
        have HN := run.hid (H9.out rfl)
        clear H9 HK HD
        go_wp2_with (at_builtin; refine run.wpList_append_any _ rfl _ _ 97 rfl w1.heap.size 21 ir (.int .i32 0) 1 4 Tryz.underlying97 hir hr0 hr1 hr2 rfl (by decide) _ _ _ rfl (hown.alloc _) _ 1 [.int .i32 32] rfl (run.readsN_new wr [.int .i32 32] 1 1 _ rfl) (by intro u hu; simp only [List.mem_singleton] at hu; subst hu; rfl) (by unfold maxLen; omega) (by omega) (by simp; omega) ?_)
        intro v' w3 hown3 hgrow hold hstep
        have hbel3 := run.below_append (hbel.alloc hsz _) (hown.alloc _) hgrow (by simp; omega)
        have h3 : w3.ownsRow w1.heap.size 21 1 v' (keptB (X.take (j + 1))).length (rv (keptB (X.take (j + 1)))) := by
          rw [HN.out, ← rv_snoc, List.length_append]; exact hown3
        clear hown hgrow hold hstep hbel hown3
        go_wp2
        go_roundw
        case rel => exact ⟨j + 1, by omega, by go_num, h3, hbel3⟩
        case measure => simp [intOf]; omega
      have h9' : (x == 9) = false := beq_eq_false_iff_ne.2 h9
      by_cases h10 : x = 10
      · subst h10
        have HN := run.hid (HK.out h9 (.inl rfl))
        clear H9 HK HD
        go_wp2_with (at_builtin; refine run.wpList_append_any _ rfl _ _ 97 rfl w1.heap.size 21 ir (.int .i32 0) 1 4 Tryz.underlying97 hir hr0 hr1 hr2 rfl (by decide) _ _ _ rfl (hown.alloc _) _ 1 [.int .i32 10] rfl (run.readsN_new wr [.int .i32 10] 1 1 _ rfl) (by intro u hu; simp only [List.mem_singleton] at hu; subst hu; rfl) (by unfold maxLen; omega) (by omega) (by simp; omega) ?_)
        intro v' w3 hown3 hgrow hold hstep
        have hbel3 := run.below_append (hbel.alloc hsz _) (hown.alloc _) hgrow (by simp; omega)
        have h3 : w3.ownsRow w1.heap.size 21 1 v' (keptB (X.take (j + 1))).length (rv (keptB (X.take (j + 1)))) := by
          rw [HN.out, ← rv_snoc, List.length_append]; exact hown3
        clear hown hgrow hold hstep hbel hown3
        go_wp2
        go_roundw
        case rel => exact ⟨j + 1, by omega, by go_num, h3, hbel3⟩
        case measure => simp [intOf]; omega
      have h10' : (x == 10) = false := beq_eq_false_iff_ne.2 h10
      go_wp2_with fail
      refine (HKK.out _ _).mono ?_
      rintro e w2 ⟨rfl, hb2⟩
      have hbel2 := hbel.trans (hb2.mono hsz)
      have hown2 := run.own_below hown hb2
      have hsz2 := hbel2.size
      replace hc := (hb2.cell (p := ⟨b, off + j, none⟩) (Nat.lt_of_lt_of_le hb hsz)).trans hc
      clear hown hbel hb2
      by_cases hk : kind x = 1
      · have HN := run.hid (HD.out h9 h10 hk)
        rw [hk]
        clear H9 HK HD hk hc
        rw [← HN.out] at hown2
        go_wp2
        go_roundw
        case rel => exact ⟨j + 1, by omega, by go_num, hown2, hbel2⟩
        case measure => simp [intOf]; omega
      · have HN := run.hid (HK.out h9 (.inr hk))
        have hk' : ((kind x : Int) == 1) = false := by rw [beq_eq_false_iff_ne]; omega
        clear H9 HK HD hk
        generalize ((kind x : Nat) : Int) = kx at *
        go_wp2_with (at_builtin; refine run.wpList_append_any _ rfl _ _ 97 rfl w1.heap.size 21 ir (.int .i32 0) 1 4 Tryz.underlying97 hir hr0 hr1 hr2 rfl (by decide) _ _ _ rfl (hown2.alloc _) _ 1 [.int .i32 x] rfl (run.readsN_new w2 [.int .i32 x] 1 1 _ rfl) (by intro u hu; simp only [List.mem_singleton] at hu; subst hu; rfl) (by unfold maxLen; omega) (by omega) (by simp; omega) ?_)
        intro v' w3 hown3 hgrow hold hstep
        have hbel3 := run.below_append (hbel2.alloc hsz2 _) (hown2.alloc _) hgrow (by simp; omega)
        have h3 : w3.ownsRow w1.heap.size 21 1 v' (keptB (X.take (j + 1))).length (rv (keptB (X.take (j + 1)))) := by
          rw [HN.out, ← rv_snoc, List.length_append]; exact hown3
        clear hown2 hgrow hold hstep hbel2 hown3
        go_wp2
        go_roundw
        case rel => exact ⟨j + 1, by omega, by go_num, h3, hbel3⟩
        case measure => simp [intOf]; omega
    · obtain rfl : j = N := by omega
      rw [HEND1.out] at hown
      have HT0 := run.hid (HT.out _ wr (run.reads_own hown))
      have hsz := hbel.size
      clear HA HNINE HKEEP HDROP HT HLEN HEND1 hown hN
      go_wp2_with fail
      refine HT0.out.mono ?_
      rintro e w3 ⟨rfl, hb3⟩
      have c3 := hbel.trans (hb3.mono hsz)
      go_wp2_with fail
      refine (HSP.out _).mono ?_
      rintro e w4 ⟨v4, rfl, -, hrd, hb4⟩
      have c4 := c3.trans (hb4.mono c3.size)
      have hbw4 := hb1.trans (c4.mono hs1)
      obtain ⟨a4, cap4, rfl, hcell⟩ := hrd
      have HC := run.hid hcell
      clear hcell HSP HT0 hb3 hb4 c3
      generalize hM : TF.length = M at *
      have hs4 := hbw4.size
      go_wp2
      generalize wr = wz at *
      go_loopw [7, 8] (fun vk vj wr => ∃ i : Nat, i ≤ M ∧ vj = .int .i64 i ∧ wr.ownsRow w4.heap.size 83 2 vk (kept2 (TF.take i)).length (cells2 (kept2 (TF.take i))) ∧ Below w4.heap.size w4 wr) (fun _ vj _ => ((M : Int) - intOf vj).toNat)
      case atStart => exact ⟨0, by omega, rfl, World.ownsRow_nil _ _ _ _, Below.refl _ _⟩
      case round =>
        obtain ⟨i, hi, rfl, hown, hbel⟩ := hrel
        by_cases hlt : i < M
        · obtain ⟨b, off, rfl, hb, hx0, hx1⟩ := HC.out i hlt
          replace hx0 := (hbel.cell (p := ⟨b, off + i * 2, none⟩) hb).trans hx0
          replace hx1 := (hbel.cell (p := ⟨b, off + i * 2 + 1, none⟩) hb).trans hx1
          have HY := run.hid (fun q h => HYES.out i q (by omega) h)
          have HO := run.hid (fun q h => HNO.out i q (by omega) h)
          have hlen := HLEN2.out i
          have hsz := hbel.size
          unfold t0 at HY HO
          generalize TF.getD i (ByteArray.empty, 0) = q at *
          replace HY := run.hid (HY.out q rfl)
          replace HO := run.hid (HO.out q rfl)
          obtain ⟨qs, qw⟩ := q
          dsimp only at hx0 hx1 HY HO
          have hbeq := nl_eq qs
          clear HC HYES HNO HLEN2 HEND2 hM
          by_cases hk : 0 < qw ∨ qs = nl
          · have HN := run.hid (HY.out hk)
            clear HY HO
            by_cases hq : 0 < qw
            · clear hk
              go_wp2_with (at_builtin; refine run.wpList_append_any _ rfl _ _ 80 rfl w4.heap.size 83 ic _ 2 24 Tryz.underlying80 hic hc0 hc1 hc2 rfl (by decide) _ _ _ rfl (hown.alloc _) _ 1 [.string qs, .int .i64 (qw : Nat)] rfl (run.readsN_new wr [.string qs, .int .i64 (qw : Nat)] 1 2 _ rfl) (by intro u hu; simp only [List.mem_cons, List.not_mem_nil, or_false] at hu; rcases hu with rfl | rfl <;> rfl) (by unfold maxLen; omega) (by omega) (by simp; omega) ?_)
              intro v' w6 hown6 hgrow hold hstep
              have hbel6 := run.below_append (hbel.alloc hsz _) (hown.alloc _) hgrow (by simp; omega)
              have h6 : w6.ownsRow w4.heap.size 83 2 v' (kept2 (TF.take (i + 1))).length (cells2 (kept2 (TF.take (i + 1)))) := by
                rw [HN.out, ← cells2_snoc, List.length_append]; exact hown6
              clear hown hgrow hold hstep hbel hown6 HN
              go_wp2
              go_roundw
              case rel => exact ⟨i + 1, by omega, by go_num, h6, hbel6⟩
              case measure => simp [intOf]; omega
            · obtain rfl : qw = 0 := by omega
              have hn : qs = nl := by rcases hk with h | h; omega; exact h
              rw [decide_eq_true hn] at hbeq
              clear hk hq hn
              go_wp2_with (at_builtin; refine run.wpList_append_any _ rfl _ _ 80 rfl w4.heap.size 83 ic _ 2 24 Tryz.underlying80 hic hc0 hc1 hc2 rfl (by decide) _ _ _ rfl (hown.alloc _) _ 1 [.string qs, .int .i64 (0 : Nat)] rfl (run.readsN_new wr [.string qs, .int .i64 (0 : Nat)] 1 2 _ rfl) (by intro u hu; simp only [List.mem_cons, List.not_mem_nil, or_false] at hu; rcases hu with rfl | rfl <;> rfl) (by unfold maxLen; omega) (by omega) (by simp; omega) ?_)
              intro v' w6 hown6 hgrow hold hstep
              have hbel6 := run.below_append (hbel.alloc hsz _) (hown.alloc _) hgrow (by simp; omega)
              have h6 : w6.ownsRow w4.heap.size 83 2 v' (kept2 (TF.take (i + 1))).length (cells2 (kept2 (TF.take (i + 1)))) := by
                rw [HN.out, ← cells2_snoc, List.length_append]; exact hown6
              clear hown hgrow hold hstep hbel hown6 HN
              go_wp2
              go_roundw
              case rel => exact ⟨i + 1, by omega, by go_num, h6, hbel6⟩
              case measure => simp [intOf]; omega
          · have h0 : qw = 0 := by omega
            have hnl : qs ≠ nl := fun e => hk (.inr e)
            have HN := run.hid (HO.out h0 hnl)
            rw [decide_eq_false hnl] at hbeq
            subst h0
            rw [← HN.out] at hown
            clear HY HO hk hnl
            go_wp2
            go_roundw
            case rel => exact ⟨i + 1, by omega, by go_num, hown, hbel⟩
            case measure => simp [intOf]; omega
        · obtain rfl : i = M := by omega
          rw [HEND2.out] at hown
          have hbf := hbw4.trans (hbel.mono hs4)
          have HO := run.hid (run.own_mono hown hs4)
          clear HC HYES HNO HLEN2 HEND2 hM hown
          go_wp2
          go_ret
          exact ⟨_, rfl, HO.out, hbf⟩

end Go.Proofs.YtdgcfmfjgidbjaaGreat.wrp
end
section
namespace Go.Proofs.YtdgcfmfjgidbjaaGreat.wrp
open Go.RowKit Go.Proofs
open Go.Proofs.YtdgcfmfjgidbjaaGreat.wid Go.Proofs.YtdgcfmfjgidbjaaGreat.utf Go.Proofs.YtdgcfmfjgidbjaaGreat.clu
set_option linter.unusedVariables false
/-- a slice of clusters to be read, its capacity no less than its length -/
def RS (w : World) (v : Value) (X : List TV) : Prop :=
  ∃ a cap, v = .slice a X.length cap ∧ (X.length ≤ cap ∧ (a = none → cap = 0)) ∧ ∀ i, i < X.length → ∃ b off, a = some ⟨b, off, none⟩ ∧ b < w.heap.size ∧ w.cell? ⟨b, off + i * 2, none⟩ = some (.string (X.getD i t0).1) ∧ w.cell? ⟨b, off + i * 2 + 1, none⟩ = some (.int .i64 ((X.getD i t0).2 : Nat))
theorem RS.reads {w : World} {v : Value} {X : List TV} (h : RS w v X) : Reads2 w v X := by
  obtain ⟨a, cap, h1, -, h2⟩ := h
  exact ⟨a, cap, h1, h2⟩
theorem RS.below {w w' : World} {v : Value} {X : List TV} (h : RS w v X) (hb : Below w.heap.size w w') : RS w' v X := by
  obtain ⟨a, cap, rfl, hc, h⟩ := h
  refine ⟨a, cap, rfl, hc, fun i hi => ?_⟩
  obtain ⟨b, off, ha, hlt, h1, h2⟩ := h i hi
  exact ⟨b, off, ha, Nat.lt_of_lt_of_le hlt hb.size, (hb.cell (p := ⟨b, off + i * 2, none⟩) hlt).trans h1, (hb.cell (p := ⟨b, off + i * 2 + 1, none⟩) hlt).trans h2⟩
theorem rs_own {w : World} {base : Nat} {v : Value} {X : List TV} (h : w.ownsRow base 83 2 v X.length (cells2 X)) : RS w v X := by
  obtain ⟨a, cap, rfl, h2⟩ := reads2_own h
  refine ⟨a, cap, rfl, ?_, h2⟩
  rcases h.2 with ⟨h, h0⟩ | ⟨g, cap', cur, h, -, -, h1, -⟩
  · simp only [Value.slice.injEq] at h; exact ⟨by omega, fun _ => h.2.2⟩
  · simp only [Value.slice.injEq] at h; exact ⟨by omega, fun e => by rw [h.1] at e; cases e⟩
/-- a line feed is a blank -/
def nlsp (q : TV) : TV := if q.1 = nl then (sp, 1) else q
def lineT (s : ByteArray) : List TV := (flow s).map nlsp
def ln (X : List TV) (k : Nat) : List TV := (X.take k).map nlsp ++ X.drop k
theorem ln_length (X : List TV) (k : Nat) : (ln X k).length = X.length := by
  unfold ln; rw [List.length_append, List.length_map, ← List.length_append, List.take_append_drop]
theorem ln_get {X : List TV} {k : Nat} (h : k < X.length) : (ln X k).getD k t0 = X.getD k t0 := by
  unfold ln
  have e : ((X.take k).map nlsp).length = k := by rw [List.length_map, List.length_take]; omega
  simp only [List.getD_eq_getElem?_getD]
  rw [List.getElem?_append_right (by omega), e, Nat.sub_self, List.getElem?_drop, Nat.add_zero]
theorem ln_next {X : List TV} {k : Nat} (h : k < X.length) : ln X (k + 1) = (ln X k).set k (nlsp (X.getD k t0)) := by
  unfold ln
  have e : ((X.take k).map nlsp).length = k := by rw [List.length_map, List.length_take]; omega
  rw [List.set_append_right _ _ (by omega), e, Nat.sub_self, List.drop_eq_getElem_cons h, List.set_cons_zero, List.take_succ_eq_append_getElem h, List.map_append, List.append_assoc]
  simp [List.getD_eq_getElem?_getD, h]
theorem ln_nl {X : List TV} {k : Nat} (h : k < X.length) (e : (X.getD k t0).1 = nl) : (ln X k).set k (sp, 1) = ln X (k + 1) := by
  rw [ln_next h]; unfold nlsp; rw [if_pos e]
theorem ln_else {X : List TV} {k : Nat} (h : k < X.length) (e : (X.getD k t0).1 ≠ nl) : ln X k = ln X (k + 1) := by
  rw [ln_next h]
  have e : nlsp (X.getD k t0) = (ln X k).getD k t0 := by rw [ln_get h]; unfold nlsp; rw [if_neg e]
  rw [e]
  apply List.ext_getElem (by simp)
  intro i h1 h2
  rw [List.getElem_set]
  split
  · rename_i hi; subst hi; simp [List.getD_eq_getElem?_getD, h1]
  · rfl
theorem ln_all (X : List TV) : ln X X.length = X.map nlsp := by unfold ln; rw [List.take_of_length_le (Nat.le_refl _), List.drop_length, List.append_nil]

end Go.Proofs.YtdgcfmfjgidbjaaGreat.wrp
end
section
namespace Go.Proofs.YtdgcfmfjgidbjaaGreat.wrp
open Go.RowKit Go.Proofs
open Go.Proofs.YtdgcfmfjgidbjaaGreat.wid Go.Proofs.YtdgcfmfjgidbjaaGreat.utf Go.Proofs.YtdgcfmfjgidbjaaGreat.clu
set_option linter.unusedVariables false
set_option maxHeartbeats 2000000 in
theorem refLine_own (s : ByteArray) (w : World) (hs : s.size ≤ 68719476736) : Calls Tryz.prog 39 #[.string s] w fun e w' => ∃ v, e = .returned v ∧ w'.ownsRow w.heap.size 83 2 v (lineT s).length (cells2 (lineT s)) ∧ Below w.heap.size w w' := by
  have HFL := run.hid (refFlow_any s w hs)
  have hl := flow_len s
  have hL : lineT s = (flow s).map nlsp := rfl
  have HL := run.hid hL
  clear hL
  generalize lineT s = LT at *
  generalize flow s = X at *
  have HBL := run.hid (fun k => ln_length X k)
  have HG := run.hid (fun k => @ln_get X k)
  have HTAB := run.hid (fun k => @ln_nl X k)
  have HELSE := run.hid (fun k => @ln_else X k)
  have HALL := run.hid (ln_all X)
  go_enter Tryz.func39, Tryz.ntmps39
  go_wp2_with fail
  refine HFL.out.mono ?_
  rintro e w2 ⟨v2, rfl, hown, hB2⟩
  have HO := run.hid hown
  obtain ⟨a, cap, rfl⟩ := run.own_value hown
  have HV : Hid (0 < X.length → ∃ g, a = some ⟨g, 0, none⟩) := fun h0 => by
    rcases HO.out.2 with ⟨h, h0⟩ | ⟨g, cap', cur, h, -⟩
    · omega
    · simp only [Value.slice.injEq] at h; exact ⟨g, h.1⟩
  have hXl : X.length ≤ 4 * s.size := hl
  clear hown hl HFL
  generalize hN : X.length = N at *
  go_wp2
  go_loopw [4] (fun vk wr => ∃ k : Nat, k ≤ N ∧ vk = .int .i64 k ∧ Hid (wr.ownsRow w.heap.size 83 2 (.slice a N cap) N (cells2 (ln X k))) ∧ Below w.heap.size w wr) (fun vk _ => (N - intOf vk).toNat)
  case atStart => exact ⟨0, by omega, rfl, HO, hB2⟩
  case round =>
    obtain ⟨k, hk, rfl, HOW, hbel⟩ := hrel
    by_cases hlt : k < N
    · obtain ⟨g, rfl⟩ := HV.out (by omega)
      have hown := HOW.out
      obtain ⟨g1, g2⟩ := cells2_get (ln X k) k (by rw [HBL.out]; exact hlt)
      have hc1 := (hown.cellAt (k * 2) (by omega)).trans g1
      have hc2 := (hown.cellAt (k * 2 + 1) (by omega)).trans g2
      have hgk := HG.out k hlt
      unfold t0 at hgk
      rw [hgk] at hc1 hc2
      have hf1 := hown.frozenAt (k * 2)
      have hf2 := hown.frozenAt (k * 2 + 1)
      have hst := ((hown.stored (k * 2) (.string sp)).1.stored (k * 2 + 1) (.int .i64 (1 : Nat))).1
      rw [cells2_set (ln X k) k (sp, 1) (by rw [HBL.out]; exact hlt)] at hst
      have hbel2 := run.below_grown hbel hown (run.grown_trans (run.setCell_grown wr g (k * 2) (.string sp)) (run.setCell_grown _ g (k * 2 + 1) (.int .i64 (1 : Nat))) (.inl rfl)) (Nat.le_refl _) hbel.size
      have HST := run.hid hst
      have H1 := run.hid (HTAB.out k hlt)
      have H2 := run.hid (HELSE.out k hlt)
      unfold t0 at H1 H2
      generalize X.getD k (ByteArray.empty, 0) = q at hc1 hc2 H1 H2
      obtain ⟨qs, qw⟩ := q
      dsimp only at hc1 hc2 H1 H2
      have hbeq := nl_eq qs
      clear hst hown HTAB HELSE HG HBL g1 g2 hgk hN HO HALL
      by_cases h9 : qs = nl
      · have HN : Hid (((wr.setCell ⟨g, k * 2, none⟩ (.string sp)).setCell ⟨g, k * 2 + 1, none⟩ (.int .i64 (1 : Nat))).ownsRow w.heap.size 83 2 (.slice (some ⟨g, 0, none⟩) N cap) N (cells2 (ln X (k + 1)))) := by
          have h := HST.out
          rw [H1.out h9] at h
          exact h
        rw [decide_eq_true h9] at hbeq
        clear HST H1 H2 HOW h9
        unfold sp at HN hbel2
        go_wp2
        go_roundw
        case rel => exact ⟨k + 1, by omega, by go_num, HN, hbel2⟩
        case measure => simp [intOf]; omega
      · have HN : Hid (wr.ownsRow w.heap.size 83 2 (.slice (some ⟨g, 0, none⟩) N cap) N (cells2 (ln X (k + 1)))) := by
          have h := HOW.out
          rw [H2.out h9] at h
          exact h
        rw [decide_eq_false h9] at hbeq
        clear HST H1 H2 HOW hbel2 h9
        go_wp2
        go_roundw
        case rel => exact ⟨k + 1, by omega, by go_num, HN, hbel⟩
        case measure => simp [intOf]; omega
    · obtain rfl : k = N := by omega
      have hown := HOW.out
      rw [HALL.out, ← HL.out] at hown
      have hle : LT.length = k := by rw [HL.out, List.length_map, hN]
      rw [← hle] at hown
      have HR : Hid (wr.ownsRow w.heap.size 83 2 (.slice a k cap) LT.length (cells2 LT)) := by
        have h := hown
        rw [hle] at h ⊢
        exact h
      clear hown HOW hN HTAB HELSE HG HBL HALL HO hle
      go_wp2
      go_ret
      exact ⟨_, rfl, HR.out, hbel⟩

theorem refLine_any (s : ByteArray) (w : World) (hs : s.size ≤ 68719476736) : Calls Tryz.prog 39 #[.string s] w fun e w' => ∃ v, e = .returned v ∧ RS w' v (lineT s) ∧ Below w.heap.size w w' :=
  (refLine_own s w hs).mono fun e w' ⟨v, h1, h2, h3⟩ => ⟨v, h1, rs_own h2, h3⟩
end Go.Proofs.YtdgcfmfjgidbjaaGreat.wrp
end
