/-
  The walks of the layer wrap: slices.DeleteFunc on characters.
-/
import Derived.Test.YtgpgbbbcodnieaaWrpPlain
import Derived.Test.YtgpgbbbcodnieaaWrpRow
import Derived.Test.YtgpgbbbcodnieaaUtfUse
import Derived.Test.YtgpgbbbcodnieaaWidWalks

namespace Go.Proofs.Ytgpgbbbcodnieaa.wrp
open Go.RowKit Go.Proofs
open Go.Proofs.Ytgpgbbbcodnieaa.wid Go.Proofs.Ytgpgbbbcodnieaa.utf Go.Proofs.Ytgpgbbbcodnieaa.clu
set_option linter.unusedVariables false

set_option maxHeartbeats 1000000 in
theorem flow1_any (r : Int) (w : World) : Calls Try.prog 61 #[.int .i32 r] w fun e w' => e = .returned (.bool (del1 r)) ∧ Below w.heap.size w w' := by
  have HK := run.hid (fun w => kind_any r w)
  have HD := run.hid (show del1 r = decide (r ≠ 10 ∧ r ≠ 9 ∧ kind r = 1) from rfl)
  by_cases h10 : r = 10
  · subst h10
    go_enter Try.func61, Try.ntmps61
    go_wp2_with fail
    go_ret
    exact ⟨rfl, Below.refl _ _⟩
  by_cases h9 : r = 9
  · subst h9
    go_enter Try.func61, Try.ntmps61
    go_wp2_with fail
    go_ret
    exact ⟨rfl, Below.refl _ _⟩
  have HD2 : Hid (del1 r = decide (kind r = 1)) := by show del1 r = _; rw [HD.out]; simp [h10, h9]
  clear HD
  generalize del1 r = d at *
  generalize kind r = k at *
  go_enter Try.func61, Try.ntmps61
  go_wp2_with fail
  refine (HK.out _).mono ?_
  rintro e w1 ⟨rfl, hb⟩
  go_wp2_with fail
  go_ret
  refine ⟨?_, hb⟩
  rw [HD2.out]
  show Ending.returned (.bool (r != 10 && r != 9 && (k : Int) == 1)) = _
  refine congrArg (fun b => Ending.returned (.bool b)) ?_
  rw [Bool.eq_iff_iff]
  simp [h10, h9]
  omega

/-- the first character that is struck -/
def None1 (L : List Int) (k : Nat) : Prop := ∀ i, i < k → del1 (L.getD i 0) = false
def First1 (L : List Int) (k : Nat) : Prop := k ≤ L.length ∧ None1 L k ∧ (k < L.length → del1 (L.getD k 0) = true)
theorem none1_next {L : List Int} {k : Nat} (h : None1 L k) (hd : del1 (L.getD k 0) = false) : None1 L (k + 1) := fun i hi => by
  by_cases e : i = k
  · subst e; exact hd
  · exact h i (by omega)

set_option maxHeartbeats 1000000 in
theorem index1_any (v : Value) (L : List Int) (w : World) (hv : run.Reads w v (rv L)) (hL : L.length ≤ 1099511627776) :
    Calls Try.prog 68 #[v, .func (.func 61) #[] #[]] w fun e w' => ∃ k : Nat, First1 L k ∧ e = .returned (.int .i64 (if k < L.length then (k : Int) else -1)) ∧ Below w.heap.size w w' := by
  have HF := run.hid (fun r w => flow1_any r w)
  have HV := run.hid hv
  obtain ⟨a, cap, rfl, -⟩ := hv
  rw [rv_length] at *
  have HA := run.hid (fun k (h : k < L.length) => show ∃ b off, a = some ⟨b, off, none⟩ ∧ b < w.heap.size ∧ w.cell? ⟨b, off + k, none⟩ = some (.int .i32 (L.getD k 0)) from by
    obtain ⟨b, off, cap', he, hb, hc⟩ := reads_get HV.out (by intro e; have := congrArg List.length e; rw [rv_length] at this; simp at this; subst this; simp at h)
    simp only [Value.slice.injEq] at he
    exact ⟨b, off, he.1, hb, hc k _ (rv_get h)⟩)
  have HEND := run.hid (fun (h : None1 L L.length) => show First1 L L.length from ⟨Nat.le_refl _, h, fun h => absurd h (Nat.lt_irrefl _)⟩)
  have HHIT := run.hid (fun k (hk : k < L.length) (h : None1 L k) (hd : del1 (L.getD k 0) = true) => show First1 L k from ⟨Nat.le_of_lt hk, h, fun _ => hd⟩)
  have HNEXT := run.hid (fun k => @none1_next L k)
  clear HV
  go_enter Try.func68, Try.ntmps68
  generalize L.length = N at *
  go_wp2
  go_loopw [8] (fun vk wr => ∃ k : Nat, k ≤ N ∧ vk = .int .i64 k ∧ Hid (None1 L k) ∧ Below w.heap.size w wr) (fun k _ => (N - intOf k).toNat)
  case atStart => exact ⟨0, by omega, rfl, run.hid (by intro i hi; omega), Below.refl _ _⟩
  case round =>
    obtain ⟨k, hk, rfl, HN, hbel⟩ := hrel
    by_cases hlt : k < N
    · obtain ⟨b, off, rfl, hb, hc⟩ := HA.out k hlt
      replace hc := (hbel.cell (p := ⟨b, off + k, none⟩) hb).trans hc
      have H1 := run.hid (HHIT.out k hlt HN.out)
      have H2 := run.hid (HNEXT.out k HN.out)
      generalize L.getD k 0 = x at hc H1 H2
      clear HA HHIT HNEXT HEND
      go_wp2_with fail
      refine (HF.out _ _).mono ?_
      rintro e w1 ⟨rfl, hb1⟩
      replace hb1 := hbel.trans (hb1.mono hbel.size)
      cases hd : del1 x with
      | true =>
        have HD := run.hid (H1.out hd)
        clear hd hc
        go_wp2
        go_ret
        exact ⟨k, HD.out, by rw [if_pos hlt]; rfl, hb1⟩
      | false =>
        have HN2 := run.hid (H2.out hd)
        clear hd hc
        go_wp2
        go_roundw
        case rel => exact ⟨k + 1, by omega, by go_num, HN2, hb1⟩
        case measure => simp [intOf]; omega
    · obtain rfl : k = N := by omega
      have HD := run.hid (HEND.out HN.out)
      clear HEND HHIT HNEXT HA
      go_wp2
      go_ret
      exact ⟨k, HD.out, by rw [if_neg hlt]; rfl, hbel⟩

theorem rv_set (l : List Int) (i : Nat) (x : Int) : (rv l).set i (.int .i32 x) = rv (l.set i x) := by unfold rv; rw [List.map_set]
theorem getD_drop {L R : List Int} {j : Nat} (h : R.drop j = L.drop j) : R.getD j 0 = L.getD j 0 := by
  have h1 := congrArg (fun l : List Int => l[0]?) h
  simp only [List.getElem?_drop, Nat.add_zero] at h1
  simp only [List.getD_eq_getElem?_getD, h1]
theorem kept_first {L : List Int} {k : Nat} (h : First1 L k) (hk : k < L.length) : kept (L.take (k + 1)) = L.take k := by
  obtain ⟨-, h1, h2⟩ := h
  rw [kept_take hk, h2 hk, kept_all]
  · simp
  · intro i hi
    have hi2 : i < k := by rw [List.length_take] at hi; omega
    have := h1 i hi2
    rw [List.getD_eq_getElem?_getD, List.getElem?_take_of_lt hi2, ← List.getD_eq_getElem?_getD]
    exact this
theorem zero_rune (w : World) : (zeroValue 21).run Try.prog w = .ok (.int .i32 0) w := by kernel_rfl

/-- where DeleteFunc stands: i characters kept of the first j; the rest as it was -/
def Del1 (B g cap : Nat) (L : List Int) (i j : Nat) (R : List Int) (W : World) : Prop :=
  R.length = L.length ∧ i = (kept (L.take j)).length ∧ R.take i = kept (L.take j) ∧ R.drop j = L.drop j ∧ W.ownsRow B 21 1 (.slice (some ⟨g, 0, none⟩) L.length cap) L.length (rv R)
theorem Del1.skip {B g cap i j : Nat} {L R : List Int} {W : World} (h : Del1 B g cap L i j R W) (hj : j < L.length) (hd : del1 (L.getD j 0) = true) : Del1 B g cap L i (j + 1) R W := by
  obtain ⟨h1, h2, h3, h4, h5⟩ := h
  have e : kept (L.take (j + 1)) = kept (L.take j) := by rw [kept_take hj, hd]; simp
  refine ⟨h1, by rw [e]; exact h2, by rw [e]; exact h3, ?_, h5⟩
  rw [← List.drop_drop, ← List.drop_drop, h4]
theorem Del1.keep {B g cap i j : Nat} {L R : List Int} {W : World} (h : Del1 B g cap L i j R W) (hj : j < L.length) (hij : i < j) (hd : del1 (L.getD j 0) = false) : Del1 B g cap L (i + 1) (j + 1) (R.set i (L.getD j 0)) (W.setCell ⟨g, i, none⟩ (.int .i32 (L.getD j 0))) := by
  obtain ⟨h1, h2, h3, h4, h5⟩ := h
  have e : kept (L.take (j + 1)) = kept (L.take j) ++ [L.getD j 0] := by rw [kept_take hj, hd]; simp
  refine ⟨by rw [List.length_set, h1], by rw [e, List.length_append, ← h2]; rfl, ?_, ?_, ?_⟩
  · rw [e, ← h3, List.take_succ_eq_append_getElem (by rw [List.length_set]; omega)]
    rw [List.take_set_of_le (Nat.le_refl _)]
    simp
  · rw [List.drop_set_of_lt (by omega), ← List.drop_drop, ← List.drop_drop, h4]
  · rw [← rv_set]; exact (h5.stored i _).1

set_option maxHeartbeats 2000000 in
theorem delete1_any (B : Nat) (v : Value) (L : List Int) (w : World) (hown : w.ownsRow B 21 1 v L.length (rv L)) (hL : L.length ≤ 1099511627776) (hB : B ≤ w.heap.size) :
    Calls Try.prog 60 #[v, .func (.func 61) #[] #[]] w fun e w' => ∃ v', e = .returned v' ∧ w'.ownsRow B 21 1 v' (kept L).length (rv (kept L)) ∧ Below B w w' := by
  have HF := run.hid (fun r w => flow1_any r w)
  have HI := run.hid (index1_any v L w (run.reads_own hown) hL)
  have HO := run.hid hown
  obtain ⟨a, cap, rfl⟩ := run.own_value hown
  clear hown
  go_enter Try.func60, Try.ntmps60
  go_wp2_with fail
  refine HI.out.mono ?_
  rintro e w1 ⟨k, hk, rfl, hb1⟩
  have hBw := hb1.mono hB
  by_cases hlt : k < L.length
  · rw [if_pos hlt]
    obtain ⟨g, rfl, hcap⟩ : ∃ g, a = some ⟨g, 0, none⟩ ∧ L.length ≤ cap := by
      rcases HO.out.2 with ⟨h, h0⟩ | ⟨g, cap', cur, h, -, -, h1, -⟩
      · omega
      · simp only [Value.slice.injEq] at h; exact ⟨g, h.1, by omega⟩
    have HS : Hid (Del1 B g cap L k (k + 1) L w1) := ⟨rfl, by rw [kept_first hk hlt, List.length_take]; omega, by rw [kept_first hk hlt], rfl, run.own_below HO.out hb1⟩
    clear HO HI hk
    have HSKIP := run.hid (fun i j R W => @Del1.skip B g cap i j L R W)
    have HKEEP := run.hid (fun i j R W => @Del1.keep B g cap i j L R W)
    have HROW := run.hid (fun i j R W (h : Del1 B g cap L i j R W) => show W.ownsRow B 21 1 (.slice (some ⟨g, 0, none⟩) L.length cap) L.length (rv R) ∧ R.length = L.length ∧ R.getD j 0 = L.getD j 0 from ⟨h.2.2.2.2, h.1, getD_drop h.2.2.2.1⟩)
    have HDONE := run.hid (fun i R W (h : Del1 B g cap L i L.length R W) => show i = (kept L).length ∧ R.take i = kept L from by
      obtain ⟨-, h2, h3, -, -⟩ := h
      rw [List.take_of_length_le (Nat.le_refl _)] at h2 h3
      exact ⟨h2, h3⟩)
    have HNEW := run.hid (fun i j R W W' (h : Del1 B g cap L i j R W) (h' : Below W.heap.size W W') => show Del1 B g cap L i j R W' from ⟨h.1, h.2.1, h.2.2.1, h.2.2.2.1, run.own_below h.2.2.2.2 h'⟩)
    generalize hN : L.length = N at *
    have hne : ((k : Int) == -1) = false := by rw [beq_eq_false_iff_ne]; omega
    go_wp2
    go_loopw [5, 6] (fun vi vj wr => ∃ i j : Nat, ∃ R : List Int, i < j ∧ j ≤ N ∧ vi = .int .i64 i ∧ vj = .int .i64 j ∧ Hid (Del1 B g cap L i j R wr) ∧ Below B w wr) (fun _ vj _ => (N - intOf vj).toNat)
    case atStart => exact ⟨k, k + 1, L, by omega, by omega, rfl, by go_num, HS, hBw⟩
    case round =>
      obtain ⟨i, j, R, hij, hj, rfl, rfl, HD, hbel⟩ := hrel
      obtain ⟨hown, hRl, hRg⟩ := HROW.out i j R wr HD.out
      by_cases hjl : j < N
      · have hc := (hown.cellAt j (by omega)).trans (rv_get (show j < R.length by omega))
        rw [hRg] at hc
        have HSK := run.hid (fun W => HSKIP.out i j R W)
        have HKE := run.hid (fun W => HKEEP.out i j R W)
        have HNW := run.hid (fun W h => HNEW.out i j R wr W HD.out h)
        have HRW := run.hid (fun W h => HROW.out i j R W h)
        clear hown hRg
        cases hd : del1 (L.getD j 0) with
        | true =>
          have HX := run.hid (fun W h => HSK.out W h hjl hd)
          generalize hx : L.getD j 0 = x at *
          have Hd := run.hid hd
          clear hd hx HSK HKE HSKIP HKEEP HDONE HS HD
          go_wp2_with fail
          refine (HF.out _ _).mono ?_
          rintro e w2 ⟨rfl, hb2⟩
          rw [Hd.out]
          have HD2 := run.hid (HX.out _ (HNW.out _ hb2))
          have hbel2 := hbel.trans (hb2.mono (Nat.le_trans hB hbel.size))
          clear hb2 hc
          go_wp2
          go_roundw
          case rel => exact ⟨i, j + 1, R, by omega, by omega, rfl, by go_num, HD2, hbel2⟩
          case measure => simp [intOf]; omega
        | false =>
          have HX := run.hid (fun W h => HKE.out W h hjl hij hd)
          generalize hx : L.getD j 0 = x at *
          have Hd := run.hid hd
          clear hd hx HSK HKE HSKIP HKEEP HDONE HS HD
          go_wp2_with fail
          refine (HF.out _ _).mono ?_
          rintro e w2 ⟨rfl, hb2⟩
          rw [Hd.out]
          have HD2 := run.hid (HX.out _ (HNW.out _ hb2))
          obtain ⟨hown2, -, -⟩ := HRW.out w2 (HNW.out _ hb2)
          have hci := (hown2.cellAt i (by omega)).trans (rv_get (show i < R.length by omega))
          have hfi := hown2.frozenAt i
          have hbel2 := hbel.trans (hb2.mono (Nat.le_trans hB hbel.size))
          have hbel3 := run.below_grown hbel2 hown2 (run.setCell_grown w2 g i (.int .i32 x)) (Nat.le_refl _) (Nat.le_trans hB hbel2.size)
          generalize R.getD i 0 = y at *
          clear hb2 hc hown2
          go_wp2
          go_roundw
          case rel => exact ⟨i + 1, j + 1, R.set i x, by omega, by omega, by go_num, by go_num, HD2, hbel3⟩
          case measure => simp [intOf]; omega
      · obtain rfl : j = N := by omega
        obtain ⟨hi, hR⟩ := HDONE.out i R wr HD.out
        have hcl : ∀ ty, (Builtin.clear_ #[88] ty #[.slice (some ⟨g, i, none⟩) (j - i) (cap - i)]).run Try.prog wr = .ok (.tuple #[]) (wr.setCells g i (List.replicate (j - i) (.int .i32 0))) :=
          fun ty => Lib.run_clear_slice wr 88 21 ty _ Try.underlying88 zero_rune rfl rfl g i _ _ (by omega)
            (fun t ht => by rw [hown.cellAt (i + t) (by omega), rv_get (show i + t < R.length by omega)]; rfl) (fun t ht => hown.frozenAt _)
        obtain ⟨ys, ho, htk, hgr⟩ := run.own_setCells (List.replicate (j - i) (Value.int .i32 0)) i wr (rv R) hown
        have hfin := run.own_cut ho (Nat.le_of_lt hij)
        rw [Nat.mul_one, htk i (Nat.le_refl _), show (rv R).take i = rv (kept L) by unfold rv; rw [← List.map_take, hR]] at hfin
        have hbel3 := run.below_grown hbel hown hgr (Nat.le_refl _) (Nat.le_trans hB hbel.size)
        have HFIN := run.hid hfin
        have HIK := run.hid hi
        clear ho htk hgr hfin hown hRg hi hR hRl HD HDONE HSKIP HKEEP HROW HNEW HS HF hlt hjl
        go_wp2_with (simp only [hcl])
        go_ret
        exact ⟨_, rfl, by rw [← HIK.out]; exact HFIN.out, hbel3⟩
  · rw [if_neg hlt]
    have hkl : kept L = L := kept_all fun i hi => hk.2.1 i (by omega)
    go_wp2
    go_ret
    exact ⟨_, rfl, by rw [hkl]; exact run.own_below HO.out hb1, hBw⟩

end Go.Proofs.Ytgpgbbbcodnieaa.wrp
