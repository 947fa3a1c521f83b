/-
  The walks of the layer wrap: slices.DeleteFunc on clusters.
-/
import Derived.Test.YtgpgbbbcodnieaaWrpPlain
import Derived.Test.YtgpgbbbcodnieaaWrpRow
import Derived.Test.YtgpgbbbcodnieaaUtfUse
namespace Go.Proofs.Ytgpgbbbcodnieaa.wrp
open Go.RowKit Go.Proofs
open Go.Proofs.Ytgpgbbbcodnieaa.wid Go.Proofs.Ytgpgbbbcodnieaa.utf Go.Proofs.Ytgpgbbbcodnieaa.clu
set_option linter.unusedVariables false

def agg (q : TV) : Value := .agg #[.string q.1, .int .i64 (q.2 : Nat)]

theorem nl_eq (s : ByteArray) : (s.toList == [10]) = decide (s = nl) := by rw [show ([10] : List UInt8) = nl.toList from by simp [ByteArray.toList_eq, nl]]; exact toList_eq_iff s nl
theorem sp_eq (s : ByteArray) : (s.toList == [32]) = decide (s = sp) := by rw [show ([32] : List UInt8) = sp.toList from by simp [ByteArray.toList_eq, sp]]; exact toList_eq_iff s sp

set_option maxHeartbeats 1000000 in
theorem flow2_any (q : TV) (w : World) : Calls Try.prog 65 #[agg q] w fun e w' => e = .returned (.bool (del2 q)) ∧ Below w.heap.size w w' := by
  have HD := run.hid (show del2 q = decide (q.2 = 0 ∧ q.1 ≠ nl) from rfl)
  obtain ⟨s, n⟩ := q
  dsimp only [agg] at *
  generalize del2 (s, n) = d at *
  have hb := run.below_one w (.cells #[.string s, .int .i64 n] 74)
  by_cases h0 : n = 0
  · subst h0
    go_enter Try.func65, Try.ntmps65
    go_wp2_with fail
    go_ret
    refine ⟨?_, hb⟩
    show Ending.returned (.bool (!(s.toList == [10]))) = _
    rw [HD.out, nl_eq]
    simp
  · go_enter Try.func65, Try.ntmps65
    go_wp2_with fail
    go_ret
    refine ⟨?_, hb⟩
    show Ending.returned (.bool false) = _
    rw [HD.out]
    simp [h0]

/-- the first cluster that is struck -/
def None2 (L : List TV) (k : Nat) : Prop := ∀ i, i < k → del2 (L.getD i t0) = false
def First2 (L : List TV) (k : Nat) : Prop := k ≤ L.length ∧ None2 L k ∧ (k < L.length → del2 (L.getD k t0) = true)
theorem none2_next {L : List TV} {k : Nat} (h : None2 L k) (hd : del2 (L.getD k t0) = false) : None2 L (k + 1) := fun i hi => by
  by_cases e : i = k
  · subst e; exact hd
  · exact h i (by omega)

set_option maxHeartbeats 1000000 in
theorem index2_any (v : Value) (L : List TV) (w : World) (hv : Reads2 w v L) (hL : L.length ≤ 1099511627776) :
    Calls Try.prog 72 #[v, .func (.func 65) #[] #[]] w fun e w' => ∃ k : Nat, First2 L k ∧ e = .returned (.int .i64 (if k < L.length then (k : Int) else -1)) ∧ Below w.heap.size w w' := by
  have HF := run.hid (fun q w => flow2_any q w)
  obtain ⟨a, cap, rfl, ha⟩ := hv
  have HA := run.hid ha
  clear ha
  have HEND := run.hid (fun (h : None2 L L.length) => show First2 L L.length from ⟨Nat.le_refl _, h, fun h => absurd h (Nat.lt_irrefl _)⟩)
  have HHIT := run.hid (fun k (hk : k < L.length) (h : None2 L k) (hd : del2 (L.getD k t0) = true) => show First2 L k from ⟨Nat.le_of_lt hk, h, fun _ => hd⟩)
  have HNEXT := run.hid (fun k => @none2_next L k)
  go_enter Try.func72, Try.ntmps72
  generalize L.length = N at *
  go_wp2
  go_loopw [8] (fun vk wr => ∃ k : Nat, k ≤ N ∧ vk = .int .i64 k ∧ Hid (None2 L k) ∧ Below w.heap.size w wr) (fun k _ => (N - intOf k).toNat)
  case atStart => exact ⟨0, by omega, rfl, run.hid (by intro i hi; omega), Below.refl _ _⟩
  case round =>
    obtain ⟨k, hk, rfl, HN, hbel⟩ := hrel
    by_cases hlt : k < N
    · obtain ⟨b, off, rfl, hb, hc1, hc2⟩ := HA.out k hlt
      replace hc1 := (hbel.cell (p := ⟨b, off + k * 2, none⟩) hb).trans hc1
      replace hc2 := (hbel.cell (p := ⟨b, off + k * 2 + 1, none⟩) hb).trans hc2
      have H1 := run.hid (HHIT.out k hlt HN.out)
      have H2 := run.hid (HNEXT.out k HN.out)
      unfold t0 at H1 H2
      generalize L.getD k (ByteArray.empty, 0) = x at hc1 hc2 H1 H2
      have HFx := run.hid (fun W => HF.out x W)
      obtain ⟨xs, xn⟩ := x
      unfold agg at HFx
      dsimp only at hc1 hc2 H1 H2 HFx
      clear HA HHIT HNEXT HEND HF
      go_wp2_with fail
      refine (HFx.out _).mono ?_
      rintro e w1 ⟨rfl, hb1⟩
      replace hb1 := hbel.trans (hb1.mono hbel.size)
      cases hd : del2 (xs, xn) with
      | true =>
        have HD := run.hid (H1.out hd)
        clear hd hc1 hc2
        go_wp2
        go_ret
        exact ⟨k, HD.out, by rw [if_pos hlt]; rfl, hb1⟩
      | false =>
        have HN2 := run.hid (H2.out hd)
        clear hd hc1 hc2
        go_wp2
        go_roundw
        case rel => exact ⟨k + 1, by omega, by go_num, HN2, hb1⟩
        case measure => simp [intOf]; omega
    · obtain rfl : k = N := by omega
      have HD := run.hid (HEND.out HN.out)
      clear HEND HHIT HNEXT HA
      go_wp2
      go_ret
      exact ⟨k, HD.out, by rw [if_neg hlt]; rfl, hbel⟩

theorem cells2_set : ∀ (L : List TV) (k : Nat) (q : TV), k < L.length → ((cells2 L).set (k * 2) (.string q.1)).set (k * 2 + 1) (.int .i64 (q.2 : Nat)) = cells2 (L.set k q)
  | p :: t, 0, q, _ => rfl
  | p :: t, k + 1, q, h => by
    have e : ∀ (p : TV) (t : List TV), cells2 (p :: t) = .string p.1 :: .int .i64 (p.2 : Nat) :: cells2 t := fun _ _ => rfl
    rw [e, show (k + 1) * 2 = k * 2 + 1 + 1 by omega]
    simp only [List.set_cons_succ]
    rw [cells2_set t k q (by simpa using h), e]
theorem cells2_take : ∀ (L : List TV) (k : Nat), (cells2 L).take (k * 2) = cells2 (L.take k)
  | [], k => by simp [cells2]
  | p :: t, 0 => rfl
  | p :: t, k + 1 => by
    have e : ∀ (p : TV) (t : List TV), cells2 (p :: t) = .string p.1 :: .int .i64 (p.2 : Nat) :: cells2 t := fun _ _ => rfl
    rw [e, show (k + 1) * 2 = k * 2 + 1 + 1 by omega]
    simp only [List.take_succ_cons]
    rw [cells2_take t k, e]
theorem getD_drop2 {L R : List TV} {j : Nat} (h : R.drop j = L.drop j) : R.getD j t0 = L.getD j t0 := by
  have h1 := congrArg (fun l : List TV => l[0]?) h
  simp only [List.getElem?_drop, Nat.add_zero] at h1
  simp only [List.getD_eq_getElem?_getD, h1]
theorem kept2_first {L : List TV} {k : Nat} (h : First2 L k) (hk : k < L.length) : kept2 (L.take (k + 1)) = L.take k := by
  obtain ⟨-, h1, h2⟩ := h
  rw [kept2_take hk, h2 hk, kept2_all]
  · simp
  · intro i hi
    have hi2 : i < k := by rw [List.length_take] at hi; omega
    have := h1 i hi2
    rw [List.getD_eq_getElem?_getD, List.getElem?_take_of_lt hi2, ← List.getD_eq_getElem?_getD]
    exact this
theorem zero_clu (w : World) : (zeroValue 74).run Try.prog w = .ok (.agg #[.string ByteArray.empty, .int .i64 0]) w := by kernel_rfl

/-- where DeleteFunc stands: i clusters kept of the first j; the rest as it was -/
def Del2 (B g cap : Nat) (L : List TV) (i j : Nat) (R : List TV) (W : World) : Prop :=
  R.length = L.length ∧ i = (kept2 (L.take j)).length ∧ R.take i = kept2 (L.take j) ∧ R.drop j = L.drop j ∧ W.ownsRow B 74 2 (.slice (some ⟨g, 0, none⟩) L.length cap) L.length (cells2 R)
theorem Del2.skip {B g cap i j : Nat} {L R : List TV} {W : World} (h : Del2 B g cap L i j R W) (hj : j < L.length) (hd : del2 (L.getD j t0) = true) : Del2 B g cap L i (j + 1) R W := by
  obtain ⟨h1, h2, h3, h4, h5⟩ := h
  have e : kept2 (L.take (j + 1)) = kept2 (L.take j) := by rw [kept2_take hj, hd]; simp
  refine ⟨h1, by rw [e]; exact h2, by rw [e]; exact h3, ?_, h5⟩
  rw [← List.drop_drop, ← List.drop_drop, h4]
theorem Del2.keep {B g cap i j : Nat} {L R : List TV} {W : World} {q : TV} (h : Del2 B g cap L i j R W) (hj : j < L.length) (hij : i < j) (hq : L.getD j t0 = q) (hd : del2 q = false) :
    Del2 B g cap L (i + 1) (j + 1) (R.set i q) ((W.setCell ⟨g, i * 2, none⟩ (.string q.1)).setCell ⟨g, i * 2 + 1, none⟩ (.int .i64 (q.2 : Nat))) := by
  obtain ⟨h1, h2, h3, h4, h5⟩ := h
  have e : kept2 (L.take (j + 1)) = kept2 (L.take j) ++ [q] := by rw [kept2_take hj, hq, hd]; simp
  refine ⟨by rw [List.length_set, h1], by rw [e, List.length_append, ← h2]; rfl, ?_, ?_, ?_⟩
  · rw [e, ← h3, List.take_succ_eq_append_getElem (by rw [List.length_set]; omega)]
    rw [List.take_set_of_le (Nat.le_refl _)]
    simp
  · rw [List.drop_set_of_lt (by omega), ← List.drop_drop, ← List.drop_drop, h4]
  · rw [← cells2_set R i q (by omega)]
    exact ((h5.stored (i * 2) _).1.stored (i * 2 + 1) _).1

set_option maxHeartbeats 4000000 in
theorem delete2_any (B : Nat) (v : Value) (L : List TV) (w : World) (hown : w.ownsRow B 74 2 v L.length (cells2 L)) (hL : L.length ≤ 1099511627776) (hB : B ≤ w.heap.size) :
    Calls Try.prog 64 #[v, .func (.func 65) #[] #[]] w fun e w' => ∃ v', e = .returned v' ∧ w'.ownsRow B 74 2 v' (kept2 L).length (cells2 (kept2 L)) ∧ Below B w w' := by
  have HF := run.hid (fun r w => flow2_any r w)
  have HI := run.hid (index2_any v L w (reads2_own hown) hL)
  have HO := run.hid hown
  obtain ⟨a, cap, rfl⟩ := run.own_value hown
  clear hown
  go_enter Try.func64, Try.ntmps64
  go_wp2_with fail
  refine HI.out.mono ?_
  rintro e w1 ⟨k, hk, rfl, hb1⟩
  have hBw := hb1.mono hB
  by_cases hlt : k < L.length
  · rw [if_pos hlt]
    obtain ⟨g, rfl, hcap⟩ : ∃ g, a = some ⟨g, 0, none⟩ ∧ L.length ≤ cap := by
      rcases HO.out.2 with ⟨h, h0⟩ | ⟨g, cap', cur, h, -, -, h1, -⟩
      · omega
      · simp only [Value.slice.injEq] at h; exact ⟨g, h.1, by omega⟩
    have HS : Hid (Del2 B g cap L k (k + 1) L w1) := ⟨rfl, by rw [kept2_first hk hlt, List.length_take]; omega, by rw [kept2_first hk hlt], rfl, run.own_below HO.out hb1⟩
    clear HO HI hk
    have HSKIP := run.hid (fun i j R W => @Del2.skip B g cap i j L R W)
    have HKEEP := run.hid (fun i j R W q => @Del2.keep B g cap i j L R W q)
    have HROW := run.hid (fun i j R W (h : Del2 B g cap L i j R W) => show W.ownsRow B 74 2 (.slice (some ⟨g, 0, none⟩) L.length cap) L.length (cells2 R) ∧ R.length = L.length ∧ R.getD j t0 = L.getD j t0 from ⟨h.2.2.2.2, h.1, getD_drop2 h.2.2.2.1⟩)
    have HDONE := run.hid (fun i R W (h : Del2 B g cap L i L.length R W) => show i = (kept2 L).length ∧ R.take i = kept2 L from by
      obtain ⟨-, h2, h3, -, -⟩ := h
      rw [List.take_of_length_le (Nat.le_refl _)] at h2 h3
      exact ⟨h2, h3⟩)
    have HNEW := run.hid (fun i j R W W' (h : Del2 B g cap L i j R W) (h' : Below W.heap.size W W') => show Del2 B g cap L i j R W' from ⟨h.1, h.2.1, h.2.2.1, h.2.2.2.1, run.own_below h.2.2.2.2 h'⟩)
    generalize hN : L.length = N at *
    have hne : ((k : Int) == -1) = false := by rw [beq_eq_false_iff_ne]; omega
    go_wp2
    go_loopw [5, 6] (fun vi vj wr => ∃ i j : Nat, ∃ R : List TV, i < j ∧ j ≤ N ∧ vi = .int .i64 i ∧ vj = .int .i64 j ∧ Hid (Del2 B g cap L i j R wr) ∧ Below B w wr) (fun _ vj _ => (N - intOf vj).toNat)
    case atStart => exact ⟨k, k + 1, L, by omega, by omega, rfl, by go_num, HS, hBw⟩
    case round =>
      obtain ⟨i, j, R, hij, hj, rfl, rfl, HD, hbel⟩ := hrel
      obtain ⟨hown, hRl, hRg⟩ := HROW.out i j R wr HD.out
      by_cases hjl : j < N
      · obtain ⟨g1, g2⟩ := cells2_get R j (by omega)
        have hc1 := (hown.cellAt (j * 2) (by omega)).trans g1
        have hc2 := (hown.cellAt (j * 2 + 1) (by omega)).trans g2
        unfold t0 at hRg
        rw [hRg] at hc1 hc2
        have HSK := run.hid (fun W h => HSKIP.out i j R W h hjl)
        have HKE := run.hid (fun W q h => HKEEP.out i j R W q h hjl hij)
        have HNW := run.hid (fun W h => HNEW.out i j R wr W HD.out h)
        have HRW := run.hid (fun W h => HROW.out i j R W h)
        clear hown hRg g1 g2
        have HX0 := run.hid (fun W (hd : del2 (L.getD j t0) = true) h => HSK.out W h hd)
        have HX1 := run.hid (fun W q (hq : L.getD j t0 = q) (hd : del2 q = false) h => HKE.out W q h hq hd)
        unfold t0 at HX0 HX1
        generalize hx : L.getD j (ByteArray.empty, 0) = x at *
        replace HX1 := run.hid (fun W => HX1.out W x rfl)
        clear hx HSK HKE HSKIP HKEEP HDONE HS HD
        have HFx := run.hid (fun W => HF.out x W)
        clear HF
        obtain ⟨xs, xn⟩ := x
        unfold agg at HFx
        dsimp only at hc1 hc2 HX0 HX1 HFx
        have hnew := new_two wr (.string xs) (.int .i64 xn) 74
        have hbn := run.below_one wr (.cells #[.string xs, .int .i64 xn] 74)
        have hsn : (wr.alloc (.cells #[.string xs, .int .i64 xn] 74)).heap.size = wr.heap.size + 1 := by simp
        have hcalls := HFx.out (wr.alloc (.cells #[.string xs, .int .i64 xn] 74))
        cases hd : del2 (xs, xn) with
        | true =>
          rw [hd] at hcalls
          have HX := run.hid (fun W => HX0.out W hd)
          clear hd HX0 HX1 HFx
          have HC := run.hid hcalls
          clear hcalls
          go_wp2_with fail
          refine HC.out.mono ?_
          rintro e w2 ⟨rfl, hb2⟩
          have hb3 : Below wr.heap.size wr w2 := hbn.trans (hb2.mono (by omega))
          have HD2 := run.hid (HX.out _ (HNW.out _ hb3))
          have hbel2 := hbel.trans (hb3.mono (Nat.le_trans hB hbel.size))
          clear hb2 hc1 hc2 hb3 hbn hsn hnew
          go_wp2
          go_roundw
          case rel => exact ⟨i, j + 1, R, by omega, by omega, rfl, by go_num, HD2, hbel2⟩
          case measure => simp [intOf]; omega
        | false =>
          rw [hd] at hcalls
          have HX := run.hid (fun W => HX1.out W hd)
          clear hd HX0 HX1 HFx
          have HC := run.hid hcalls
          clear hcalls
          go_wp2_with fail
          refine HC.out.mono ?_
          rintro e w2 ⟨rfl, hb2⟩
          have hb3 : Below wr.heap.size wr w2 := hbn.trans (hb2.mono (by omega))
          have HD2 := run.hid (HX.out _ (HNW.out _ hb3))
          obtain ⟨hown2, -, -⟩ := HRW.out w2 (HNW.out _ hb3)
          have hn1 := (hb2.cell (p := ⟨wr.heap.size, 0, none⟩) (by show wr.heap.size < _; omega)).trans hnew.1
          have hn2 := (hb2.cell (p := ⟨wr.heap.size, 1, none⟩) (by show wr.heap.size < _; omega)).trans hnew.2
          obtain ⟨g1, g2⟩ := cells2_get R i (by omega)
          have hi1 := (hown2.cellAt (i * 2) (by omega)).trans g1
          have hi2 := (hown2.cellAt (i * 2 + 1) (by omega)).trans g2
          have hf1 := hown2.frozenAt (i * 2)
          have hf2 := hown2.frozenAt (i * 2 + 1)
          have hbel2 := hbel.trans (hb3.mono (Nat.le_trans hB hbel.size))
          have hbel3 := run.below_grown hbel2 hown2 (run.grown_trans (run.setCell_grown w2 g (i * 2) (.string xs)) (run.setCell_grown _ g (i * 2 + 1) (.int .i64 xn)) (.inl rfl)) (Nat.le_refl _) (Nat.le_trans hB hbel2.size)
          generalize R.getD i (ByteArray.empty, 0) = y at *
          clear hb2 hc1 hc2 hb3 hbn hsn hnew hown2 g1 g2
          go_wp2
          go_roundw
          case rel => exact ⟨i + 1, j + 1, R.set i (xs, xn), by omega, by omega, by go_num, by go_num, HD2, hbel3⟩
          case measure => simp [intOf]; omega
      · obtain rfl : j = N := by omega
        obtain ⟨hi, hR⟩ := HDONE.out i R wr HD.out
        have hcl : ∀ ty, ∃ us, (Builtin.clear_ #[86] ty #[.slice (some ⟨g, i * 2, none⟩) (j - i) (cap - i)]).run Try.prog wr = .ok (.tuple #[]) (wr.setCells g (i * 2) us) :=
          fun ty => run.run_clear_two wr 86 74 ty _ _ _ Try.underlying86 zero_clu rfl rfl rfl g (i * 2) _ _ (by omega)
            (fun t ht => by rw [hown.cellAt (i * 2 + t) (by omega), List.getElem?_eq_getElem (by rw [cells2_length]; omega)]; rfl) (fun t ht => hown.frozenAt _)
        obtain ⟨us, hcl⟩ := hcl 0
        obtain ⟨ys, ho, htk, hgr⟩ := run.own_setCells us (i * 2) wr (cells2 R) hown
        have hfin := run.own_cut ho (Nat.le_of_lt hij)
        rw [htk (i * 2) (Nat.le_refl _), cells2_take, hR] at hfin
        have hbel3 := run.below_grown hbel hown hgr (Nat.le_refl _) (Nat.le_trans hB hbel.size)
        have HFIN := run.hid hfin
        have HIK := run.hid hi
        clear ho htk hgr hfin hown hRg hi hR hRl HD HDONE HSKIP HKEEP HROW HNEW HS HF hlt hjl
        go_wp2_with (simp only [hcl])
        go_ret
        exact ⟨_, rfl, by rw [← HIK.out]; exact HFIN.out, hbel3⟩
  · rw [if_neg hlt]
    have hkl : kept2 L = L := kept2_all fun i hi => hk.2.1 i (by omega)
    go_wp2
    go_ret
    exact ⟨_, rfl, by rw [hkl]; exact run.own_below HO.out hb1, hBw⟩

end Go.Proofs.Ytgpgbbbcodnieaa.wrp
