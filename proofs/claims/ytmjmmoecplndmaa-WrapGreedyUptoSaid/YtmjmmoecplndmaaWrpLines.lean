/-
  The walk of the layer wrap: Lines.
-/
import Derived.Test.YtmjmmoecplndmaaWrpCut
import Derived.Test.YtmjmmoecplndmaaWrpAlign
import Derived.Deep.DeepCutAuto
import Derived.Deep.RegionHeld3
namespace Go.Proofs.Ytmjmmoecplndmaa.wrp
open Go.RowKit Go.Proofs
open Go.Proofs.Ytmjmmoecplndmaa.wid Go.Proofs.Ytmjmmoecplndmaa.utf Go.Proofs.Ytmjmmoecplndmaa.clu
set_option linter.unusedVariables false

theorem info_line : (Try.prog.info? 26).map (fun i => (i.zero, i.size, i.bytes)) = some (some (.agg #[.string ByteArray.empty, .int .i64 0, .int .i8 0, .string ByteArray.empty]), 4, 48) := by kernel_rfl

def lenOf : Value → Nat
  | .slice _ n _ => n
  | _ => 0
def overM (v10 v12 : Value) : Nat := match v12 with | .bool true => 0 | _ => lenOf v10 + 1

theorem lenOf_rs {w : World} {v : Value} {X : List TV} (h : RS w v X) : lenOf v = X.length := by obtain ⟨a, cap, rfl, -⟩ := h; rfl
theorem row_len {X : List TV} {i : Nat} : ((rowsT X).getD i []).length ≤ X.length := by
  by_cases h : i < (rowsT X).length
  · have e : (rowsT X).getD i [] = (rowsT X)[i] := by simp [List.getD_eq_getElem?_getD, h]
    rw [e]
    exact (rowsT_mem (List.getElem_mem h)).1
  · simp [List.getD_eq_getElem?_getD, h]
theorem row_ok {X : List TV} (ho : Ok X) {i : Nat} : Ok ((rowsT X).getD i []) := by
  by_cases h : i < (rowsT X).length
  · have e : (rowsT X).getD i [] = (rowsT X)[i] := by simp [List.getD_eq_getElem?_getD, h]
    rw [e]
    exact ho.row (List.getElem_mem h)
  · simp [List.getD_eq_getElem?_getD, h, Ok]

/-- how far a row's lines have come -/
def RowAt (n m fin : Nat) (RW dn : List LV) (f : Nat) (rest : List TV) : Prop := RW = dn ++ rowL n m fin f rest
theorem RowAt.done {n m fin : Nat} {RW dn : List LV} {rest : List TV} (h : RowAt n m fin RW dn 0 rest) : RW = dn := by unfold RowAt at h; rw [h]; simp [rowL]
theorem RowAt.whole {n m fin f : Nat} {RW dn : List LV} {r : List TV} (h : RowAt n m fin RW dn f r) (hf : r.length < f) (h1 : m = 2 ∨ wideT r ≤ n) : RW = dn ++ [⟨joinT r, wideT r, fin, e0⟩] := by
  unfold RowAt at h
  obtain ⟨f, rfl⟩ : ∃ g, f = g + 1 := ⟨f - 1, by omega⟩
  rw [h, rowL_whole h1]
theorem RowAt.last {n m fin f : Nat} {RW dn : List LV} {r : List TV} (h : RowAt n m fin RW dn f r) (hf : r.length < f) (h1 : ¬(m = 2 ∨ wideT r ≤ n)) (h0 : fitT r n = 0) (hd : r.length ≤ 1) : RW = dn ++ [⟨spaces n, n, fin, (r.getD 0 t0).1⟩] := by
  unfold RowAt at h
  obtain ⟨f, rfl⟩ : ∃ g, f = g + 1 := ⟨f - 1, by omega⟩
  rw [h, rowL_last h1 h0 hd]
theorem RowAt.lost {n m fin f : Nat} {RW dn : List LV} {r : List TV} (h : RowAt n m fin RW dn f r) (hf : r.length < f) (h1 : ¬(m = 2 ∨ wideT r ≤ n)) (h0 : fitT r n = 0) (hd : 1 < r.length) : RowAt n m fin RW (dn ++ [⟨spaces n, n, 3, (r.getD 0 t0).1⟩]) (f - 1) (r.drop 1) := by
  unfold RowAt at h ⊢
  obtain ⟨f, rfl⟩ : ∃ g, f = g + 1 := ⟨f - 1, by omega⟩
  rw [h, rowL_lost h1 h0 hd, List.append_assoc]; rfl
theorem RowAt.blank {n m fin f j : Nat} {RW dn : List LV} {r : List TV} (h : RowAt n m fin RW dn f r) (hf : r.length < f) (h1 : ¬(m = 2 ∨ wideT r ≤ n)) (h0 : fitT r n ≠ 0) (hc : cutAt m r (fitT r n) = some j) : RowAt n m fin RW (dn ++ [⟨joinT (r.take j), wideT (r.take j), 2, e0⟩]) (f - 1) (r.drop (j + 1)) := by
  unfold RowAt at h ⊢
  obtain ⟨f, rfl⟩ : ∃ g, f = g + 1 := ⟨f - 1, by omega⟩
  rw [h, rowL_blank h1 h0 hc, List.append_assoc]; rfl
theorem RowAt.cut {n m fin f : Nat} {RW dn : List LV} {r : List TV} (h : RowAt n m fin RW dn f r) (hf : r.length < f) (h1 : ¬(m = 2 ∨ wideT r ≤ n)) (h0 : fitT r n ≠ 0) (hc : cutAt m r (fitT r n) = none) : RowAt n m fin RW (dn ++ [⟨joinT (r.take (fitT r n)), wideT (r.take (fitT r n)), 3, e0⟩]) (f - 1) (r.drop (fitT r n)) := by
  unfold RowAt at h ⊢
  obtain ⟨f, rfl⟩ : ∃ g, f = g + 1 := ⟨f - 1, by omega⟩
  rw [h, rowL_cut h1 h0 hc, List.append_assoc]; rfl
theorem RowAt.len {n m fin f : Nat} {RW dn : List LV} {r : List TV} (h : RowAt n m fin RW dn f r) (hf : 0 < f) : dn.length + 1 ≤ RW.length := by
  unfold RowAt at h
  obtain ⟨f, rfl⟩ : ∃ g, f = g + 1 := ⟨f - 1, by omega⟩
  have : 0 < (rowL n m fin (f + 1) r).length := by
    unfold rowL
    split
    · simp
    split
    · split <;> simp
    split <;> simp
  rw [h, List.length_append]; omega
theorem snoc4 (L : List LV) (t : ByteArray) (wd fin : Nat) (l : ByteArray) : cells4 L ++ [.string t, .int .i64 wd, .int .i8 fin, .string l] = cells4 (L ++ [⟨t, wd, fin, l⟩]) := by rw [cells4_append]; rfl
theorem one4 {t : ByteArray} {wd fin : Int} {l : ByteArray} : ∀ u ∈ [Value.string t, .int .i64 wd, .int .i8 fin, .string l], u.oneCell' = true := by
  intro u hu
  simp only [List.mem_cons, List.not_mem_nil, or_false] at hu
  rcases hu with rfl | rfl | rfl | rfl <;> rfl
theorem line_zero {w4 w5 : World} (wA : World) (hA : wA.heap = (w4.alloc (.cells #[.string ⟨#[]⟩, .int .i64 0, .int .i8 0, .string ⟨#[]⟩] 26)).heap) (hb : Below wA.heap.size wA w5) :
    w5.heap[w4.heap.size]? = some (.cells #[.string ⟨#[]⟩, .int .i64 0, .int .i8 0, .string ⟨#[]⟩] 26 (0, 0)) := (hb.block w4.heap.size (by rw [hA]; simp)).trans ((by rw [hA] : wA.heap[w4.heap.size]? = _).trans (run.heap_new w4 _))
theorem line_cells {w5 : World} {g : Nat} (h : w5.heap[g]? = some (.cells #[.string ⟨#[]⟩, .int .i64 0, .int .i8 0, .string ⟨#[]⟩] 26 (0, 0))) :
    w5.cell? ⟨g, 0, none⟩ = some (.string ⟨#[]⟩) ∧ w5.cell? ⟨g, 1, none⟩ = some (.int .i64 0) ∧ w5.cell? ⟨g, 2, none⟩ = some (.int .i8 0) ∧ w5.cell? ⟨g, 3, none⟩ = some (.string ⟨#[]⟩) ∧
    w5.frozen? ⟨g, 0, none⟩ = false ∧ w5.frozen? ⟨g, 1, none⟩ = false ∧ w5.frozen? ⟨g, 2, none⟩ = false ∧ w5.frozen? ⟨g, 3, none⟩ = false := by
  simp [World.cell?, World.frozen?, h]
theorem line_stays {w6 w7 W : World} {g : Nat} {o : Obj} (h : w6.heap[g]? = some o) (hb : Below W.heap.size W w7) (hW : W.heap = w6.heap := by rfl) : w7.heap[g]? = some o := by
  have hl : g < W.heap.size := by rw [hW]; exact (Array.getElem?_eq_some_iff.1 h).1
  rw [hb.block g hl, hW]; exact h
/-- a new line in a block of its own -/
def LineCell (w4 : World) (a b c d : Value) (v : Value) (wx : World) : Prop := ∃ g, v = .pointer (some ⟨g, 0, none⟩) ∧ w4.heap.size ≤ g ∧ wx.heap[g]? = some (.cells #[a, b, c, d] 26 (0, 0)) ∧ Below w4.heap.size w4 wx
theorem lineCell_late {w4 w5 : World} {a b c d : Value} (hb : Below w4.heap.size w4 w5) : LineCell w4 a b c d (.pointer (some ⟨w5.heap.size, 0, none⟩)) (w5.alloc (.cells #[a, b, c, d] 26)) :=
  ⟨w5.heap.size, rfl, hb.size, run.heap_new w5 _, hb.alloc hb.size _⟩
theorem set_line {w : World} {g i : Nat} {cs : Array Value} {t : TypeId} {u : Value} (h : w.heap[g]? = some (.cells cs t (0, 0))) : (w.setCell ⟨g, i, none⟩ u).heap[g]? = some (.cells (cs.setIfInBounds i u) t (0, 0)) := by
  obtain ⟨hlt, hk⟩ := Array.getElem?_eq_some_iff.1 h
  show (w.heap.modify g _)[g]? = _
  rw [Array.getElem?_eq_getElem (by rw [Array.size_modify]; exact hlt), Array.getElem_modify_self, hk]
  rfl
theorem lineCell_early {w4 w5 : World} {a b c d : Value} (g : Nat) (a0 b0 c0 d0 : Value) (hg : w4.heap.size ≤ g) (hz : w5.heap[g]? = some (.cells #[a0, b0, c0, d0] 26 (0, 0))) (hb : Below w4.heap.size w4 w5) :
    LineCell w4 a b c d (.pointer (some ⟨g, 0, none⟩)) ((((w5.setCell ⟨g, 0, none⟩ a).setCell ⟨g, 1, none⟩ b).setCell ⟨g, 2, none⟩ c).setCell ⟨g, 3, none⟩ d) :=
  ⟨g, rfl, hg, set_line (set_line (set_line (set_line hz))), (((hb.setCell (p := ⟨g, 0, none⟩) hg _).setCell (p := ⟨g, 1, none⟩) hg _).setCell (p := ⟨g, 2, none⟩) hg _).setCell (p := ⟨g, 3, none⟩) hg _⟩
theorem index_ways0 (w : World) : (Instr.index 45 (.agg #[.func (.func 34) #[] #[], .func (.func 35) #[] #[]]) (.int .i8 0)).run Try.prog w = .ok (.func (.func 34) #[] #[]) w := by kernel_rfl
theorem index_ways1 (w : World) : (Instr.index 45 (.agg #[.func (.func 34) #[] #[], .func (.func 35) #[] #[]]) (.int .i8 1)).run Try.prog w = .ok (.func (.func 35) #[] #[]) w := by kernel_rfl
/-- what a cutter says -/
def CutSays (m : Nat) (rest : List TV) (k jj gn : Nat) : Prop := gn = 1 ∧ cutAt m rest k = some jj ∨ gn = 0 ∧ jj = k ∧ cutAt m rest k = none
theorem fitT_lt {r : List TV} {n : Nat} (h : ¬ wideT r ≤ n) : fitT r n < r.length := by
  have h1 := fitT_le r n
  have h2 := fitT_wide r n
  rcases Nat.lt_or_ge (fitT r n) r.length with h3 | h3
  · exact h3
  · rw [List.take_of_length_le h3] at h2; omega

set_option maxRecDepth 100000 in
set_option maxHeartbeats 4000000 in
theorem lines_any (s : ByteArray) (wd mode : Int) (w : World) (hs : s.size ≤ 16777216) : Calls Try.prog 4 #[.string s, .int .i64 wd, .int .i8 mode] w fun e w' =>
    ∃ v, e = .returned v ∧ w'.ownsRow w.heap.size 26 4 v (linesT s wd mode).length (cells4 (linesT s wd mode)) ∧ Below w.heap.size w w' := by
  obtain ⟨ir, hir, hr0, hr1, hr2⟩ := info_parts info_line
  by_cases h1 : wd < 1
  · have HT : Hid (linesT s wd mode = []) := by show _ = _; unfold linesT; rw [if_pos h1]
    go_enter Try.func4, Try.ntmps4
    go_wp2
    go_ret
    rw [HT.out]
    exact ⟨_, rfl, World.ownsRow_nil _ _ _ _, Below.refl _ _⟩
  · have HT : Hid (linesT s wd mode = linesTo wd.toNat (modeOf mode) (rowsT (flow s)) (rowsT (flow s)).length) := by show _ = _; unfold linesT; rw [if_neg h1]
    obtain ⟨n, rfl⟩ : ∃ n : Nat, wd = n := ⟨wd.toNat, by omega⟩
    rw [Int.toNat_natCast] at HT
    have HFL := run.hid (flow_any s w (by omega))
    have HOK := run.hid (flow_ok s)
    have hfl : (flow s).length ≤ 67108864 := by have := flow_len s; omega
    have HM := run.hid (show modeOf mode = _ from rfl)
    generalize linesT s n mode = LT at *
    generalize flow s = X at *
    have HRO := run.hid (fun v w' h => rows_any v X w' h (by omega))
    have HWE := run.hid (rowsT_weigh X)
    have hRl := rowsT_len X
    have HRL := run.hid (fun i => @row_len X i)
    have HRK := run.hid (fun i => @row_ok X HOK.out i)
    generalize rowsT X = all at *
    generalize hm : modeOf mode = m at *
    go_enter Try.func4, Try.ntmps4
    obtain ⟨j, hj⟩ : ∃ j : Bool, decide (mode < 0 ∨ 2 < mode) = j := ⟨_, rfl⟩
    go_upto_region 3 with fail
    go_cut [26] (fun c wx => c = .bool j ∧ wx = w)
    case first =>
      by_cases ha : mode < 0
      · have e : j = true := by rw [← hj, decide_eq_true_iff]; omega
        subst e
        clear hj hm
        go_wp2
        go_meet
        exact ⟨rfl, rfl⟩
      · by_cases hb : 2 < mode
        · have e : j = true := by rw [← hj, decide_eq_true_iff]; omega
          subst e
          clear hj hm
          go_wp2
          go_meet
          exact ⟨rfl, rfl⟩
        · have e : j = false := by rw [← hj, decide_eq_false_iff_not]; omega
          subst e
          clear hj hm
          go_wp2
          go_meet
          exact ⟨rfl, rfl⟩
    obtain ⟨rfl, hww⟩ := hcut
    replace hww := hww.symm
    subst hww
    go_upto_if 26 with fail
    go_cut [2] (fun c wx => c = .int .i8 m ∧ wx = w)
    case first =>
      cases j with
      | true =>
        have e : m = 0 := by
          rw [← hm]; unfold modeOf
          have := of_decide_eq_true hj
          rw [if_neg (by omega), if_neg (by omega)]
        subst e
        clear hj hm
        go_wp2
        go_meet
        exact ⟨rfl, rfl⟩
      | false =>
        have e : mode = m := by
          rw [← hm]; unfold modeOf
          have := of_decide_eq_false hj
          split
          · omega
          · split <;> omega
        have EM := run.hid e
        clear hj hm e
        go_wp2
        go_meet
        exact ⟨congrArg _ EM.out, rfl⟩
    obtain ⟨rfl, hww⟩ := hcut
    replace hww := hww.symm
    subst hww
    have hm2 : m ≤ 2 := by rw [← hm]; unfold modeOf; split <;> (try split) <;> omega
    clear hj hm
    go_wp2_with fail
    refine HFL.out.mono ?_
    rintro e w1 ⟨v1, rfl, hown1, hb1⟩
    have hs1 := hb1.size
    go_wp2_with fail
    refine (HRO.out v1 w1 (rs_own hown1)).mono ?_
    rintro e w2 ⟨v2, vs, rfl, hown2, hrows, hb2⟩
    have hb02 := hb1.trans (hb2.mono hs1)
    have hs2 := hb02.size
    have HRS := run.hid (fun w' (h : Below w2.heap.size w2 w') i (hi : i < all.length) => (((hrows.below hb2).2 i hi).below h))
    have hvl := hrows.1
    obtain ⟨a2, cap2, rfl⟩ := run.own_value hown2
    have HV2 := run.hid (fun w' (h : Below w2.heap.size w2 w') => run.reads_own (run.own_below hown2 h))
    have HA2 := run.hid (fun k (h : k < all.length) => show ∃ b off, a2 = some ⟨b, off, none⟩ ∧ b < w2.heap.size ∧ w2.cell? ⟨b, off + k, none⟩ = some (vs.getD k (.bool false)) from by
      obtain ⟨b, off, cap', he, hb, hc⟩ := reads_get (run.reads_own hown2) (by intro e; rw [e] at hvl; simp at hvl; omega)
      simp only [Value.slice.injEq] at he
      exact ⟨b, off, he.1, hb, hc k _ (by simp [List.getD_eq_getElem?_getD, show k < vs.length by omega])⟩)
    clear HFL HRO hown1 hown2 hrows hvl HV2
    have HNX := run.hid (fun i => linesTo_next n m all i)
    have HLL := run.hid (fun i h => Nat.le_trans (linesTo_len n m all i h) (Nat.le_trans (weigh_take all i) HWE.out))
    have HRO := run.hid (fun i => show rowOf n m all i = rowL n m (finOf all.length i) ((all.getD i []).length + 1) (all.getD i []) from rfl)
    generalize hR : all.length = R at *
    go_wp2
    go_loopw [7, 32] (fun vo vi wr => ∃ i lo, i ≤ R ∧ vi = .int .i64 i ∧ wr.ownsRow w2.heap.size 26 4 vo lo (cells4 (linesTo n m all i)) ∧ Hid (lo = (linesTo n m all i).length) ∧ Below w2.heap.size w2 wr) (fun _ vi _ => ((R : Int) - intOf vi).toNat)
    case atStart => exact ⟨0, 0, by omega, rfl, World.ownsRow_nil _ _ _ _, rfl, Below.refl _ _⟩
    case round =>
      obtain ⟨i, lo, hi, rfl, hown, HLO, hbel⟩ := hrel
      by_cases hlt : i < R
      · obtain ⟨b, off, rfl, hb, hc⟩ := HA2.out i hlt
        replace hc := (hbel.cell (p := ⟨b, off + i, none⟩) hb).trans hc
        have HR0 := run.hid (fun w' (h : Below w2.heap.size w2 w') => HRS.out w' h i hlt)
        have hr0l := HRL.out i
        have HR0K := run.hid (HRK.out i)
        have HN1 := run.hid (HNX.out i)
        have HN2 := run.hid (HRO.out i)
        have hNL := HLL.out (i + 1) (by omega)
        generalize vs.getD i (.bool false) = v0 at *
        generalize all.getD i [] = r0 at *
        obtain ⟨fin, hfin⟩ : ∃ fin, finOf R i = fin := ⟨_, rfl⟩
        rw [hfin] at HN2
        clear HA2 HRS HRL HRK HNX HRO HLL HWE hR HT
        go_upto_if 41 with fail
        go_cut [11] (fun c wx => c = .int .i8 fin ∧ wx = wr)
        case first =>
          by_cases hl : i + 1 = R
          · have e : fin = 0 := by rw [← hfin]; unfold finOf; rw [if_pos hl]
            subst e
            have h2 : ((i : Int) == (R : Int) - 1) = true := by rw [beq_iff_eq]; omega
            clear hfin
            go_wp2
            go_meet
            exact ⟨rfl, rfl⟩
          · have e : fin = 1 := by rw [← hfin]; unfold finOf; rw [if_neg hl]
            subst e
            have h2 : ((i : Int) == (R : Int) - 1) = false := by rw [beq_eq_false_iff_ne]; omega
            clear hfin
            go_wp2
            go_meet
            exact ⟨rfl, rfl⟩
        obtain ⟨rfl, hww⟩ := hcut
        replace hww := hww.symm
        subst hww
        clear hfin
        have HN : Hid (linesTo n m all (i + 1) = linesTo n m all i ++ rowL n m fin (r0.length + 1) r0) := by show _ = _; rw [HN1.out, HN2.out]
        rw [HN.out, List.length_append] at hNL
        clear HN1 HN2
        have HFIN := run.hid (fun (e : List LV) (h : e = linesTo n m all i ++ rowL n m fin (r0.length + 1) r0) => show linesTo n m all (i + 1) = e from HN.out.trans h.symm)
        clear HN
        generalize hLI : linesTo n m all (i + 1) = LI at *
        generalize linesTo n m all i = L0 at *
        have HRW : Hid (RowAt n m fin (rowL n m fin (r0.length + 1) r0) [] (r0.length + 1) r0) := by show _ = _; rfl
        generalize rowL n m fin (r0.length + 1) r0 = RW at *
        have HOWN : Hid (wr.ownsRow w2.heap.size 26 4 u7 lo (cells4 (L0 ++ []))) := by rw [List.append_nil]; exact hown
        go_wp2
        generalize wr = wz at *
        go_loopw [7, 10, 12] (fun vo v10 v12 wr => ∃ (lo f : Nat) (rest : List TV) (dn : List LV) (over : Bool), v12 = .bool over ∧ (over = false → rest.length < f) ∧ (over = true → f = 0) ∧ Hid (∀ w', Below w2.heap.size w2 w' → RS w' v10 rest) ∧ Hid (Ok rest) ∧ rest.length ≤ X.length ∧
          Hid (wr.ownsRow w2.heap.size 26 4 vo lo (cells4 (L0 ++ dn))) ∧ Hid (lo = L0.length + dn.length) ∧ Hid (RowAt n m fin RW dn f rest) ∧ Below w2.heap.size w2 wr) (fun _ v10 v12 _ => overM v10 v12)
        case atStart => exact ⟨lo, r0.length + 1, r0, [], false, rfl, (fun _ => by omega), (fun h => by cases h), HR0, HR0K, hr0l, HOWN, HLO, HRW, hbel⟩
        case round =>
          obtain ⟨lo, f, rest, dn, over, rfl, hov, hov1, HX, HK, hrl, HOWN, HLO, HRW, hbel⟩ := hrel
          cases over with
          | true =>
            obtain rfl : f = 0 := hov1 rfl
            have hown := HOWN.out
            rw [← HRW.out.done] at hown
            have hL := HFIN.out _ rfl
            rw [← hL] at hown
            have HLO2 : Hid (lo = LI.length) := by show _ = _; rw [hL, HRW.out.done, List.length_append]; exact HLO.out
            subst hLI
            clear hov hov1 HX HK HOWN HRW HFIN hNL HR0 HR0K hL
            go_wp2
            go_roundw
            case rel => exact ⟨i + 1, lo, by omega, by go_num, hown, HLO2, hbel⟩
            case measure => simp [intOf]; omega
          | false =>
            have hf := hov rfl
            have hsz := hbel.size
            have hRL := HRW.out.len (by omega)
            have hlo : lo + 1 ≤ X.length + 1 := by rw [HLO.out]; omega
            have HLI := run.hid hLI
            clear hov hov1 hLI HR0 HR0K
            go_wp2_with fail
            refine (wide_use u10 rest wr (HX.out _ hbel) HK.out (by omega)).mono ?_
            rintro e w3 ⟨rfl, hb3⟩
            have c3 := hbel.trans (hb3.mono hsz)
            have HOWN3 := run.hid (run.own_below HOWN.out hb3)
            clear HOWN hb3 hbel
            obtain ⟨j, hj⟩ : ∃ j : Bool, decide (m = 2 ∨ wideT rest ≤ n) = j := ⟨_, rfl⟩
            have HTW := run.hid (show wideT rest = wideT rest from rfl)
            have hfl := fitT_le rest n
            have HW1 := run.hid (fun h => HRW.out.whole hf h)
            have HW2 := run.hid (fun h => HRW.out.last hf h)
            have HW3 := run.hid (fun h => HRW.out.lost hf h)
            have HW4 := run.hid (fun j h => HRW.out.blank (j := j) hf h)
            have HW5 := run.hid (fun h => HRW.out.cut hf h)
            have HFT := run.hid (fun h => @fitT_lt rest n h)
            have HWT := HK.out.wide
            obtain ⟨tot, htot⟩ : ∃ tot, wideT rest = tot := ⟨_, rfl⟩
            rw [htot] at HW1 HW2 HW3 HW4 HW5 HFT hj HWT
            rw [htot]
            clear HTW htot HRW
            go_upto_region 16 with fail
            go_cut [52] (fun c wx => c = .bool j ∧ wx = w3)
            case first =>
              by_cases ha : m = 2
              · have e : j = true := by rw [← hj]; exact decide_eq_true (.inl ha)
                subst e
                clear hj
                subst ha
                go_wp2
                go_meet
                exact ⟨rfl, rfl⟩
              · have e : j = decide (tot ≤ n) := by rw [← hj]; exact decide_eq_decide.2 ⟨fun h => h.resolve_left ha, .inr⟩
                subst e
                clear hj
                have h2 : ((m : Int) == 2) = false := by rw [beq_eq_false_iff_ne]; omega
                clear ha
                go_wp2
                go_meet
                exact ⟨by simp, rfl⟩
            obtain ⟨rfl, hww⟩ := hcut
            replace hww := hww.symm
            subst hww
            cases j with
            | true =>
              have hw := of_decide_eq_true hj
              have HE := run.hid (HW1.out hw)
              clear HW1 HW2 HW3 HW4 HW5 HFT hj hw
              go_wp2_with fail
              refine (join_use u10 rest _ (HX.out _ c3) HK.out (by omega)).mono ?_
              rintro e w4 ⟨rfl, hb4⟩
              have c4 := c3.trans (hb4.mono c3.size)
              have hown4 := run.own_below HOWN3.out hb4
              have hs4 := c4.size
              clear HOWN3 hb4 c3
              generalize joinT rest = jt at *
              go_wp2_with (at_builtin; refine run.wpList_append_any _ rfl _ _ 23 rfl w2.heap.size 26 ir (.agg #[.string ByteArray.empty, .int .i64 0, .int .i8 0, .string ByteArray.empty]) 4 48 Try.underlying23 hir hr0 hr1 hr2 rfl (by decide) _ _ _ rfl (hown4.alloc _) _ 1 [.string jt, .int .i64 tot, .int .i8 fin, .string ⟨#[]⟩] rfl (run.readsN_new w4 [.string jt, .int .i64 tot, .int .i8 fin, .string ⟨#[]⟩] 1 4 _ rfl) one4 (by unfold maxLen; omega) (by omega) (by simp; omega) ?_)
              intro v' w5 hown5 hgrow hold hstep
              have c5 := run.below_append (c4.alloc hs4 _) (hown4.alloc _) hgrow (by simp; omega)
              clear hown4 hgrow hold hstep c4
              have h5 : w5.ownsRow w2.heap.size 26 4 v' (lo + 1) (cells4 LI) := by
                rw [HFIN.out _ rfl, HE.out, ← List.append_assoc, ← snoc4]; exact hown5
              have HLO2 : Hid (lo + 1 = LI.length) := by show _ = _; rw [HFIN.out _ rfl, HE.out, HLO.out]; simp only [List.length_append, List.length_singleton]; omega
              rw [← HLI.out] at h5 HLO2
              clear hown5 HE HLI HX HK HFIN HLO
              go_wp2
              go_roundw
              case rel => exact ⟨i + 1, lo + 1, by omega, by go_num, h5, HLO2, c5⟩
              case measure => simp [intOf]; omega
            | false =>
              have hw := of_decide_eq_false hj
              have hnt : n < tot := by
                rcases Nat.lt_or_ge n tot with h | h
                · exact h
                · exact absurd (.inr h) hw
              have hm : m ≠ 2 := fun e => hw (.inl e)
              have hk := HFT.out (by omega)
              replace HW2 := run.hid (HW2.out hw)
              replace HW3 := run.hid (HW3.out hw)
              replace HW4 := run.hid (fun j => HW4.out j hw)
              replace HW5 := run.hid (HW5.out hw)
              clear HW1 HFT hj hw hfl
              go_wp2_with fail
              refine (fit_use u10 rest n _ (HX.out _ c3) HK.out (by omega) (by omega)).mono ?_
              rintro e w4 ⟨rfl, hb4⟩
              have c4 := c3.trans (hb4.mono c3.size)
              have HOWN4 := run.hid (run.own_below HOWN3.out hb4)
              clear HOWN3 hb4 c3
              generalize fitT rest n = k at *
              have HRS4 := HX.out _ c4
              obtain ⟨b0, off0, cap0, rfl, hb0, hcap0⟩ : ∃ b off cap, u10 = .slice (some ⟨b, off, none⟩) rest.length cap ∧ b < w4.heap.size ∧ rest.length ≤ cap := by
                obtain ⟨a, cap, h1, h2, h3⟩ := HRS4
                obtain ⟨b, off, h4, h5, -⟩ := h3 0 (by omega)
                subst h4
                exact ⟨b, off, cap, h1, h5, h2.1⟩
              have hs4 := c4.size
              by_cases hk0 : k = 0
              · subst hk0
                replace HW2 := run.hid (HW2.out rfl)
                replace HW3 := run.hid (HW3.out rfl)
                clear HW4 HW5
                have hx0 : w4.cell? ⟨b0, off0, none⟩ = some (.string (rest.getD 0 t0).1) := by
                  obtain ⟨a, cap, h1, -, h3⟩ := HRS4
                  obtain ⟨b, off, h4, -, h6, -⟩ := h3 0 (by omega)
                  simp only [Value.slice.injEq] at h1
                  have h7 := h1.1.trans h4
                  simp only [Option.some.injEq, Addr.mk.injEq, and_true] at h7
                  obtain ⟨rfl, rfl⟩ := h7
                  rw [Nat.zero_mul, Nat.add_zero] at h6
                  exact h6
                generalize (rest.getD 0 t0).1 = txt at *
                clear HRS4
                go_upto_region 20 with fail
                go_cut [15] (fun c wx => LineCell w4 (.string (spaces n)) (.int .i64 n) (.int .i8 3) (.string txt) c wx)
                case first =>
                  have hne1 : ¬ b0 = w4.heap.size := by omega
                  have hne2 : ¬ w4.heap.size = b0 := by omega
                  have HB := run.hid hb0
                  go_region_held3 (fun w' => w'.cell? ⟨b0, off0, none⟩ = some (.string txt))
                    (first
                      | go_keep
                      | exact (hb5.cell (p := ⟨b0, off0, none⟩) (run.lt_of_cell (by assumption))).trans (by assumption)
                      | exact run.cell_old _ _ ((hb5.cell (p := ⟨b0, off0, none⟩) (run.lt_of_cell hx0)).trans hx0)
                      | (trace_state; fail))
                    (first | (go_at_call 13; refine (repeat_any n _ (by omega)).mono ?_; rintro e w5 ⟨rfl, hb5⟩; first | (have hzz := line_zero (w4 := w4) _ (by rfl) hb5; obtain ⟨hz0, hz1, hz2, hz3, hf0, hf1, hf2, hf3⟩ := line_cells hzz) | (have hzz := hb5)))
                  · go_wp2
                    go_meet
                    exact lineCell_late ((Below.refl _ w4).drew.trans hb5)
                  · go_wp2
                    go_meet
                    exact lineCell_early _ _ _ _ _ (Nat.le_refl _) hzz (((Below.refl _ w4).alloc (Nat.le_refl _) _).drew.trans (hb5.mono (by simp)))
                obtain ⟨g, rfl, hg, hheap, hb5⟩ := hcut
                have HOX := run.hid (fun w' (h : Below w4.heap.size w4 w') => run.own_below HOWN4.out h)
                have c6 := c4.trans (hb5.mono hs4)
                have hs6 := c6.size
                have hg2 : w2.heap.size ≤ g := Nat.le_trans hs4 hg
                have HXD := run.hid (fun w' h => (HX.out w' h).drop 1 (by omega))
                have HXN := run.hid (fun (hc : cap0 = 1) w' (h : Below w2.heap.size w2 w') => rs_none (HX.out w' h) (k := 1) (by omega) hc (some ⟨b0, off0, none⟩))
                clear HX HOWN4 c4
                go_upto_region 21 with fail
                go_cut [10] (fun c wx => ((∃ a cp, c = .slice a (rest.length - 1) cp) ∧ Hid (∀ w', Below w2.heap.size w2 w' → RS w' c (rest.drop 1))) ∧ wx = wc)
                case first =>
                  have hl1 : 1 ≤ cap0 := by omega
                  have hl2 : 1 ≤ rest.length := by omega
                  by_cases hce : cap0 = 1
                  · have H5 := run.hid (HXN.out hce)
                    have hle : rest.length = 1 := by omega
                    subst hce
                    clear HXN HXD
                    go_wp2
                    go_meet
                    exact ⟨⟨⟨_, _, by rw [hle]⟩, H5⟩, rfl⟩
                  · clear HXN
                    go_wp2
                    go_meet
                    exact ⟨⟨⟨_, _, rfl⟩, HXD⟩, rfl⟩
                obtain ⟨⟨⟨a10, cp10, rfl⟩, HXR⟩, hww⟩ := hcut
                replace hww := hww.symm
                subst hww
                clear HXD HXN
                have hz0 : wc.cell? ⟨g, 0, none⟩ = some (.string (spaces n)) := by simp [World.cell?, hheap]
                have hz1 : wc.cell? ⟨g, 1, none⟩ = some (.int .i64 n) := by simp [World.cell?, hheap]
                have hz2 : wc.cell? ⟨g, 2, none⟩ = some (.int .i8 3) := by simp [World.cell?, hheap]
                have hz3 : wc.cell? ⟨g, 3, none⟩ = some (.string txt) := by simp [World.cell?, hheap]
                have hzf : wc.frozen? ⟨g, 2, none⟩ = false := by simp [World.frozen?, hheap]
                have HKD := run.hid (HK.out.drop 1)
                have hdl : (rest.drop 1).length = rest.length - 1 := List.length_drop
                have HHEAP := run.hid hheap
                clear hheap
                by_cases hl : rest.length = 1
                · have HE := run.hid (HW2.out (by omega))
                  have hl3 : ((rest.length : Int) - 1 == 0) = true := by rw [beq_iff_eq]; omega
                  have hl4 : (rest.length - 1 == 0) = true := by rw [beq_iff_eq]; omega
                  have hl5 : ((rest.length - 1 : Nat) : Int) = (rest.length : Int) - 1 := by omega
                  have hbz := hb5.setCell (p := ⟨g, 2, none⟩) hg (.int .i8 fin)
                  have c6z := c6.setCell (p := ⟨g, 2, none⟩) hg2 (.int .i8 fin)
                  have hownc := HOX.out _ hbz
                  have hs6z := c6z.size
                  have hlN : rest.length - 1 = 0 := by omega
                  clear HW2 HW3 HK HOX HHEAP
                  generalize spaces n = spn at *
                  go_wp2_with (at_builtin; refine run.wpList_append_any _ rfl _ _ 23 rfl w2.heap.size 26 ir (.agg #[.string ByteArray.empty, .int .i64 0, .int .i8 0, .string ByteArray.empty]) 4 48 Try.underlying23 hir hr0 hr1 hr2 rfl (by decide) _ _ _ rfl (hownc.alloc _) _ 1 [.string spn, .int .i64 n, .int .i8 fin, .string txt] rfl (readsN_at (wc.setCell ⟨g, 2, none⟩ (.int .i8 fin)) wc.heap.size (by simp) [.string spn, .int .i64 n, .int .i8 fin, .string txt] 1 4 _ rfl) one4 (by unfold maxLen; omega) (by omega) (by simp; omega) ?_)
                  intro v' w7 hown7 hgrow hold hstep
                  have c7 := run.below_append (c6z.alloc c6z.size _) (hownc.alloc _) hgrow (by simp; omega)
                  have h7 : Hid (w7.ownsRow w2.heap.size 26 4 v' (lo + 1) (cells4 (L0 ++ (dn ++ [⟨spn, n, fin, txt⟩])))) := by
                    show World.ownsRow _ _ _ _ _ _ _; rw [← List.append_assoc, ← snoc4]; exact hown7
                  have HLO2 : Hid (lo + 1 = L0.length + (dn ++ [(⟨spn, n, fin, txt⟩ : LV)]).length) := by show _ = _; rw [HLO.out]; simp only [List.length_append, List.length_singleton]; omega
                  have HRW2 : Hid (RowAt n m fin RW (dn ++ [(⟨spn, n, fin, txt⟩ : LV)]) 0 (rest.drop 1)) := by show _ = _; rw [HE.out]; simp [rowL]
                  rw [hlN] at HXR
                  clear hown7 hownc hgrow hold hstep HLO
                  go_wp2
                  go_roundw
                  case rel => exact ⟨lo + 1, 0, rest.drop 1, _, true, rfl, (fun h => by cases h), (fun _ => rfl), HXR, HKD, by omega, h7, HLO2, HRW2, c7⟩
                  case measure => simp [overM, lenOf]
                · have HE := run.hid (HW3.out (by omega))
                  have hl3 : ((rest.length : Int) - 1 == 0) = false := by rw [beq_eq_false_iff_ne]; omega
                  have hl4 : (rest.length - 1 == 0) = false := by rw [beq_eq_false_iff_ne]; omega
                  have hl5 : ((rest.length - 1 : Nat) : Int) = (rest.length : Int) - 1 := by omega
                  have hownc := HOX.out wc hb5
                  clear HW2 HW3 HK HOX
                  generalize spaces n = spn at *
                  go_wp2_with (at_builtin; refine run.wpList_append_any _ rfl _ _ 23 rfl w2.heap.size 26 ir (.agg #[.string ByteArray.empty, .int .i64 0, .int .i8 0, .string ByteArray.empty]) 4 48 Try.underlying23 hir hr0 hr1 hr2 rfl (by decide) _ _ _ rfl (hownc.alloc _) _ 1 [.string spn, .int .i64 n, .int .i8 3, .string txt] rfl (run.readsN_new wc [.string spn, .int .i64 n, .int .i8 3, .string txt] 1 4 _ rfl) one4 (by unfold maxLen; omega) (by omega) (by simp; omega) ?_)
                  intro v' w7 hown7 hgrow hold hstep
                  have c7 := run.below_append (c6.alloc c6.size _) (hownc.alloc _) hgrow (by have := c6.size; simp; omega)
                  have h7 : Hid (w7.ownsRow w2.heap.size 26 4 v' (lo + 1) (cells4 (L0 ++ (dn ++ [⟨spn, n, 3, txt⟩])))) := by
                    show World.ownsRow _ _ _ _ _ _ _; rw [← List.append_assoc, ← snoc4]; exact hown7
                  have HLO2 : Hid (lo + 1 = L0.length + (dn ++ [(⟨spn, n, 3, txt⟩ : LV)]).length) := by show _ = _; rw [HLO.out]; simp only [List.length_append, List.length_singleton]; omega
                  clear hown7 hownc hgrow hold hstep HLO
                  go_wp2
                  go_roundw
                  case rel => exact ⟨lo + 1, f - 1, rest.drop 1, _, false, rfl, (fun _ => by omega), (fun h => by cases h), HXR, HKD, by omega, h7, HLO2, HE, c7⟩
                  case measure => simp [overM, lenOf]; omega
              · replace HW4 := run.hid (fun j => HW4.out j hk0)
                replace HW5 := run.hid (HW5.out hk0)
                clear HW2 HW3 HRS4
                have HWD := run.hid (fun w' h => word_any (.slice (some ⟨b0, off0, none⟩) rest.length cap0) rest k w' (HX.out w' h) hk (by omega))
                have HCUT := run.hid (show cutAt m rest k = if m = 0 then lastSp rest k else none from rfl)
                have HLE := run.hid (fun j h => (@lastSp_le rest k j h).1)
                go_upto_region 25 with fail
                go_cut [16, 17] (fun c d wx => (∃ jj gn : Nat, c = .int .i64 jj ∧ d = .int .i64 gn ∧ jj ≤ k ∧ gn ≤ 1 ∧ Hid (CutSays m rest k jj gn)) ∧ Below w4.heap.size w4 wx)
                case first =>
                  by_cases hm0 : m = 0
                  · subst hm0
                    rw [if_pos rfl] at HCUT
                    go_wp2_with fail
                    refine (ways_any _).mono ?_
                    rintro e w5 ⟨rfl, hb5⟩
                    have hix := index_ways0 w5
                    go_wp2_with fail
                    refine (HWD.out _ (c4.trans (hb5.mono hs4))).mono ?_
                    rintro e w6 ⟨rfl, hww⟩
                    replace hww := hww.symm
                    subst hww
                    cases hsp : lastSp rest k with
                    | some jj =>
                      have hjl := HLE.out jj hsp
                      have HH : Hid (CutSays 0 rest k jj 1) := .inl ⟨rfl, HCUT.out.trans hsp⟩
                      clear HLE HCUT hsp HWD
                      go_wp2
                      go_meet
                      exact ⟨⟨jj, 1, rfl, rfl, hjl, Nat.le_refl _, HH⟩, hb5⟩
                    | none =>
                      have HH : Hid (CutSays 0 rest k k 0) := .inr ⟨rfl, rfl, HCUT.out.trans hsp⟩
                      clear HLE HCUT hsp HWD
                      go_wp2
                      go_meet
                      exact ⟨⟨k, 0, rfl, rfl, Nat.le_refl _, by omega, HH⟩, hb5⟩
                  · obtain rfl : m = 1 := by omega
                    have HH : Hid (CutSays 1 rest k k 0) := .inr ⟨rfl, rfl, rfl⟩
                    clear HLE HCUT HWD
                    go_wp2_with fail
                    refine (ways_any _).mono ?_
                    rintro e w5 ⟨rfl, hb5⟩
                    have hix := index_ways1 w5
                    go_wp2_with fail
                    refine (char_any _ _ _).mono ?_
                    rintro e w6 ⟨rfl, hww⟩
                    replace hww := hww.symm
                    subst hww
                    go_wp2
                    go_meet
                    exact ⟨⟨k, 0, rfl, rfl, Nat.le_refl _, by omega, HH⟩, hb5⟩
                obtain ⟨⟨jj, gn, rfl, rfl, hjk, hgn, HJ⟩, hb5⟩ := hcut
                generalize wc = w5 at *
                have hs5 := hb5.size
                have c5 := c4.trans (hb5.mono hs4)
                have hs52 := c5.size
                have HOX := run.hid (fun w' (h : Below w4.heap.size w4 w') => run.own_below HOWN4.out h)
                have HXT := run.hid (fun w' h => (HX.out w' (c5.trans (Below.mono h hs52))).take jj (by omega))
                have HKT := run.hid (HK.out.take jj)
                have htl : (rest.take jj).length ≤ 274877906944 := by rw [List.length_take]; omega
                have hcp : 0 < cap0 := by omega
                clear HWD HCUT HLE HOWN4
                go_upto_region 26 with fail
                go_cut [18] (fun c wx => LineCell w5 (.string (joinT (rest.take jj))) (.int .i64 (wideT (rest.take jj) : Nat)) (.int .i8 3) (.string ⟨#[]⟩) c wx)
                case first =>
                  have HB0 := Below.refl w5.heap.size w5
                  have hj0 : (0 : Int) ≤ (jj : Int) := by omega
                  have hj1 : (jj : Int) ≤ (cap0 : Int) := by omega
                  go_region_held3 (fun w' => Below w5.heap.size w5 w')
                    (first
                      | assumption
                      | exact Below.drew (by assumption)
                      | exact Below.alloc (by assumption) (Below.size (by assumption)) _
                      | exact cw.alloc cw.size _
                      | exact (((cw.setCell (p := ⟨_, 0, none⟩) (by first | exact Nat.le_refl _ | exact cj.size) _).setCell (p := ⟨_, 1, none⟩) (by first | exact Nat.le_refl _ | exact cj.size) _).setCell (p := ⟨_, 2, none⟩) (by first | exact Nat.le_refl _ | exact cj.size) _).setCell (p := ⟨_, 3, none⟩) (by first | exact Nat.le_refl _ | exact cj.size) _
                      | (trace_state; fail))
                    (first
                      | (go_at_call 11; refine (join_use _ (rest.take jj) _ (HXT.out _ (by first | assumption | exact Below.drew (by assumption))) HKT.out htl).mono ?_; rintro e w6 ⟨rfl, hbj⟩; have cj : Below w5.heap.size w5 w6 := Below.trans (by first | assumption | exact Below.drew (by assumption)) (hbj.mono (Below.size (by first | assumption | exact Below.drew (by assumption)))); first | (have hzj := line_zero (w4 := w5) _ (by rfl) hbj) | skip)
                      | (go_at_call 10; refine (wide_use _ (rest.take jj) _ (HXT.out _ (by first | assumption | exact Below.drew (by assumption))) HKT.out (by omega)).mono ?_; rintro e w7 ⟨rfl, hbw⟩; have cw : Below w5.heap.size w5 w7 := Below.trans (by first | assumption | exact Below.drew (by assumption)) (hbw.mono (Below.size (by first | assumption | exact Below.drew (by assumption))));
                         first | (have hzw := line_zero (w4 := w6) _ (by rfl) hbw; obtain ⟨hz0, hz1, hz2, hz3, hf0, hf1, hf2, hf3⟩ := line_cells hzw) | (have hzw := line_stays hzj hbw; obtain ⟨hz0, hz1, hz2, hz3, hf0, hf1, hf2, hf3⟩ := line_cells hzw) | skip))
                  · go_wp2
                    go_meet
                    exact lineCell_late cw
                  · go_wp2
                    go_meet
                    exact lineCell_early _ _ _ _ _ cj.size hzw cw
                  · go_wp2
                    go_meet
                    exact lineCell_early _ _ _ _ _ (Nat.le_refl _) hzw cw
                obtain ⟨g, rfl, hg, hheap, hb6⟩ := hcut
                have hb46 := hb5.trans (hb6.mono hs5)
                have c6 := c5.trans (hb6.mono hs52)
                have hs6 := c6.size
                have hg2 : w2.heap.size ≤ g := Nat.le_trans hs52 hg
                have hg4 : w4.heap.size ≤ g := Nat.le_trans hs5 hg
                clear HXT HKT htl
                replace HW4 := run.hid (HW4.out jj)
                have HW5' := run.hid (fun (e : jj = k) => show cutAt m rest k = none → RowAt n m fin RW (dn ++ [⟨joinT (rest.take jj), wideT (rest.take jj), 3, e0⟩]) (f - 1) (rest.drop jj) from by subst e; exact HW5.out)
                clear HW5
                generalize joinT (rest.take jj) = jt at *
                generalize wideT (rest.take jj) = jw at *
                have hz0 : wc.cell? ⟨g, 0, none⟩ = some (.string jt) := by simp [World.cell?, hheap]
                have hz1 : wc.cell? ⟨g, 1, none⟩ = some (.int .i64 jw) := by simp [World.cell?, hheap]
                have hz2 : wc.cell? ⟨g, 2, none⟩ = some (.int .i8 3) := by simp [World.cell?, hheap]
                have hz3 : wc.cell? ⟨g, 3, none⟩ = some (.string ⟨#[]⟩) := by simp [World.cell?, hheap]
                have hzf : wc.frozen? ⟨g, 2, none⟩ = false := by simp [World.frozen?, hheap]
                clear hheap
                by_cases hg1 : gn = 1
                · subst hg1
                  have HE := run.hid (HW4.out (by rcases HJ.out with h | h; exact h.2; omega))
                  have HKD := run.hid (HK.out.drop (jj + 1))
                  have hdl : (rest.drop (jj + 1)).length = rest.length - (jj + 1) := List.length_drop
                  have HNIL := run.hid (fun (hc : cap0 = jj + 1) w' (h : Below w2.heap.size w2 w') => rs_none (HX.out w' h) (k := jj + 1) (by omega) hc (some ⟨b0, off0, none⟩))
                  have HDR := run.hid (fun w' h => (HX.out w' h).drop (jj + 1) (by omega))
                  have hdl2 : cap0 = jj + 1 → rest.length = jj + 1 := fun h => by omega
                  have hbz := hb46.setCell (p := ⟨g, 2, none⟩) hg4 (.int .i8 2)
                  have c6z := c6.setCell (p := ⟨g, 2, none⟩) hg2 (.int .i8 2)
                  have hownc := HOX.out _ hbz
                  have hs6z := c6z.size
                  clear HW4 HW5' HK HOX HJ HX
                  go_wp2_with (at_builtin; refine run.wpList_append_any _ rfl _ _ 23 rfl w2.heap.size 26 ir (.agg #[.string ByteArray.empty, .int .i64 0, .int .i8 0, .string ByteArray.empty]) 4 48 Try.underlying23 hir hr0 hr1 hr2 rfl (by decide) _ _ _ rfl (hownc.alloc _) _ 1 [.string jt, .int .i64 jw, .int .i8 2, .string ⟨#[]⟩] rfl (readsN_at (wc.setCell ⟨g, 2, none⟩ (.int .i8 2)) wc.heap.size (by simp) [.string jt, .int .i64 jw, .int .i8 2, .string ⟨#[]⟩] 1 4 _ rfl) one4 (by unfold maxLen; omega) (by omega) (by simp; omega) ?_)
                  intro v' w7 hown7 hgrow hold hstep
                  have c7 := run.below_append (c6z.alloc c6z.size _) (hownc.alloc _) hgrow (by simp; omega)
                  have h7 : Hid (w7.ownsRow w2.heap.size 26 4 v' (lo + 1) (cells4 (L0 ++ (dn ++ [⟨jt, jw, 2, e0⟩])))) := by
                    show World.ownsRow _ _ _ _ _ _ _; rw [← List.append_assoc, ← snoc4]; exact hown7
                  have HLO2 : Hid (lo + 1 = L0.length + (dn ++ [(⟨jt, jw, 2, e0⟩ : LV)]).length) := by show _ = _; rw [HLO.out]; simp only [List.length_append, List.length_singleton]; omega
                  clear hown7 hownc hgrow hold hstep HLO
                  by_cases hce : cap0 = jj + 1
                  · have H5 := run.hid (HNIL.out hce)
                    have H6 := hdl2 hce
                    subst hce
                    clear HNIL HDR hdl2
                    go_wp2
                    go_roundw
                    case rel => exact ⟨lo + 1, f - 1, rest.drop (jj + 1), _, false, rfl, (fun _ => by omega), (fun h => by cases h), H5, HKD, by omega, h7, HLO2, HE, c7⟩
                    case measure => simp [overM, lenOf]; omega
                  · clear HNIL hdl2
                    go_wp2
                    go_roundw
                    case rel => exact ⟨lo + 1, f - 1, rest.drop (jj + 1), _, false, rfl, (fun _ => by omega), (fun h => by cases h), HDR, HKD, by omega, h7, HLO2, HE, c7⟩
                    case measure => simp [overM, lenOf]; omega
                · obtain rfl : gn = 0 := by omega
                  have hjj : jj = k := by rcases HJ.out with h | h; omega; exact h.2.1
                  have HE := run.hid (HW5'.out hjj (by rcases HJ.out with h | h; omega; exact h.2.2))
                  subst hjj
                  have HKD := run.hid (HK.out.drop jj)
                  have hdl : (rest.drop jj).length = rest.length - jj := List.length_drop
                  have HNIL := run.hid (fun (hc : cap0 = jj) w' (h : Below w2.heap.size w2 w') => rs_none (HX.out w' h) (k := jj) (by omega) hc (some ⟨b0, off0, none⟩))
                  have HDR := run.hid (fun w' h => (HX.out w' h).drop jj (by omega))
                  have hdl2 : cap0 = jj → rest.length = jj := fun h => by omega
                  have hownc := HOX.out _ hb46
                  clear HW4 HW5' HK HOX HJ HX
                  go_wp2_with (at_builtin; refine run.wpList_append_any _ rfl _ _ 23 rfl w2.heap.size 26 ir (.agg #[.string ByteArray.empty, .int .i64 0, .int .i8 0, .string ByteArray.empty]) 4 48 Try.underlying23 hir hr0 hr1 hr2 rfl (by decide) _ _ _ rfl (hownc.alloc _) _ 1 [.string jt, .int .i64 jw, .int .i8 3, .string ⟨#[]⟩] rfl (run.readsN_new wc [.string jt, .int .i64 jw, .int .i8 3, .string ⟨#[]⟩] 1 4 _ rfl) one4 (by unfold maxLen; omega) (by omega) (by simp; omega) ?_)
                  intro v' w7 hown7 hgrow hold hstep
                  have c7 := run.below_append (c6.alloc c6.size _) (hownc.alloc _) hgrow (by simp; omega)
                  have h7 : Hid (w7.ownsRow w2.heap.size 26 4 v' (lo + 1) (cells4 (L0 ++ (dn ++ [⟨jt, jw, 3, e0⟩])))) := by
                    show World.ownsRow _ _ _ _ _ _ _; rw [← List.append_assoc, ← snoc4]; exact hown7
                  have HLO2 : Hid (lo + 1 = L0.length + (dn ++ [(⟨jt, jw, 3, e0⟩ : LV)]).length) := by show _ = _; rw [HLO.out]; simp only [List.length_append, List.length_singleton]; omega
                  clear hown7 hownc hgrow hold hstep HLO
                  by_cases hce : cap0 = jj
                  · have H5 := run.hid (HNIL.out hce)
                    have H6 := hdl2 hce
                    subst hce
                    clear HNIL HDR hdl2
                    go_wp2
                    go_roundw
                    case rel => exact ⟨lo + 1, f - 1, rest.drop cap0, _, false, rfl, (fun _ => by omega), (fun h => by cases h), H5, HKD, by omega, h7, HLO2, HE, c7⟩
                    case measure => simp [overM, lenOf]; omega
                  · clear HNIL hdl2
                    go_wp2
                    go_roundw
                    case rel => exact ⟨lo + 1, f - 1, rest.drop (jj), _, false, rfl, (fun _ => by omega), (fun h => by cases h), HDR, HKD, by omega, h7, HLO2, HE, c7⟩
                    case measure => simp [overM, lenOf]; omega
      · obtain rfl : i = R := by omega
        have HF := run.hid (run.own_mono hown hs2)
        rw [HLO.out] at HF
        have hbf := hb02.trans (hbel.mono hs2)
        clear HA2 HRS HRL HRK HNX HRO HLL HWE hown
        go_wp2
        go_ret
        rw [HT.out]
        exact ⟨_, rfl, HF.out, hbf⟩

end Go.Proofs.Ytmjmmoecplndmaa.wrp
