/-
  The walks of the layer wrap: fit, tail, blanks, line.
-/
import Derived.Test.YtmjmmoecplndmaaWrpSum
namespace Go.Proofs.Ytmjmmoecplndmaa.wrp
open Go.RowKit Go.Proofs
open Go.Proofs.Ytmjmmoecplndmaa.wid Go.Proofs.Ytmjmmoecplndmaa.utf Go.Proofs.Ytmjmmoecplndmaa.clu
set_option linter.unusedVariables false

/-- a slice of clusters to be read, its capacity no less than its length -/
def RS (w : World) (v : Value) (X : List TV) : Prop :=
  ∃ a cap, v = .slice a X.length cap ∧ (X.length ≤ cap ∧ (a = none → cap = 0)) ∧ ∀ i, i < X.length → ∃ b off, a = some ⟨b, off, none⟩ ∧ b < w.heap.size ∧ w.cell? ⟨b, off + i * 2, none⟩ = some (.string (X.getD i t0).1) ∧ w.cell? ⟨b, off + i * 2 + 1, none⟩ = some (.int .i64 ((X.getD i t0).2 : Nat))
theorem RS.reads {w : World} {v : Value} {X : List TV} (h : RS w v X) : Reads2 w v X := by
  obtain ⟨a, cap, h1, -, h2⟩ := h
  exact ⟨a, cap, h1, h2⟩
theorem RS.below {w w' : World} {v : Value} {X : List TV} (h : RS w v X) (hb : Below w.heap.size w w') : RS w' v X := by
  obtain ⟨a, cap, rfl, hc, h⟩ := h
  refine ⟨a, cap, rfl, hc, fun i hi => ?_⟩
  obtain ⟨b, off, ha, hlt, h1, h2⟩ := h i hi
  exact ⟨b, off, ha, Nat.lt_of_lt_of_le hlt hb.size, (hb.cell (p := ⟨b, off + i * 2, none⟩) hlt).trans h1, (hb.cell (p := ⟨b, off + i * 2 + 1, none⟩) hlt).trans h2⟩
theorem rs_own {w : World} {base : Nat} {v : Value} {X : List TV} (h : w.ownsRow base 29 2 v X.length (cells2 X)) : RS w v X := by
  obtain ⟨a, cap, rfl, h2⟩ := reads2_own h
  refine ⟨a, cap, rfl, ?_, h2⟩
  rcases h.2 with ⟨h, h0⟩ | ⟨g, cap', cur, h, -, -, h1, -⟩
  · simp only [Value.slice.injEq] at h; exact ⟨by omega, fun _ => h.2.2⟩
  · simp only [Value.slice.injEq] at h; exact ⟨by omega, fun e => by rw [h.1] at e; cases e⟩
theorem RS.take {w : World} {a : Option Addr} {n cap : Nat} {X : List TV} (h : RS w (.slice a n cap) X) (k : Nat) (hk : k ≤ X.length) : RS w (.slice a k cap) (X.take k) := by
  obtain ⟨a', cap', e, hc, h⟩ := h
  simp only [Value.slice.injEq] at e
  obtain ⟨rfl, rfl, rfl⟩ := e
  have hl : (X.take k).length = k := by rw [List.length_take]; omega
  refine ⟨a, cap, by rw [hl], ⟨by omega, hc.2⟩, fun i hi => ?_⟩
  obtain ⟨b, off, ha, hlt, h1, h2⟩ := h i (by omega)
  have e : (X.take k).getD i t0 = X.getD i t0 := by
    simp only [List.getD_eq_getElem?_getD]
    rw [List.getElem?_take_of_lt (by omega)]
  rw [e]
  exact ⟨b, off, ha, hlt, h1, h2⟩
theorem RS.drop {w : World} {b off n cap : Nat} {X : List TV} (h : RS w (.slice (some ⟨b, off, none⟩) n cap) X) (k : Nat) (hk : k ≤ X.length) : RS w (.slice (some ⟨b, off + k * 2, none⟩) (n - k) (cap - k)) (X.drop k) := by
  obtain ⟨a', cap', e, hc, h⟩ := h
  simp only [Value.slice.injEq] at e
  obtain ⟨rfl, rfl, rfl⟩ := e
  have hl : (X.drop k).length = X.length - k := List.length_drop
  refine ⟨_, cap - k, by rw [hl], ⟨by omega, fun h => by cases h⟩, fun i hi => ?_⟩
  obtain ⟨b', off', ha, hlt, h1, h2⟩ := h (k + i) (by omega)
  simp only [Option.some.injEq, Addr.mk.injEq, and_true] at ha
  obtain ⟨rfl, rfl⟩ := ha
  have e : (X.drop k).getD i t0 = X.getD (k + i) t0 := by
    simp only [List.getD_eq_getElem?_getD]
    rw [List.getElem?_drop]
  rw [e]
  exact ⟨b, off + k * 2, rfl, hlt, by rw [show off + k * 2 + i * 2 = off + (k + i) * 2 by omega]; exact h1, by rw [show off + k * 2 + i * 2 = off + (k + i) * 2 by omega]; exact h2⟩

theorem rs_none {w : World} {a : Option Addr} {n cap k : Nat} {X : List TV} (h : RS w (.slice a n cap) X) (hk : k ≤ X.length) (hc : cap = k) (b : Option Addr) : RS w (.slice b 0 0) (X.drop k) := by
  obtain ⟨a', cap', e, hcp, -⟩ := h
  simp only [Value.slice.injEq] at e
  obtain ⟨rfl, rfl, rfl⟩ := e
  have hl : (X.drop k).length = X.length - k := List.length_drop
  refine ⟨b, 0, by rw [hl, show X.length - k = 0 by omega], ⟨by omega, fun _ => rfl⟩, fun i hi => by omega⟩

theorem fit_step {X : List TV} {n i left : Nat} (h : i < X.length) (e : fitT X n = i + fitT (X.drop i) left) (hq : (X.getD i t0).2 ≤ left) : fitT X n = (i + 1) + fitT (X.drop (i + 1)) (left - (X.getD i t0).2) := by
  rw [e, fitT_at h, if_pos hq]; omega
theorem fit_stop {X : List TV} {n i left : Nat} (h : i < X.length) (e : fitT X n = i + fitT (X.drop i) left) (hq : ¬ (X.getD i t0).2 ≤ left) : fitT X n = i := by
  rw [e, fitT_at h, if_neg hq]; omega
theorem fit_end {X : List TV} {n left : Nat} (e : fitT X n = X.length + fitT (X.drop X.length) left) : fitT X n = X.length := by
  rw [e, List.drop_length]; rfl

set_option maxHeartbeats 1000000 in
theorem fit_any (v : Value) (X : List TV) (n : Nat) (w : World) (hv : Reads2 w v X) (hX : X.length ≤ 1099511627776) (hn : n ≤ 4611686018427387904) (hS : wideT X ≤ 4611686018427387904) : Calls Try.prog 12 #[v, .int .i64 n] w fun e w' => e = .returned (.int .i64 (fitT X n : Nat)) ∧ Below w.heap.size w w' := by
  obtain ⟨a, cap, rfl, ha⟩ := hv
  have HA := run.hid ha
  clear ha
  have HSTEP := run.hid (fun i left => @fit_step X n i left)
  have HSTOP := run.hid (fun i left => @fit_stop X n i left)
  have HEND := run.hid (fun left => @fit_end X n left)
  have HW := run.hid (fun i (h : i < X.length) => show (X.getD i t0).2 ≤ 4611686018427387904 from by
    have h1 := wideT_take h
    have h2 := wideT_take_le X (i + 1)
    omega)
  have HS0 : Hid (fitT X n = 0 + fitT (X.drop 0) n) := by show _ = _; simp
  generalize hN : X.length = N at *
  go_enter Try.func12, Try.ntmps12
  go_wp2
  go_loopw [1, 9] (fun vw vi wr => ∃ i left : Nat, i ≤ N ∧ left ≤ n ∧ vi = .int .i64 i ∧ vw = .int .i64 left ∧ Hid (fitT X n = i + fitT (X.drop i) left) ∧ Below w.heap.size w wr) (fun _ vi _ => ((N : Int) - intOf vi).toNat)
  case atStart => exact ⟨0, n, by omega, by omega, rfl, rfl, HS0, Below.refl _ _⟩
  case round =>
    obtain ⟨i, left, hi, hleft, rfl, rfl, HF, hbel⟩ := hrel
    by_cases hlt : i < N
    · obtain ⟨b1, o1, rfl, hlb1, hx0, hx1⟩ := HA.out i hlt
      replace hx0 := (hbel.cell (p := ⟨b1, o1 + i * 2, none⟩) hlb1).trans hx0
      replace hx1 := (hbel.cell (p := ⟨b1, o1 + i * 2 + 1, none⟩) hlb1).trans hx1
      have H1 := run.hid (HSTEP.out i left hlt HF.out)
      have H2 := run.hid (HSTOP.out i left hlt HF.out)
      have H3 := HW.out i hlt
      unfold t0 at H1 H2 H3
      generalize X.getD i (ByteArray.empty, 0) = q at *
      obtain ⟨qs, qw⟩ := q
      dsimp only at hx0 hx1 H1 H2 H3
      have hbn := hbel.alloc hbel.size (.cells #[.string qs, .int .i64 qw] 29)
      clear HA HSTEP HSTOP HEND hN HW HF HS0
      by_cases hle : qw ≤ left
      · have HN := run.hid (H1.out hle)
        clear H1 H2
        go_wp2
        go_roundw
        case rel => exact ⟨i + 1, left - qw, by omega, by omega, by go_num, by go_num, HN, hbn⟩
        case measure => simp [intOf]; omega
      · have HN := run.hid (H2.out hle)
        clear H1 H2
        go_wp2
        go_ret
        exact ⟨by rw [HN.out]; rfl, hbn⟩
    · obtain rfl : i = N := by omega
      have HN := run.hid (HEND.out left HF.out)
      clear HA HSTEP HSTOP HEND hN HW HF HS0
      go_wp2
      go_ret
      exact ⟨by rw [HN.out]; rfl, hbel⟩

/-- the place from which on the last ones fit -/
def endT (X : List TV) (n : Nat) : Nat := X.length - fitT X.reverse n
theorem endT_le (X : List TV) (n : Nat) : endT X n ≤ X.length := by unfold endT; omega
theorem back_get {X : List TV} {k : Nat} (h : 0 < k) (hk : k ≤ X.length) : X.reverse.getD (X.length - k) t0 = X.getD (k - 1) t0 := by
  simp only [List.getD_eq_getElem?_getD]
  rw [List.getElem?_reverse (by omega), show X.length - 1 - (X.length - k) = k - 1 by omega]
theorem end_step {X : List TV} {n k left : Nat} (h0 : 0 < k) (hk : k ≤ X.length) (e : fitT X.reverse n = (X.length - k) + fitT (X.reverse.drop (X.length - k)) left) (hq : (X.getD (k - 1) t0).2 ≤ left) :
    fitT X.reverse n = (X.length - (k - 1)) + fitT (X.reverse.drop (X.length - (k - 1))) (left - (X.getD (k - 1) t0).2) := by
  have h := fit_step (X := X.reverse) (n := n) (i := X.length - k) (left := left) (by rw [List.length_reverse]; omega) e (by rw [back_get h0 hk]; exact hq)
  rw [back_get h0 hk, show X.length - k + 1 = X.length - (k - 1) by omega] at h
  exact h
theorem end_stop {X : List TV} {n k left : Nat} (h0 : 0 < k) (hk : k ≤ X.length) (e : fitT X.reverse n = (X.length - k) + fitT (X.reverse.drop (X.length - k)) left) (hq : ¬ (X.getD (k - 1) t0).2 ≤ left) : endT X n = k := by
  have h := fit_stop (X := X.reverse) (n := n) (i := X.length - k) (left := left) (by rw [List.length_reverse]; omega) e (by rw [back_get h0 hk]; exact hq)
  unfold endT; omega
theorem end_end {X : List TV} {n left : Nat} (e : fitT X.reverse n = (X.length - 0) + fitT (X.reverse.drop (X.length - 0)) left) : endT X n = 0 := by
  unfold endT; omega

set_option maxHeartbeats 1000000 in
theorem tail_any (v : Value) (X : List TV) (n : Nat) (w : World) (hv : RS w v X) (hX : X.length ≤ 1099511627776) (hn : n ≤ 4611686018427387904) : Calls Try.prog 46 #[v, .int .i64 n] w fun e w' => ∃ u, e = .returned u ∧ RS w u (X.drop (endT X n)) ∧ w' = w := by
  have HV := run.hid hv
  obtain ⟨a, cap, rfl, hcap, ha⟩ := hv
  have hcap1 := hcap.1
  have HA := run.hid ha
  have HNIL := run.hid (fun (k : Nat) (hk : k ≤ X.length) (hc : cap = k) => rs_none HV.out hk hc)
  have HDROP := run.hid (fun (b off k : Nat) (he : a = some ⟨b, off, none⟩) (hk : k ≤ X.length) => show RS w (.slice (some ⟨b, off + k * 2, none⟩) (X.length - k) (cap - k)) (X.drop k) from by subst he; exact HV.out.drop k hk)
  clear ha
  have HSTEP := run.hid (fun k left => @end_step X n k left)
  have HSTOP := run.hid (fun k left => @end_stop X n k left)
  have HEND := run.hid (fun left => @end_end X n left)
  have HS0 : Hid (fitT X.reverse n = (X.length - X.length) + fitT (X.reverse.drop (X.length - X.length)) n) := by show _ = _; rw [Nat.sub_self]; simp
  go_enter Try.func46, Try.ntmps46
  generalize hN : X.length = N at *
  go_wp2
  go_loop [1, 5] (fun vw vk => ∃ k left : Nat, k ≤ N ∧ left ≤ n ∧ vk = .int .i64 k ∧ vw = .int .i64 left ∧ Hid (fitT X.reverse n = (N - k) + fitT (X.reverse.drop (N - k)) left)) (fun _ vk => (intOf vk).toNat)
  case atStart => exact ⟨N, n, by omega, by omega, rfl, rfl, HS0⟩
  case round =>
    obtain ⟨k, left, hk, hleft, rfl, rfl, HF⟩ := hrel
    by_cases h0 : 0 < k
    · obtain ⟨b1, o1, rfl, hlb1, hx0, hx1⟩ := HA.out (k - 1) (by omega)
      have H1 := run.hid (fun h => HSTEP.out k left h0 hk HF.out h)
      have H2 := run.hid (fun h => HSTOP.out k left h0 hk HF.out h)
      have H3 := run.hid (HDROP.out b1 o1 k rfl hk)
      have H4 := run.hid (HNIL.out k hk)
      unfold t0 at H1 H2
      unfold t0 at hx0 hx1
      generalize X.getD (k - 1) (ByteArray.empty, 0) = q at *
      obtain ⟨qs, qw⟩ := q
      dsimp only at hx0 hx1 H1 H2
      clear HA HSTEP HSTOP HEND hN HF HS0 HNIL HDROP
      obtain ⟨k, rfl⟩ : ∃ m, k = m + 1 := ⟨k - 1, by omega⟩
      rw [Nat.add_sub_cancel] at hx0 hx1 H1
      by_cases hle : qw ≤ left
      · have HN := run.hid (H1.out hle)
        clear H1 H2
        go_wp2
        go_round
        case rel => exact ⟨k, left - qw, by omega, by omega, by go_num, by go_num, HN⟩
        case measure => simp [intOf]
      · have HN := run.hid (H2.out hle)
        clear H1 H2
        by_cases hce : cap = k + 1
        · have H5 := run.hid (H4.out hce)
          subst hce
          clear H3 H4
          go_wp2
          go_ret
          exact ⟨_, rfl, by rw [HN.out]; exact H5.out _, rfl⟩
        · clear H4
          go_wp2
          go_ret
          exact ⟨_, rfl, by rw [HN.out]; exact H3.out, rfl⟩
    · obtain rfl : k = 0 := by omega
      have HN := run.hid (HEND.out left HF.out)
      have H4 := run.hid (HNIL.out 0 (Nat.zero_le _))
      rcases Classical.em (cap = 0) with hce | hce
      · have H5 := run.hid (H4.out hce)
        subst hce
        clear HA HSTEP HSTOP HEND hN HF HS0 HNIL HDROP H4
        cases a <;> go_wp2 <;> go_ret <;> exact ⟨_, rfl, by rw [HN.out]; exact H5.out _, rfl⟩
      · have hN0 : (0 : Nat) < cap := by omega
        have hc1 := hcap.1
        cases a with
        | none => exact absurd (hcap.2 rfl) hce
        | some ad =>
          clear HA HSTEP HSTOP HEND hN HF HS0 HNIL
          go_wp2
          go_ret
          exact ⟨_, rfl, by rw [HN.out, List.drop_zero]; exact HV.out, rfl⟩

theorem blanks_any (n : Nat) (w : World) (hn : n ≤ 140737488355328) : Calls Try.prog 45 #[.int .i64 n] w fun e w' => e = .returned (.string ⟨(blanksL n).toArray⟩) ∧ Below w.heap.size w w' := by
  have HR := run.hid (repeat_any n w hn)
  go_enter Try.func45, Try.ntmps45
  go_wp2_with fail
  refine HR.out.mono ?_
  rintro e w1 ⟨rfl, hb⟩
  go_wp2
  go_ret
  exact ⟨rfl, hb⟩

/-- a line feed is a blank -/
def nlsp (q : TV) : TV := if q.1 = nl then (sp, 1) else q
def lineT (s : ByteArray) : List TV := (flow s).map nlsp
def ln (X : List TV) (k : Nat) : List TV := (X.take k).map nlsp ++ X.drop k
theorem ln_length (X : List TV) (k : Nat) : (ln X k).length = X.length := by
  unfold ln; rw [List.length_append, List.length_map, ← List.length_append, List.take_append_drop]
theorem ln_get {X : List TV} {k : Nat} (h : k < X.length) : (ln X k).getD k t0 = X.getD k t0 := by
  unfold ln
  have e : ((X.take k).map nlsp).length = k := by rw [List.length_map, List.length_take]; omega
  simp only [List.getD_eq_getElem?_getD]
  rw [List.getElem?_append_right (by omega), e, Nat.sub_self, List.getElem?_drop, Nat.add_zero]
theorem ln_next {X : List TV} {k : Nat} (h : k < X.length) : ln X (k + 1) = (ln X k).set k (nlsp (X.getD k t0)) := by
  unfold ln
  have e : ((X.take k).map nlsp).length = k := by rw [List.length_map, List.length_take]; omega
  rw [List.set_append_right _ _ (by omega), e, Nat.sub_self, List.drop_eq_getElem_cons h, List.set_cons_zero, List.take_succ_eq_append_getElem h, List.map_append, List.append_assoc]
  simp [List.getD_eq_getElem?_getD, h]
theorem ln_nl {X : List TV} {k : Nat} (h : k < X.length) (e : (X.getD k t0).1 = nl) : (ln X k).set k (sp, 1) = ln X (k + 1) := by
  rw [ln_next h]; unfold nlsp; rw [if_pos e]
theorem ln_else {X : List TV} {k : Nat} (h : k < X.length) (e : (X.getD k t0).1 ≠ nl) : ln X k = ln X (k + 1) := by
  rw [ln_next h]
  have e : nlsp (X.getD k t0) = (ln X k).getD k t0 := by rw [ln_get h]; unfold nlsp; rw [if_neg e]
  rw [e]
  apply List.ext_getElem (by simp)
  intro i h1 h2
  rw [List.getElem_set]
  split
  · rename_i hi; subst hi; simp [List.getD_eq_getElem?_getD, h1]
  · rfl
theorem ln_all (X : List TV) : ln X X.length = X.map nlsp := by unfold ln; rw [List.take_of_length_le (Nat.le_refl _), List.drop_length, List.append_nil]

set_option maxHeartbeats 2000000 in
theorem line_any (s : ByteArray) (w : World) (hs : s.size ≤ 68719476736) : Calls Try.prog 44 #[.string s] w fun e w' => ∃ v, e = .returned v ∧ RS w' v (lineT s) ∧ Below w.heap.size w w' := by
  have HFL := run.hid (flow_any s w hs)
  have hl := flow_len s
  have hL : lineT s = (flow s).map nlsp := rfl
  have HL := run.hid hL
  clear hL
  generalize lineT s = LT at *
  generalize flow s = X at *
  have HBL := run.hid (fun k => ln_length X k)
  have HG := run.hid (fun k => @ln_get X k)
  have HTAB := run.hid (fun k => @ln_nl X k)
  have HELSE := run.hid (fun k => @ln_else X k)
  have HALL := run.hid (ln_all X)
  go_enter Try.func44, Try.ntmps44
  go_wp2_with fail
  refine HFL.out.mono ?_
  rintro e w2 ⟨v2, rfl, hown, hB2⟩
  have HO := run.hid hown
  obtain ⟨a, cap, rfl⟩ := run.own_value hown
  have HV : Hid (0 < X.length → ∃ g, a = some ⟨g, 0, none⟩) := fun h0 => by
    rcases HO.out.2 with ⟨h, h0⟩ | ⟨g, cap', cur, h, -⟩
    · omega
    · simp only [Value.slice.injEq] at h; exact ⟨g, h.1⟩
  have hXl : X.length ≤ 4 * s.size := hl
  clear hown hl HFL
  generalize hN : X.length = N at *
  go_wp2
  go_loopw [9] (fun vk wr => ∃ k : Nat, k ≤ N ∧ vk = .int .i64 k ∧ Hid (wr.ownsRow w.heap.size 29 2 (.slice a N cap) N (cells2 (ln X k))) ∧ Below w.heap.size w wr) (fun vk _ => (N - intOf vk).toNat)
  case atStart => exact ⟨0, by omega, rfl, HO, hB2⟩
  case round =>
    obtain ⟨k, hk, rfl, HOW, hbel⟩ := hrel
    by_cases hlt : k < N
    · obtain ⟨g, rfl⟩ := HV.out (by omega)
      have hown := HOW.out
      obtain ⟨g1, g2⟩ := cells2_get (ln X k) k (by rw [HBL.out]; exact hlt)
      have hc1 := (hown.cellAt (k * 2) (by omega)).trans g1
      have hc2 := (hown.cellAt (k * 2 + 1) (by omega)).trans g2
      have hgk := HG.out k hlt
      unfold t0 at hgk
      rw [hgk] at hc1 hc2
      have hf1 := hown.frozenAt (k * 2)
      have hf2 := hown.frozenAt (k * 2 + 1)
      have hst := ((hown.stored (k * 2) (.string sp)).1.stored (k * 2 + 1) (.int .i64 (1 : Nat))).1
      rw [cells2_set (ln X k) k (sp, 1) (by rw [HBL.out]; exact hlt)] at hst
      have hbel2 := run.below_grown hbel hown (run.grown_trans (run.setCell_grown wr g (k * 2) (.string sp)) (run.setCell_grown _ g (k * 2 + 1) (.int .i64 (1 : Nat))) (.inl rfl)) (Nat.le_refl _) hbel.size
      have HST := run.hid hst
      have H1 := run.hid (HTAB.out k hlt)
      have H2 := run.hid (HELSE.out k hlt)
      unfold t0 at H1 H2
      generalize X.getD k (ByteArray.empty, 0) = q at hc1 hc2 H1 H2
      obtain ⟨qs, qw⟩ := q
      dsimp only at hc1 hc2 H1 H2
      have hbeq := nl_eq qs
      clear hst hown HTAB HELSE HG HBL g1 g2 hgk hN HO HALL
      by_cases h9 : qs = nl
      · have HN : Hid (((wr.setCell ⟨g, k * 2, none⟩ (.string sp)).setCell ⟨g, k * 2 + 1, none⟩ (.int .i64 (1 : Nat))).ownsRow w.heap.size 29 2 (.slice (some ⟨g, 0, none⟩) N cap) N (cells2 (ln X (k + 1)))) := by
          have h := HST.out
          rw [H1.out h9] at h
          exact h
        rw [decide_eq_true h9] at hbeq
        clear HST H1 H2 HOW h9
        unfold sp at HN hbel2
        go_wp2
        go_roundw
        case rel => exact ⟨k + 1, by omega, by go_num, HN, hbel2⟩
        case measure => simp [intOf]; omega
      · have HN : Hid (wr.ownsRow w.heap.size 29 2 (.slice (some ⟨g, 0, none⟩) N cap) N (cells2 (ln X (k + 1)))) := by
          have h := HOW.out
          rw [H2.out h9] at h
          exact h
        rw [decide_eq_false h9] at hbeq
        clear HST H1 H2 HOW hbel2 h9
        go_wp2
        go_roundw
        case rel => exact ⟨k + 1, by omega, by go_num, HN, hbel⟩
        case measure => simp [intOf]; omega
    · obtain rfl : k = N := by omega
      have hown := HOW.out
      rw [HALL.out, ← HL.out] at hown
      have hle : LT.length = k := by rw [HL.out, List.length_map, hN]
      rw [← hle] at hown
      have HR := run.hid (rs_own hown)
      rw [hle] at HR
      clear hown HOW hN HTAB HELSE HG HBL HALL HO hle
      go_wp2
      go_ret
      exact ⟨_, rfl, HR.out, hbel⟩

end Go.Proofs.Ytmjmmoecplndmaa.wrp
