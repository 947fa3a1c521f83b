/-
  The walks of the layer wrap: Least, Most.
-/
import Derived.Test.YtmjmmoecplndmaaWrpOk
namespace Go.Proofs.Ytmjmmoecplndmaa.wrp
open Go.RowKit Go.Proofs
open Go.Proofs.Ytmjmmoecplndmaa.wid Go.Proofs.Ytmjmmoecplndmaa.utf Go.Proofs.Ytmjmmoecplndmaa.clu
set_option linter.unusedVariables false

/-- the widest so far, and the width of what is under way -/
def leastF (mode : Int) (st : Nat × Nat) (q : TV) : Nat × Nat :=
  if q.1 = nl then (st.1, 0) else if q.1 = sp ∧ mode ≠ 2 then (st.1, 0)
  else if mode = 1 then (max st.1 q.2, q.2) else (max st.1 (st.2 + q.2), st.2 + q.2)
def leastS (mode : Int) (X : List TV) : Nat × Nat := X.foldl (leastF mode) (0, 0)
def leastT (s : ByteArray) (mode : Int) : Nat := (leastS mode (flow s)).1
theorem leastS_take {mode : Int} {X : List TV} {i : Nat} (h : i < X.length) : leastS mode (X.take (i + 1)) = leastF mode (leastS mode (X.take i)) (X.getD i t0) := by
  unfold leastS
  rw [List.take_succ_eq_append_getElem h, List.foldl_append]
  simp [List.getD_eq_getElem?_getD, h]
theorem leastS_le {mode : Int} {X : List TV} (ho : Ok X) : ∀ i, i ≤ X.length → (leastS mode (X.take i)).1 ≤ 2 * i ∧ (leastS mode (X.take i)).2 ≤ 2 * i
  | 0, _ => by simp [leastS]
  | i + 1, h => by
    have ih := leastS_le (mode := mode) ho i (by omega)
    have hq := (ho (X.getD i t0) (by rw [List.getD_eq_getElem?_getD, List.getElem?_eq_getElem (by omega)]; exact List.getElem_mem _)).2
    rw [leastS_take (by omega)]
    unfold leastF
    split
    · exact ⟨by dsimp only; omega, by dsimp only; omega⟩
    · split
      · exact ⟨by dsimp only; omega, by dsimp only; omega⟩
      · split
        · exact ⟨by dsimp only; omega, by dsimp only; omega⟩
        · exact ⟨by dsimp only; omega, by dsimp only; omega⟩

set_option maxHeartbeats 2000000 in
theorem least_any (s : ByteArray) (mode : Int) (w : World) (hs : s.size ≤ 68719476736) : Calls Try.prog 26 #[.string s, .int .i8 mode] w fun e w' => e = .returned (.int .i64 (leastT s mode : Nat)) ∧ Below w.heap.size w w' := by
  have HFL := run.hid (flow_any s w hs)
  have hl := flow_len s
  have hL : leastT s mode = (leastS mode (flow s)).1 := rfl
  have HL := run.hid hL
  clear hL
  have ho := flow_ok s
  generalize leastT s mode = LT at *
  generalize flow s = X at *
  have HT := run.hid (fun i => @leastS_take mode X i)
  have HLE := run.hid (fun i hi => leastS_le (mode := mode) ho i hi)
  have HEND : Hid (X.take X.length = X) := List.take_of_length_le (Nat.le_refl _)
  have hXl : X.length ≤ 274877906944 := by omega
  clear ho hl
  go_enter Try.func26, Try.ntmps26
  go_wp2_with fail
  refine HFL.out.mono ?_
  rintro e w1 ⟨v1, rfl, hown, hb1⟩
  obtain ⟨a, cap, rfl, -, hcell⟩ := rs_own hown
  have HCELL := run.hid hcell
  have hs1 := hb1.size
  clear hown hcell HFL
  generalize hN : X.length = N at *
  go_wp2
  go_loopw [5, 6, 12] (fun vm vn vi wr => ∃ i : Nat, i ≤ N ∧ vi = .int .i64 i ∧ vm = .int .i64 ((leastS mode (X.take i)).1 : Nat) ∧ vn = .int .i64 ((leastS mode (X.take i)).2 : Nat) ∧ Below w1.heap.size w1 wr) (fun _ _ vi _ => ((N : Int) - intOf vi).toNat)
  case atStart => exact ⟨0, by omega, rfl, rfl, rfl, Below.refl _ _⟩
  case round =>
    obtain ⟨i, hi, rfl, rfl, rfl, hbel⟩ := hrel
    by_cases hlt : i < N
    · obtain ⟨b1, o1, rfl, hlb1, hx0, hx1⟩ := HCELL.out i hlt
      replace hx0 := (hbel.cell (p := ⟨b1, o1 + i * 2, none⟩) hlb1).trans hx0
      replace hx1 := (hbel.cell (p := ⟨b1, o1 + i * 2 + 1, none⟩) hlb1).trans hx1
      have HTi := run.hid (HT.out i (by omega))
      obtain ⟨hm1, hm2⟩ := HLE.out i (by omega)
      obtain ⟨hm3, hm4⟩ := HLE.out (i + 1) (by omega)
      unfold leastF at HTi
      unfold t0 at HTi hx0 hx1
      generalize X.getD i (ByteArray.empty, 0) = q at *
      obtain ⟨qs, qw⟩ := q
      dsimp only at hx0 hx1 HTi
      have hbn := hbel.alloc hbel.size (.cells #[.string qs, .int .i64 qw] 29)
      have hbeq := nl_eq qs
      have hbeq2 := sp_eq qs
      generalize leastS mode (X.take i) = st at *
      obtain ⟨sm, sn⟩ := st
      dsimp only at HTi hm1 hm2 ⊢
      clear HCELL HT HLE HEND HL hN
      by_cases h9 : qs = nl
      · have HTj := run.hid (HTi.out.trans (if_pos h9))
        rw [decide_eq_true h9] at hbeq
        clear h9 HTi hbeq2 hm3 hm4
        go_wp2
        go_roundw
        case rel => exact ⟨i + 1, by omega, by go_num, by rw [HTj.out], by rw [HTj.out]; rfl, hbn⟩
        case measure => simp [intOf]; omega
      have HTj := run.hid (HTi.out.trans (if_neg h9))
      rw [decide_eq_false h9] at hbeq
      clear h9 HTi
      by_cases h8 : qs = sp ∧ mode ≠ 2
      · have HTk := run.hid (HTj.out.trans (if_pos h8))
        obtain ⟨h8, h7⟩ := h8
        rw [decide_eq_true h8] at hbeq2
        have h7' : (mode == 2) = false := beq_eq_false_iff_ne.2 h7
        have h7'' : (mode != 2) = true := by simp [h7]
        clear h8 HTj hm3 hm4
        go_wp2
        go_roundw
        case rel => exact ⟨i + 1, by omega, by go_num, by rw [HTk.out], by rw [HTk.out]; rfl, hbn⟩
        case measure => simp [intOf]; omega
      have HTk := run.hid (HTj.out.trans (if_neg h8))
      rw [HTk.out] at hm3 hm4
      clear HTj
      have h1 : (mode = 1 → qs ≠ sp) ∧ (mode ≠ 1 → mode ≠ 2 → qs ≠ sp) := ⟨fun h e => h8 ⟨e, by omega⟩, fun _ h e => h8 ⟨e, h⟩⟩
      clear h8
      by_cases hm1' : mode = 1
      · have HTm := run.hid (HTk.out.trans (if_pos hm1'))
        have hne := h1.1 hm1'
        rw [if_pos hm1'] at hm3 hm4
        dsimp only at hm3 hm4
        rw [decide_eq_false hne] at hbeq2
        have HTn := run.hid HTm.out
        have hmx : max (sm : Int) (qw : Int) = ((max sm qw : Nat) : Int) := by omega
        have hqw : qw ≤ 549755813890 := by omega
        subst hm1'
        clear HTk HTm hm3 hm4 hne h1
        go_wp2
        go_roundw
        case rel => exact ⟨i + 1, by omega, by go_num, by rw [HTn.out], by rw [HTn.out], hbn⟩
        case measure => simp [intOf]; omega
      have HTm := run.hid (HTk.out.trans (if_neg hm1'))
      rw [if_neg hm1'] at hm3 hm4
      dsimp only at hm3 hm4
      have hmx : max (sm : Int) ((sn : Int) + (qw : Int)) = ((max sm (sn + qw) : Nat) : Int) := by omega
      have hqw : sn + qw ≤ 549755813890 := by omega
      have h1' : (mode == 1) = false := beq_eq_false_iff_ne.2 hm1'
      have HTn := run.hid HTm.out
      by_cases hm2' : mode = 2
      · subst hm2'
        clear HTk HTm hm3 hm4 h1
        by_cases hsp : qs = sp
        · rw [decide_eq_true hsp] at hbeq2
          clear hsp
          go_wp2
          go_roundw
          case rel => exact ⟨i + 1, by omega, by go_num, by rw [HTn.out], by rw [HTn.out]; go_num, hbn⟩
          case measure => simp [intOf]; omega
        · rw [decide_eq_false hsp] at hbeq2
          clear hsp
          go_wp2
          go_roundw
          case rel => exact ⟨i + 1, by omega, by go_num, by rw [HTn.out], by rw [HTn.out]; go_num, hbn⟩
          case measure => simp [intOf]; omega
      · have hne := h1.2 hm1' hm2'
        rw [decide_eq_false hne] at hbeq2
        clear HTk HTm hm3 hm4 hne h1
        go_wp2
        go_roundw
        case rel => exact ⟨i + 1, by omega, by go_num, by rw [HTn.out], by rw [HTn.out]; go_num, hbn⟩
        case measure => simp [intOf]; omega
    · obtain rfl : i = N := by omega
      rw [HEND.out, ← HL.out]
      clear HCELL HT HLE HEND HL hN
      have hb := hb1.trans (hbel.mono hs1)
      go_wp2
      go_ret
      exact ⟨rfl, hb⟩

theorem most_any (s : ByteArray) (w : World) (hs : s.size ≤ 68719476736) : Calls Try.prog 27 #[.string s] w fun e w' => e = .returned (.int .i64 (leastT s 2 : Nat)) ∧ Below w.heap.size w w' := by
  have HL := run.hid (least_any s 2 w hs)
  go_enter Try.func27, Try.ntmps27
  go_wp2_with fail
  refine HL.out.mono ?_
  rintro e w1 ⟨rfl, hb⟩
  go_wp2
  go_ret
  exact ⟨rfl, hb⟩

end Go.Proofs.Ytmjmmoecplndmaa.wrp
