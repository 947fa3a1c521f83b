/-
  The walk of the layer wrap: Flow.
-/
import Derived.Test.YtgpgbbbcodnieaaWrpDel
import Derived.Test.YtgpgbbbcodnieaaWrpDel2
namespace Go.Proofs.Ytgpgbbbcodnieaa.wrp
open Go.RowKit Go.Proofs
open Go.Proofs.Ytgpgbbbcodnieaa.wid Go.Proofs.Ytgpgbbbcodnieaa.utf Go.Proofs.Ytgpgbbbcodnieaa.clu
set_option linter.unusedVariables false

/-- the first k characters made blank where they are tabs -/
def bl (X : List Int) (k : Nat) : List Int := (X.take k).map blank1 ++ X.drop k
theorem bl_length (X : List Int) (k : Nat) : (bl X k).length = X.length := by
  unfold bl; rw [List.length_append, List.length_map, ← List.length_append, List.take_append_drop]
theorem bl_get {X : List Int} {k : Nat} (h : k < X.length) : (bl X k).getD k 0 = X.getD k 0 := by
  unfold bl
  have e : ((X.take k).map blank1).length = k := by rw [List.length_map, List.length_take]; omega
  simp only [List.getD_eq_getElem?_getD]
  rw [List.getElem?_append_right (by omega), e, Nat.sub_self, List.getElem?_drop, Nat.add_zero]
theorem bl_next {X : List Int} {k : Nat} (h : k < X.length) : bl X (k + 1) = (bl X k).set k (blank1 (X.getD k 0)) := by
  unfold bl
  have e : ((X.take k).map blank1).length = k := by rw [List.length_map, List.length_take]; omega
  rw [List.set_append_right _ _ (by omega), e, Nat.sub_self, List.drop_eq_getElem_cons h, List.set_cons_zero, List.take_succ_eq_append_getElem h, List.map_append, List.append_assoc]
  simp [List.getD_eq_getElem?_getD, h]
theorem bl_tab {X : List Int} {k : Nat} (h : k < X.length) (h9 : X.getD k 0 = 9) : (bl X k).set k 32 = bl X (k + 1) := by rw [bl_next h, h9]; rfl
theorem bl_else {X : List Int} {k : Nat} (h : k < X.length) (h9 : X.getD k 0 ≠ 9) : bl X k = bl X (k + 1) := by
  rw [bl_next h]
  have e : blank1 (X.getD k 0) = (bl X k).getD k 0 := by rw [bl_get h]; unfold blank1; rw [if_neg h9]
  rw [e]
  apply List.ext_getElem (by simp)
  intro i h1 h2
  rw [List.getElem_set]
  split
  · rename_i hi; subst hi; simp [List.getD_eq_getElem?_getD, h1]
  · rfl
theorem bl_all (X : List Int) : bl X X.length = X.map blank1 := by unfold bl; rw [List.take_of_length_le (Nat.le_refl _), List.drop_length, List.append_nil]

theorem flowText_size (s : ByteArray) : (flowText s).size ≤ 4 * s.size := by
  unfold flowText
  rw [str_size]
  have h1 := (text_length ((kept (runes (bs s))).map blank1)).2
  rw [List.length_map] at h1
  have h2 := kept_len (runes (bs s))
  have h3 := runes_len s
  omega
theorem flow_len (s : ByteArray) : (flow s).length ≤ 4 * s.size := by
  unfold flow
  have h1 := kept2_len (told (flowText s))
  have h2 := told_length (flowText s)
  have h3 := flowText_size s
  omega

set_option maxHeartbeats 2000000 in
theorem flow_any (s : ByteArray) (w : World) (hs : s.size ≤ 68719476736) : Calls Try.prog 54 #[.string s] w fun e w' =>
    ∃ v, e = .returned v ∧ w'.ownsRow w.heap.size 74 2 v (flow s).length (cells2 (flow s)) ∧ Below w.heap.size w w' := by
  have hl := runes_len s
  have hk := kept_len (runes (bs s))
  have HR := run.hid (runes_use s w (by omega) (by omega))
  have HD1 := run.hid (fun v w' h1 h2 => delete1_any w.heap.size v (runes (bs s)) w' h1 (by omega) h2)
  have HT := run.hid (fun v w' (h : run.Reads w' v (rv ((kept (runes (bs s))).map blank1))) => text_any v ((kept (runes (bs s))).map blank1) w' h (by rw [List.length_map]; omega))
  have HSP := run.hid (fun w' => split_use (flowText s) w' (by have := flowText_size s; omega))
  have HD2 := run.hid (fun v w' h1 h2 => delete2_any w.heap.size v (told (flowText s)) w' h1 (by have := told_length (flowText s); have := flowText_size s; omega) h2)
  have hft : str (text ((kept (runes (bs s))).map blank1)) = flowText s := rfl
  have hfl : kept2 (told (flowText s)) = flow s := rfl
  rw [hft] at HT
  rw [hfl] at HD2
  generalize flow s = F at *
  generalize told (flowText s) = TF at *
  generalize flowText s = ft at *
  generalize kept (runes (bs s)) = X at *
  have hXl : X.length ≤ s.size := by omega
  have HBL := run.hid (fun k => bl_length X k)
  have HG := run.hid (fun k => @bl_get X k)
  have HTAB := run.hid (fun k => @bl_tab X k)
  have HELSE := run.hid (fun k => @bl_else X k)
  have HALL := run.hid (bl_all X)
  clear hft hfl hk
  go_enter Try.func54, Try.ntmps54
  go_wp2_with fail
  refine HR.out.mono ?_
  rintro e w1 ⟨v1, rfl, hown, -, hb1, -⟩
  have hc1 := HD1.out v1 w1 hown hb1.size
  have hs1 := hb1.size
  clear hown HD1 HR
  generalize (runes (bs s)).length = RL at *
  go_wp2_with fail
  refine hc1.mono ?_
  rintro e w2 ⟨v2, rfl, hown, hb2⟩
  have hB2 := hb1.trans hb2
  clear hc1 hb1 hb2
  have HO := run.hid hown
  obtain ⟨a, cap, rfl⟩ := run.own_value hown
  have HV : Hid (0 < X.length → ∃ g, a = some ⟨g, 0, none⟩) := fun h0 => by
    rcases HO.out.2 with ⟨h, h0⟩ | ⟨g, cap', cur, h, -⟩
    · omega
    · simp only [Value.slice.injEq] at h; exact ⟨g, h.1⟩
  clear hown
  generalize hN : X.length = N at *
  go_wp2
  go_loopw [13] (fun vk wr => ∃ k : Nat, k ≤ N ∧ vk = .int .i64 k ∧ Hid (wr.ownsRow w.heap.size 21 1 (.slice a N cap) N (rv (bl X k))) ∧ Below w.heap.size w wr) (fun vk _ => (N - intOf vk).toNat)
  case atStart => exact ⟨0, by omega, rfl, HO, hB2⟩
  case round =>
    obtain ⟨k, hk, rfl, HOW, hbel⟩ := hrel
    by_cases hlt : k < N
    · obtain ⟨g, rfl⟩ := HV.out (by omega)
      have hown := HOW.out
      have hc := (hown.cellAt k (by omega)).trans (rv_get (show k < (bl X k).length by rw [HBL.out]; omega))
      rw [HG.out k (by omega)] at hc
      have hf := hown.frozenAt k
      have hst := hown.stored k (.int .i32 32)
      rw [rv_set] at hst
      have hbel2 := run.below_grown hbel hown hst.2 (Nat.le_refl _) hbel.size
      have HST := run.hid hst.1
      have H1 := run.hid (HTAB.out k (by omega))
      have H2 := run.hid (HELSE.out k (by omega))
      have H0 := run.hid hst.1
      generalize X.getD k 0 = x at hc H1 H2
      clear hst hown HTAB HELSE HG HBL
      by_cases h9 : x = 9
      · subst h9
        have HN : Hid ((wr.setCell ⟨g, k, none⟩ (.int .i32 32)).ownsRow w.heap.size 21 1 (.slice (some ⟨g, 0, none⟩) N cap) N (rv (bl X (k + 1)))) := by
          have h := HST.out
          rw [H1.out rfl] at h
          exact h
        clear HST H1 H2 HOW H0
        go_wp2
        go_roundw
        case rel => exact ⟨k + 1, by omega, by go_num, HN, hbel2⟩
        case measure => simp [intOf]; omega
      · have HN : Hid (wr.ownsRow w.heap.size 21 1 (.slice (some ⟨g, 0, none⟩) N cap) N (rv (bl X (k + 1)))) := by
          have h := HOW.out
          rw [H2.out h9] at h
          exact h
        have h9' : (x == 9) = false := beq_eq_false_iff_ne.2 h9
        clear HST H1 H2 HOW H0
        go_wp2
        go_roundw
        case rel => exact ⟨k + 1, by omega, by go_num, HN, hbel⟩
        case measure => simp [intOf]; omega
    · obtain rfl : k = N := by omega
      have hown := HOW.out
      rw [HALL.out] at hown
      have hct := HT.out _ wr (run.reads_own hown)
      clear hown HOW HT hN HTAB HELSE HG HBL HALL HO
      go_wp2_with fail
      refine hct.mono ?_
      rintro e w3 ⟨rfl, hb3⟩
      have hB3 := hbel.trans (hb3.mono hbel.size)
      clear hct hb3
      go_wp2_with fail
      refine (HSP.out _).mono ?_
      rintro e w4 ⟨v4, rfl, hown4, -, hb4⟩
      have hB4 := hB3.trans (hb4.mono hB3.size)
      have hc4 := HD2.out v4 w4 (run.own_mono hown4 hB3.size) hB4.size
      clear hown4 hb4 HSP HD2
      go_wp2_with fail
      refine hc4.mono ?_
      rintro e w5 ⟨v5, rfl, hown5, hb5⟩
      have HF5 := run.hid hown5
      have hB5 := hB4.trans hb5
      clear hown5 hb5 hc4
      go_wp2
      go_ret
      exact ⟨_, rfl, HF5.out, hB5⟩

end Go.Proofs.Ytgpgbbbcodnieaa.wrp
