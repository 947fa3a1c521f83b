/-
  The walks of the document's layer wrap: OneLine, brought.
-/
import Derived.Test.YtgniobgadilpgaaWrpRefFlow
import Derived.Test.YtgniobgadilpgaaWrpTrim
namespace Go.Proofs.Ytgniobgadilpgaa.wrp
open Go.RowKit Go.Proofs
open Go.Proofs.Ytgniobgadilpgaa.wid Go.Proofs.Ytgniobgadilpgaa.utf Go.Proofs.Ytgniobgadilpgaa.clu
set_option linter.unusedVariables false

theorem brought_any (wd : Int) (w : World) : Calls Try.prog 53 #[.int .i64 wd] w fun e w' => e = .returned (.int .i64 (sideN wd : Nat)) ∧ w' = w := by
  have hn := sideN_eq wd
  have hn2 : max 0 (min wd 4096) = (sideN wd : Int) := by omega
  have H2 := run.hid hn2
  go_enter Try.func53, Try.ntmps53
  go_wp2
  go_ret
  exact ⟨by first | rfl | (congr 2; omega), rfl⟩

set_option maxHeartbeats 2000000 in
theorem refLine_any (s : ByteArray) (w : World) (hs : s.size ≤ 68719476736) : Calls Try.prog 54 #[.string s] w fun e w' => ∃ v, e = .returned v ∧ RS w' v (lineT s) ∧ Below w.heap.size w w' := by
  have HFL := run.hid (refFlow_any s w hs)
  have hl := flow_len s
  have hL : lineT s = (flow s).map nlsp := rfl
  have HL := run.hid hL
  clear hL
  generalize lineT s = LT at *
  generalize flow s = X at *
  have HBL := run.hid (fun k => ln_length X k)
  have HG := run.hid (fun k => @ln_get X k)
  have HTAB := run.hid (fun k => @ln_nl X k)
  have HELSE := run.hid (fun k => @ln_else X k)
  have HALL := run.hid (ln_all X)
  go_enter Try.func54, Try.ntmps54
  go_wp2_with fail
  refine HFL.out.mono ?_
  rintro e w2 ⟨v2, rfl, hown, hB2⟩
  have HO := run.hid hown
  obtain ⟨a, cap, rfl⟩ := run.own_value hown
  have HV : Hid (0 < X.length → ∃ g, a = some ⟨g, 0, none⟩) := fun h0 => by
    rcases HO.out.2 with ⟨h, h0⟩ | ⟨g, cap', cur, h, -⟩
    · omega
    · simp only [Value.slice.injEq] at h; exact ⟨g, h.1⟩
  have hXl : X.length ≤ 4 * s.size := hl
  clear hown hl HFL
  generalize hN : X.length = N at *
  go_wp2
  go_loopw [4] (fun vk wr => ∃ k : Nat, k ≤ N ∧ vk = .int .i64 k ∧ Hid (wr.ownsRow w.heap.size 47 2 (.slice a N cap) N (cells2 (ln X k))) ∧ Below w.heap.size w wr) (fun vk _ => (N - intOf vk).toNat)
  case atStart => exact ⟨0, by omega, rfl, HO, hB2⟩
  case round =>
    obtain ⟨k, hk, rfl, HOW, hbel⟩ := hrel
    by_cases hlt : k < N
    · obtain ⟨g, rfl⟩ := HV.out (by omega)
      have hown := HOW.out
      obtain ⟨g1, g2⟩ := cells2_get (ln X k) k (by rw [HBL.out]; exact hlt)
      have hc1 := (hown.cellAt (k * 2) (by omega)).trans g1
      have hc2 := (hown.cellAt (k * 2 + 1) (by omega)).trans g2
      have hgk := HG.out k hlt
      unfold t0 at hgk
      rw [hgk] at hc1 hc2
      have hf1 := hown.frozenAt (k * 2)
      have hf2 := hown.frozenAt (k * 2 + 1)
      have hst := ((hown.stored (k * 2) (.string sp)).1.stored (k * 2 + 1) (.int .i64 (1 : Nat))).1
      rw [cells2_set (ln X k) k (sp, 1) (by rw [HBL.out]; exact hlt)] at hst
      have hbel2 := run.below_grown hbel hown (run.grown_trans (run.setCell_grown wr g (k * 2) (.string sp)) (run.setCell_grown _ g (k * 2 + 1) (.int .i64 (1 : Nat))) (.inl rfl)) (Nat.le_refl _) hbel.size
      have HST := run.hid hst
      have H1 := run.hid (HTAB.out k hlt)
      have H2 := run.hid (HELSE.out k hlt)
      unfold t0 at H1 H2
      generalize X.getD k (ByteArray.empty, 0) = q at hc1 hc2 H1 H2
      obtain ⟨qs, qw⟩ := q
      dsimp only at hc1 hc2 H1 H2
      have hbeq := nl_eq qs
      clear hst hown HTAB HELSE HG HBL g1 g2 hgk hN HO HALL
      by_cases h9 : qs = nl
      · have HN : Hid (((wr.setCell ⟨g, k * 2, none⟩ (.string sp)).setCell ⟨g, k * 2 + 1, none⟩ (.int .i64 (1 : Nat))).ownsRow w.heap.size 47 2 (.slice (some ⟨g, 0, none⟩) N cap) N (cells2 (ln X (k + 1)))) := by
          have h := HST.out
          rw [H1.out h9] at h
          exact h
        rw [decide_eq_true h9] at hbeq
        clear HST H1 H2 HOW h9
        unfold sp at HN hbel2
        go_wp2
        go_roundw
        case rel => exact ⟨k + 1, by omega, by go_num, HN, hbel2⟩
        case measure => simp [intOf]; omega
      · have HN : Hid (wr.ownsRow w.heap.size 47 2 (.slice (some ⟨g, 0, none⟩) N cap) N (cells2 (ln X (k + 1)))) := by
          have h := HOW.out
          rw [H2.out h9] at h
          exact h
        rw [decide_eq_false h9] at hbeq
        clear HST H1 H2 HOW hbel2 h9
        go_wp2
        go_roundw
        case rel => exact ⟨k + 1, by omega, by go_num, HN, hbel⟩
        case measure => simp [intOf]; omega
    · obtain rfl : k = N := by omega
      have hown := HOW.out
      rw [HALL.out, ← HL.out] at hown
      have hle : LT.length = k := by rw [HL.out, List.length_map, hN]
      rw [← hle] at hown
      have HR := run.hid (rs_own hown)
      rw [hle] at HR
      clear hown HOW hN HTAB HELSE HG HBL HALL HO hle
      go_wp2
      go_ret
      exact ⟨_, rfl, HR.out, hbel⟩

end Go.Proofs.Ytgniobgadilpgaa.wrp
