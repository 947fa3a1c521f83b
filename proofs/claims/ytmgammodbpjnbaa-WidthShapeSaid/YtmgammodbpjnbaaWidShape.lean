/-
  The walk of the law WidthShape.
-/
import Derived.Test.YtmgammodbpjnbaaWidOnce
namespace Go.Proofs.Ytmgammodbpjnbaa.wid
open Go.RowKit Go.Proofs
set_option linter.unusedVariables false

set_option maxRecDepth 100000 in
set_option maxHeartbeats 8000000 in
theorem lawShape_any (c0 : Int) (hc0 : -128 ≤ c0 ∧ c0 ≤ 127) (w : World) : Calls Try.prog 6 #[.int .i8 c0] w fun e w' => e = .returned (.bool true) ∧ Below w.heap.size w w' := by
  have HR := run.hid (fun w' => ranges_any c0 hc0 w')
  go_enter Try.func6, Try.ntmps6
  go_wp2_with fail
  refine (works_any _).mono ?_
  rintro e w1 ⟨rfl, hb1⟩
  have HB1 := run.hid hb1
  clear hb1
  go_wp2_with fail
  refine (HR.out _).mono ?_
  rintro e w3 ⟨v, rfl, hown, hb3⟩
  have HO := run.hid hown
  have HB3 := run.hid (HB1.out.trans (hb3.mono HB1.out.size))
  clear hown hb3 HB1 HR
  by_cases hlo : c0 < 0
  · have e : rangesT c0 = [] := by unfold rangesT; rw [if_neg (by omega), if_neg (by omega)]
    rw [e] at HO
    obtain ⟨a, cp, rfl⟩ := run.own_value HO.out
    clear HO e
    go_wp2
    go_ret
    exact ⟨rfl, HB3.out⟩
  by_cases hhi : 9 < c0
  · have e : rangesT c0 = [] := by unfold rangesT; rw [if_neg (by omega), if_neg (by omega)]
    rw [e] at HO
    obtain ⟨a, cp, rfl⟩ := run.own_value HO.out
    clear HO e
    go_wp2
    go_ret
    exact ⟨rfl, HB3.out⟩
  obtain ⟨c, rfl⟩ : ∃ c : Nat, c0 = c := ⟨c0.toNat, by omega⟩
  have hc : c < 10 := by omega
  have HEND := run.hid (fun i hi => ends_all c (by simpa using hc) i hi)
  have HBN := run.hid (fun p hp => ranges_bnd c (by simpa using hc) p hp)
  have h1 := ranges_some c (by simpa using hc)
  have HL := run.hid (ranges_len (c : Nat))
  generalize rangesT (c : Nat) = l at *
  obtain ⟨a, cp, rfl⟩ := run.own_value HO.out
  obtain ⟨n, hn⟩ : ∃ n, n = l.length := ⟨_, rfl⟩
  rw [← hn] at HO HL h1 HEND ⊢
  have HN := run.hid hn
  have hn85 : n ≤ 85 := HL.out
  have hn0 : ((n : Int) == 0) = false := by simp; omega
  clear hn hc0
  go_wp2
  go_loopw [25] (fun iv wr => ∃ i : Nat, i ≤ n ∧ iv = .int .i64 i ∧ Hid (Below w3.heap.size w3 wr)) (fun v _ => n - (intOf v).toNat)
  case atStart => exact ⟨0, by omega, rfl, Below.refl _ _⟩
  case round =>
    obtain ⟨i, hi, rfl, HBi⟩ := hrel
    by_cases hlt2 : i < n
    · obtain ⟨g, cq, hv, c1, c2⟩ := row_at HO.out hlt2
      have hgl := fun g' cq' (e : Value.slice a n cp = .slice (some ⟨g', 0, none⟩) n cq') => (HO.out.lt g' (by rw [e]; rfl)).2
      have HPV : Hid (0 < i → ∃ g cq, Value.slice a n cp = .slice (some ⟨g, 0, none⟩) n cq ∧ wr.cell? ⟨g, (i - 1) * 2 + 1, none⟩ = some (.int .i32 (l.getD (i - 1) (0, 0)).2)) := by
        intro h
        obtain ⟨g', cq', hv', -, c4⟩ := row_at HO.out (show i - 1 < n by omega)
        exact ⟨g', cq', hv', (HBi.out.cell (p := ⟨g', (i - 1) * 2 + 1, none⟩) (hgl g' cq' hv')).trans c4⟩
      replace c1 := (HBi.out.cell (p := ⟨g, i * 2, none⟩) (hgl g cq hv)).trans c1
      replace c2 := (HBi.out.cell (p := ⟨g, i * 2 + 1, none⟩) (hgl g cq hv)).trans c2
      have hgl' := hgl g cq hv
      cases hv
      clear hgl
      have hil : i < l.length := by rw [← HN.out]; exact hlt2
      obtain ⟨b1, b2, b3⟩ := HBN.out (l.getD i (0, 0)) (by simp [List.getD_eq_getElem?_getD, hil])
      have hE := HEND.out i (by simpa using hlt2)
      unfold endsOk at hE
      simp only [Bool.and_eq_true, decide_eq_true_eq, Bool.or_eq_true, Bool.not_eq_true', decide_eq_false_iff_not, beq_iff_eq] at hE
      obtain ⟨⟨k1, k2⟩, ⟨k3, k4⟩, k5⟩ := hE
      generalize l.getD i (0, 0) = p at *
      obtain ⟨p1, p2⟩ := p
      simp only at c1 c2 b1 b2 b3 k1 k2 k3 k4 k5
      have K1 : Hid (∀ w', Calls Try.prog 24 #[.int .i32 p1] w' fun e w'' => e = .returned (.int .i8 c) ∧ Below w'.heap.size w' w'') := by have := fun w' => kind_any p1 w'; rw [k1] at this; exact this
      have K2 : Hid (∀ w', Calls Try.prog 24 #[.int .i32 p2] w' fun e w'' => e = .returned (.int .i8 c) ∧ Below w'.heap.size w' w'') := by have := fun w' => kind_any p2 w'; rw [k2] at this; exact this
      have K3 : Hid (∀ w', Calls Try.prog 24 #[.int .i32 (p1 - 1)] w' fun e w'' => e = .returned (.int .i8 (kind (p1 - 1))) ∧ Below w'.heap.size w' w'') := fun w' => kind_any _ w'
      have K4 : Hid (∀ w', Calls Try.prog 24 #[.int .i32 (p2 + 1)] w' fun e w'' => e = .returned (.int .i8 (kind (p2 + 1))) ∧ Below w'.heap.size w' w'') := fun w' => kind_any _ w'
      have q3 : Hid (0 < p1 → ((kind (p1 - 1) : Int) == (c : Int)) = false) := by
        intro h
        rcases k3 with h3 | h3
        · omega
        · simp; omega
      have q4 : Hid (p2 < 1114111 → ((kind (p2 + 1) : Int) == (c : Int)) = false) := by
        intro h
        rcases k4 with h3 | h3
        · omega
        · simp; omega
      clear k1 k2 k3 k4 hil
      generalize kind (p1 - 1) = K3k at *
      generalize kind (p2 + 1) = K4k at *
      have HQB : Hid (0 < i → 0 ≤ (l.getD (i - 1) (0, 0)).2) := by
        intro h
        have hj : i - 1 < l.length := by rw [← HN.out]; omega
        have := HBN.out (l.getD (i - 1) (0, 0)) (by simp [List.getD_eq_getElem?_getD, hj])
        omega
      obtain ⟨q, hq⟩ : ∃ q, q = (l.getD (i - 1) (0, 0)).2 := ⟨_, rfl⟩
      rw [← hq] at HPV k5 HQB
      clear hq
      have f1 : ¬ p1 < 0 := by omega
      have f2 : ¬ p2 < p1 := by omega
      have f3 : ¬ 1114111 < p2 := by omega
      generalize wr = wq at *
      go_upto_region 12 with fail
      go_cut [73] (fun b wx => b = .bool false ∧ ∃ n, wx = wq.drewN n)
      case first =>
        refine run.alone (by assumption) (by assumption) ?_
        go_light
        intro _ _ _ _
        by_cases hi0 : i = 0
        · subst hi0
          clear HPV k5
          go_quiet (fail)
          go_wp2
          go_meet
          case rel => exact ⟨rfl, nq, rfl⟩
        · have hi1 : 0 < i := by omega
          obtain ⟨g', cq', hv', c4⟩ := HPV.out hi1
          cases hv'
          have hq5 : q + 2 ≤ p1 := by rcases k5 with h | h; · exact absurd h hi0
                                      · exact h
          have f4 : ¬ p1 < q + 2 := by omega
          have hqb : q ≤ 1114111 := by omega
          have hqr : 0 ≤ q := HQB.out hi1
          clear k5 HPV
          go_quiet (fail)
          go_wp2
          go_meet
          case rel => exact ⟨rfl, nq, rfl⟩
      obtain ⟨rfl, nq, rfl⟩ := hcut
      have HBz := run.hid (HBi.out.trans (show Below w3.heap.size wq (wq.drewN nq) from ⟨rfl, rfl, rfl, Nat.le_refl _, fun _ _ => rfl⟩))
      have c1 : (wq.drewN nq).cell? ⟨g, i * 2, none⟩ = some (.int .i32 p1) := c1
      have c2 : (wq.drewN nq).cell? ⟨g, i * 2 + 1, none⟩ = some (.int .i32 p2) := c2
      clear HBi HPV k5 HQB
      generalize wq.drewN nq = wa at *
      by_cases h3 : 0 < p1
      · have g3 := q3.out h3
        by_cases h4 : p2 < 1114111
        · have g4 := q4.out h4
          go_wp2_with fail
          refine (K1.out _).mono ?_
          rintro e w10 ⟨rfl, hb⟩
          have HBw10 := run.hid (HBz.out.trans (hb.mono HBz.out.size))
          replace c1 := (hb.cell (p := ⟨g, i * 2, none⟩) (by have := HBz.out.size; simp only; omega)).trans c1
          replace c2 := (hb.cell (p := ⟨g, i * 2 + 1, none⟩) (by have := HBz.out.size; simp only; omega)).trans c2
          clear hb HBz
          have HBz := HBw10
          clear HBw10
          go_wp2_with fail
          refine (K2.out _).mono ?_
          rintro e w11 ⟨rfl, hb⟩
          have HBw11 := run.hid (HBz.out.trans (hb.mono HBz.out.size))
          replace c1 := (hb.cell (p := ⟨g, i * 2, none⟩) (by have := HBz.out.size; simp only; omega)).trans c1
          replace c2 := (hb.cell (p := ⟨g, i * 2 + 1, none⟩) (by have := HBz.out.size; simp only; omega)).trans c2
          clear hb HBz
          have HBz := HBw11
          clear HBw11
          go_wp2_with fail
          refine (K3.out _).mono ?_
          rintro e w12 ⟨rfl, hb⟩
          have HBw12 := run.hid (HBz.out.trans (hb.mono HBz.out.size))
          replace c1 := (hb.cell (p := ⟨g, i * 2, none⟩) (by have := HBz.out.size; simp only; omega)).trans c1
          replace c2 := (hb.cell (p := ⟨g, i * 2 + 1, none⟩) (by have := HBz.out.size; simp only; omega)).trans c2
          clear hb HBz
          have HBz := HBw12
          clear HBw12
          go_wp2_with fail
          refine (K4.out _).mono ?_
          rintro e w13 ⟨rfl, hb⟩
          have HBw13 := run.hid (HBz.out.trans (hb.mono HBz.out.size))
          replace c1 := (hb.cell (p := ⟨g, i * 2, none⟩) (by have := HBz.out.size; simp only; omega)).trans c1
          replace c2 := (hb.cell (p := ⟨g, i * 2 + 1, none⟩) (by have := HBz.out.size; simp only; omega)).trans c2
          clear hb HBz
          have HBz := HBw13
          clear HBw13
          go_wp2
          go_roundw
          case rel => exact ⟨i + 1, by omega, by go_num, HBz⟩
          case measure => simp [intOf]; omega
        · go_wp2_with fail
          refine (K1.out _).mono ?_
          rintro e w10 ⟨rfl, hb⟩
          have HBw10 := run.hid (HBz.out.trans (hb.mono HBz.out.size))
          replace c1 := (hb.cell (p := ⟨g, i * 2, none⟩) (by have := HBz.out.size; simp only; omega)).trans c1
          replace c2 := (hb.cell (p := ⟨g, i * 2 + 1, none⟩) (by have := HBz.out.size; simp only; omega)).trans c2
          clear hb HBz
          have HBz := HBw10
          clear HBw10
          go_wp2_with fail
          refine (K2.out _).mono ?_
          rintro e w11 ⟨rfl, hb⟩
          have HBw11 := run.hid (HBz.out.trans (hb.mono HBz.out.size))
          replace c1 := (hb.cell (p := ⟨g, i * 2, none⟩) (by have := HBz.out.size; simp only; omega)).trans c1
          replace c2 := (hb.cell (p := ⟨g, i * 2 + 1, none⟩) (by have := HBz.out.size; simp only; omega)).trans c2
          clear hb HBz
          have HBz := HBw11
          clear HBw11
          go_wp2_with fail
          refine (K3.out _).mono ?_
          rintro e w12 ⟨rfl, hb⟩
          have HBw12 := run.hid (HBz.out.trans (hb.mono HBz.out.size))
          replace c1 := (hb.cell (p := ⟨g, i * 2, none⟩) (by have := HBz.out.size; simp only; omega)).trans c1
          replace c2 := (hb.cell (p := ⟨g, i * 2 + 1, none⟩) (by have := HBz.out.size; simp only; omega)).trans c2
          clear hb HBz
          have HBz := HBw12
          clear HBw12
          go_wp2
          go_roundw
          case rel => exact ⟨i + 1, by omega, by go_num, HBz⟩
          case measure => simp [intOf]; omega
      · by_cases h4 : p2 < 1114111
        · have g4 := q4.out h4
          go_wp2_with fail
          refine (K1.out _).mono ?_
          rintro e w10 ⟨rfl, hb⟩
          have HBw10 := run.hid (HBz.out.trans (hb.mono HBz.out.size))
          replace c1 := (hb.cell (p := ⟨g, i * 2, none⟩) (by have := HBz.out.size; simp only; omega)).trans c1
          replace c2 := (hb.cell (p := ⟨g, i * 2 + 1, none⟩) (by have := HBz.out.size; simp only; omega)).trans c2
          clear hb HBz
          have HBz := HBw10
          clear HBw10
          go_wp2_with fail
          refine (K2.out _).mono ?_
          rintro e w11 ⟨rfl, hb⟩
          have HBw11 := run.hid (HBz.out.trans (hb.mono HBz.out.size))
          replace c1 := (hb.cell (p := ⟨g, i * 2, none⟩) (by have := HBz.out.size; simp only; omega)).trans c1
          replace c2 := (hb.cell (p := ⟨g, i * 2 + 1, none⟩) (by have := HBz.out.size; simp only; omega)).trans c2
          clear hb HBz
          have HBz := HBw11
          clear HBw11
          go_wp2_with fail
          refine (K4.out _).mono ?_
          rintro e w12 ⟨rfl, hb⟩
          have HBw12 := run.hid (HBz.out.trans (hb.mono HBz.out.size))
          replace c1 := (hb.cell (p := ⟨g, i * 2, none⟩) (by have := HBz.out.size; simp only; omega)).trans c1
          replace c2 := (hb.cell (p := ⟨g, i * 2 + 1, none⟩) (by have := HBz.out.size; simp only; omega)).trans c2
          clear hb HBz
          have HBz := HBw12
          clear HBw12
          go_wp2
          go_roundw
          case rel => exact ⟨i + 1, by omega, by go_num, HBz⟩
          case measure => simp [intOf]; omega
        · go_wp2_with fail
          refine (K1.out _).mono ?_
          rintro e w10 ⟨rfl, hb⟩
          have HBw10 := run.hid (HBz.out.trans (hb.mono HBz.out.size))
          replace c1 := (hb.cell (p := ⟨g, i * 2, none⟩) (by have := HBz.out.size; simp only; omega)).trans c1
          replace c2 := (hb.cell (p := ⟨g, i * 2 + 1, none⟩) (by have := HBz.out.size; simp only; omega)).trans c2
          clear hb HBz
          have HBz := HBw10
          clear HBw10
          go_wp2_with fail
          refine (K2.out _).mono ?_
          rintro e w11 ⟨rfl, hb⟩
          have HBw11 := run.hid (HBz.out.trans (hb.mono HBz.out.size))
          replace c1 := (hb.cell (p := ⟨g, i * 2, none⟩) (by have := HBz.out.size; simp only; omega)).trans c1
          replace c2 := (hb.cell (p := ⟨g, i * 2 + 1, none⟩) (by have := HBz.out.size; simp only; omega)).trans c2
          clear hb HBz
          have HBz := HBw11
          clear HBw11
          go_wp2
          go_roundw
          case rel => exact ⟨i + 1, by omega, by go_num, HBz⟩
          case measure => simp [intOf]; omega
    · obtain rfl : i = n := by omega
      have HB9 := run.hid (HB3.out.trans (HBi.out.mono (by have := HB3.out.size; omega)))
      go_wp2
      go_ret
      exact ⟨rfl, HB9.out⟩
theorem lawShape_w (c0 : Int) (w : World) (h : (Lit.int .i8 c0).wf = true) : Calls Try.prog 6 #[.int .i8 c0] w fun e w' => e = .returned (.bool true) ∧ Below w.heap.size w w' :=
  lawShape_any c0 (by simpa [Lit.wf, IntKind.min, IntKind.max, IntKind.signed, IntKind.bits] using h) w
end Go.Proofs.Ytmgammodbpjnbaa.wid
