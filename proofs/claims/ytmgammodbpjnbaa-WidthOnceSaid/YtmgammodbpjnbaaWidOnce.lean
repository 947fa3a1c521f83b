/-
  The walks of the laws WidthOnce and WidthShape.
-/
import Derived.Test.YtmgammodbpjnbaaWidRanges
import Derived.Test.YtmgammodbpjnbaaWidOncePlain
namespace Go.Proofs.Ytmgammodbpjnbaa.wid
open Go.RowKit Go.Proofs
set_option linter.unusedVariables false

set_option maxHeartbeats 1000000 in
theorem cells_any (k : Nat) (hk : k ≤ 9) (w : World) : Calls Try.prog 26 #[.int .i8 k] w fun e w' => e = .returned (.int .i64 (cellsOf k)) ∧ w' = w := by
  go_enter Try.func26, Try.ntmps26
  by_cases h1 : k = 1 ∨ k = 2 ∨ k = 3 ∨ k = 4
  · have hr := run.hid (cells_zero h1)
    rcases h1 with rfl | rfl | rfl | rfl
    all_goals
      go_wp2
      go_ret
      exact ⟨ret_eq (i64_eq hr.out.symm), rfl⟩
  by_cases h2 : k = 7 ∨ k = 5
  · have hr := run.hid (cells_two h2)
    rcases h2 with rfl | rfl
    all_goals
      go_wp2
      go_ret
      exact ⟨ret_eq (i64_eq hr.out.symm), rfl⟩
  have hr := run.hid (cells_one (k := k) (by omega))
  obtain ⟨e1, e2, e3, e4, e5, e7⟩ : k ≠ 1 ∧ k ≠ 2 ∧ k ≠ 3 ∧ k ≠ 4 ∧ k ≠ 5 ∧ k ≠ 7 := by omega
  go_wp2
  go_ret
  exact ⟨ret_eq (i64_eq hr.out.symm), rfl⟩

theorem count_succ {l : List (Int × Int)} {k : Nat} {r : Int} (h : k < l.length) : (l.take (k + 1)).countP (inS r) = (l.take k).countP (inS r) + (if inS r (l.getD k (0, 0)) = true then 1 else 0) := by
  rw [List.take_succ_eq_append_getElem h, List.countP_append]
  simp [List.getD_eq_getElem?_getD, h, List.countP_cons]

theorem every_le (c : Nat) (hc : c ≤ 10) (r : Int) : (every c).countP (inS r) ≤ 850 := by
  refine Nat.le_trans List.countP_le_length ?_
  have : ∀ c, (every c).length ≤ c * 85 := by
    intro c
    induction c with
    | zero => simp [every]
    | succ c ih => rw [every_succ, List.length_append]; have := ranges_len (c : Nat); omega
  have := this c
  omega

set_option maxRecDepth 100000 in
set_option maxHeartbeats 4000000 in
theorem lawOnce_any (r : Int) (hr : -2147483648 ≤ r ∧ r ≤ 2147483647) (w : World) : Calls Try.prog 5 #[.int .i32 r] w fun e w' => e = .returned (.bool true) ∧ Below w.heap.size w w' := by
  have HK := run.hid (fun w' => kind_any r w')
  have HOF := run.hid (fun w' => of_any r w')
  have HCE := run.hid (fun w' => cells_any (kind r) (kind_le r) w')
  have HIN := run.hid (fun (c : Nat) (hc : c < 10) (p : Int × Int) (hp : p ∈ rangesT c) (h1 : p.1 ≤ r) (h2 : r ≤ p.2) => in_kind hc hp h1 h2)
  have HEND := run.hid (every_once r)
  have HCA := run.hid (show cellsAt r = cellsOf (kind r) from rfl)
  have HK0 := run.hid (show (r < 0 ∨ 0x10ffff < r) → kind r = 0 from fun h => by unfold kind; rw [if_pos h])
  generalize kind r = K at *
  go_enter Try.func5, Try.ntmps5
  go_wp2_with fail
  refine (works_any _).mono ?_
  rintro e w1 ⟨rfl, hb1⟩
  have HB1 := run.hid hb1
  clear hb1
  go_wp2_with fail
  refine (HK.out _).mono ?_
  rintro e w2 ⟨rfl, hb2⟩
  have HB2 := run.hid (HB1.out.trans (hb2.mono HB1.out.size))
  clear hb2 HB1
  go_wp2
  go_loopw [4, 5] (fun nv cv wr => ∃ c : Nat, c ≤ 10 ∧ cv = .int .i8 c ∧ nv = .int .i64 (((every c).countP (inS r) : Nat) : Int) ∧ Hid (Below w.heap.size w wr)) (fun _ v _ => 10 - (intOf v).toNat)
  case atStart => exact ⟨0, by omega, rfl, rfl, HB2⟩
  case round =>
    obtain ⟨c, hc, rfl, rfl, HB⟩ := hrel
    have hb := every_le c hc r
    have hsz := HB.out.size
    by_cases hlt : c < 10
    · have HR := run.hid (fun w' => ranges_any c (by omega) w')
      have HL := run.hid (ranges_len (c : Nat))
      have HS : Hid ((every (c + 1)).countP (inS r) = (every c).countP (inS r) + (rangesT (c : Nat)).countP (inS r)) := by show _ = _; rw [every_succ, List.countP_append]
      have HI2 := run.hid (fun p hp => HIN.out c hlt p hp)
      generalize rangesT (c : Nat) = l at *
      generalize hSC : (every c).countP (inS r) = SC at *
      go_wp2_with fail
      refine (HR.out _).mono ?_
      rintro e w3 ⟨v, rfl, hown, hb3⟩
      have HO := run.hid hown
      have HB3 := run.hid (HB.out.trans (hb3.mono hsz))
      clear hown hb3 HB
      obtain ⟨a, cp, rfl⟩ := run.own_value HO.out
      obtain ⟨n, hn⟩ : ∃ n, n = l.length := ⟨_, rfl⟩
      rw [← hn] at HO HL ⊢
      have HN := run.hid hn
      have hn85 : n ≤ 85 := HL.out
      clear hn HR
      generalize wr = w4 at *
      go_wp2
      go_loopw [4, 20] (fun nv iv wr => ∃ i : Nat, i ≤ n ∧ iv = .int .i64 i ∧ nv = .int .i64 ((SC + (l.take i).countP (inS r) : Nat) : Int) ∧ Hid (Below w3.heap.size w3 wr)) (fun _ v _ => n - (intOf v).toNat)
      case atStart => exact ⟨0, by omega, rfl, by simp, Below.refl _ _⟩
      case round =>
        obtain ⟨i, hi, rfl, rfl, HBi⟩ := hrel
        have hp : (l.take i).countP (inS r) ≤ 85 := by
          refine Nat.le_trans List.countP_le_length ?_
          rw [List.length_take]; omega
        by_cases hlt2 : i < n
        · obtain ⟨g, cq, hv, c1, c2⟩ := row_at HO.out hlt2
          cases hv
          have hgl := (HO.out.lt g rfl).2
          replace c1 := (HBi.out.cell (p := ⟨g, i * 2, none⟩) hgl).trans c1
          replace c2 := (HBi.out.cell (p := ⟨g, i * 2 + 1, none⟩) hgl).trans c2
          have hil : i < l.length := by rw [← HN.out]; exact hlt2
          have HNX := run.hid (count_succ (r := r) hil)
          have HKC := run.hid (HI2.out (l.getD i (0, 0)) (by simp [List.getD_eq_getElem?_getD, hil]))
          clear hil
          generalize l.getD i (0, 0) = p at *
          obtain ⟨p1, p2⟩ := p
          generalize hsq : (l.take i).countP (inS r) = sq at *
          simp only at c1 c2
          by_cases h1 : p1 ≤ r
          · by_cases h2 : r ≤ p2
            · have hKc : K = c := HKC.out h1 h2
              have hE : ((c : Int) == (K : Int)) = true := by simp; omega
              have HX : Hid ((l.take (i + 1)).countP (inS r) = sq + 1) := by show _ = _; rw [HNX.out]; unfold inS; simp [h1, h2]
              clear HNX HKC hKc
              go_wp2
              go_roundw
              case rel => exact ⟨i + 1, by omega, by go_num, by rw [HX.out]; go_num, HBi⟩
              case measure => simp [intOf]; omega
            · have HX : Hid ((l.take (i + 1)).countP (inS r) = sq) := by show _ = _; rw [HNX.out]; unfold inS; simp [h2]
              clear HNX HKC
              go_wp2
              go_roundw
              case rel => exact ⟨i + 1, by omega, by go_num, by rw [HX.out], HBi⟩
              case measure => simp [intOf]; omega
          · have HX : Hid ((l.take (i + 1)).countP (inS r) = sq) := by show _ = _; rw [HNX.out]; unfold inS; simp [h1]
            clear HNX HKC
            go_wp2
            go_roundw
            case rel => exact ⟨i + 1, by omega, by go_num, by rw [HX.out], HBi⟩
            case measure => simp [intOf]; omega
        · obtain rfl : i = n := by omega
          have hfull : l.take i = l := by rw [HN.out, List.take_length]
          rw [hfull] at hp ⊢
          have HB5 := run.hid (HB3.out.trans (HBi.out.mono (by have := HB3.out.size; omega)))
          go_wp2
          go_roundw
          case rel => exact ⟨c + 1, by omega, by go_num, by rw [HS.out], HB5⟩
          case measure => simp [intOf]; omega
    · obtain rfl : c = 10 := by omega
      by_cases hout : r < 0 ∨ 0x10ffff < r
      · have hk0 := HK0.out hout
        have he : (every 10).countP (inS r) = 0 := by rw [HEND.out, if_neg (by omega)]
        rw [he]
        subst hk0
        have ho : cellsAt r = 1 := HCA.out
        rw [ho] at HOF
        clear HEND HK0 HCA HIN he ho
        rcases hout with hout | hout
        · go_wp2_with fail
          refine (HOF.out _).mono ?_
          rintro e w5 ⟨rfl, hb5⟩
          have HB5 := run.hid (HB.out.trans (hb5.mono hsz))
          clear hb5
          go_wp2
          go_ret
          exact ⟨rfl, HB5.out⟩
        · have hn0 : ¬ r < 0 := by omega
          go_wp2_with fail
          refine (HOF.out _).mono ?_
          rintro e w5 ⟨rfl, hb5⟩
          have HB5 := run.hid (HB.out.trans (hb5.mono hsz))
          clear hb5
          go_wp2
          go_ret
          exact ⟨rfl, HB5.out⟩
      · have he : (every 10).countP (inS r) = 1 := by rw [HEND.out, if_pos (by omega)]
        rw [he]
        rw [HCA.out] at HOF
        have h0 : ¬ r < 0 := by omega
        have h1 : ¬ 1114111 < r := by omega
        clear HEND HK0 HCA HIN he hout
        generalize cellsOf K = ck at *
        go_wp2_with fail
        refine (HOF.out _).mono ?_
        rintro e w5 ⟨rfl, hb5⟩
        have HB5 := run.hid (HB.out.trans (hb5.mono hsz))
        clear hb5
        go_wp2_with fail
        refine (HCE.out _).mono ?_
        rintro e w6 ⟨rfl, rfl⟩
        go_wp2
        go_ret
        exact ⟨rfl, HB5.out⟩
theorem lawOnce_w (r : Int) (w : World) (h : (Lit.int .i32 r).wf = true) : Calls Try.prog 5 #[.int .i32 r] w fun e w' => e = .returned (.bool true) ∧ Below w.heap.size w w' :=
  lawOnce_any r (by simpa [Lit.wf, IntKind.min, IntKind.max, IntKind.signed, IntKind.bits] using h) w
end Go.Proofs.Ytmgammodbpjnbaa.wid
