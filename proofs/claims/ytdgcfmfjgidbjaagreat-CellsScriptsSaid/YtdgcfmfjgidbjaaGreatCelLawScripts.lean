/-
  The law of layer cells: two buffers, any calls on each in turns. (Printed by gen_cellawscripts.py.)
-/
import Derived.Test.YtdgcfmfjgidbjaaGreatCelPH
import Derived.Test.YtdgcfmfjgidbjaaGreatCelWh
import Derived.Test.YtdgcfmfjgidbjaaGreatCelWakes
namespace Go.Proofs.YtdgcfmfjgidbjaaGreat.cel
open Go Go.RowKit Go.Proofs
set_option linter.unusedVariables false
/-- a pair is begun, or none -/
theorem begun_opt (W H : Int) (a : Option Addr) (n cap : Nat) (w : World) : Calls Tryz.prog 5 #[.agg #[.int .i64 W, .int .i64 H, .slice a n cap]] w fun e w' => ∃ va, e = .returned (.tuple #[va, .bool true]) ∧ (∃ o : Opt, va = o.ptr ∧ Opt.at w.heap.size 0 w' o) ∧ Below w.heap.size w w' :=
  (begun_any W H a n cap w).mono fun e w' ⟨hb, h⟩ => by
    rcases h with h | ⟨q, L, h, hP, hS, h0, h1, hbl⟩
    · exact ⟨_, h, ⟨none, rfl, trivial⟩, hb⟩
    · exact ⟨_, h, ⟨some (q, L), rfl, hP, hS, by rw [h0, h1], by omega, hbl⟩, hb⟩
theorem Two.start {B : Nat} {w1 w2 w3 w4 : World} {va vb : Value} (hB : B ≤ w1.heap.size) (h2 : Below B w1 w2) (h3 : Below w2.heap.size w2 w3) (h4 : Below w3.heap.size w3 w4) (ha : ∃ o : Opt, va = o.ptr ∧ Opt.at w2.heap.size 0 w3 o) (hb : ∃ o : Opt, vb = o.ptr ∧ Opt.at w3.heap.size 0 w4 o) : Two B w1 va vb 0 0 w4 := by
  obtain ⟨oa, e1, h5⟩ := ha
  obtain ⟨ob, e2, h6⟩ := hb
  have hs2 := h2.size
  have hs3 := h3.size
  have hs4 := h4.size
  have hm : ∀ {o : Opt} {C D i : Nat} {X : World}, Opt.at C i X o → D ≤ C → Opt.at D i X o := fun {o} {C D i X} h hd => by
    match o, h with
    | none, _ => trivial
    | some (q, L), h => exact ⟨h.1, h.2.1, h.2.2.1, h.2.2.2.1, fun k hk => Nat.le_trans hd (h.2.2.2.2 k hk)⟩
  refine ⟨⟨oa, ob, e1, e2, hm (Opt.at_kept (S := fun _ => False) h5 (KeptC.of_below h4) (fun _ h => h.elim)) (by omega), hm h6 (by omega), fun k hk hk2 => ?_⟩, (h2.trans (h3.mono (by omega))).trans (h4.mono (by omega)), by omega⟩
  have h7 := (Opt.at_lt h5 hk).2
  have h8 := (Opt.at_lt h6 hk2).1
  omega
theorem Two.mono {B i i' j j' : Nat} {w0 X : World} {va vb : Value} (h : Two B w0 va vb i j X) (hi : i ≤ i') (hj : j ≤ j') : Two B w0 va vb i' j' X := by
  obtain ⟨⟨oa, ob, h1, h2, h3, h4, h5⟩, h6, h7⟩ := h
  exact ⟨⟨oa, ob, h1, h2, Opt.at_mono h3 hi, Opt.at_mono h4 hj, h5⟩, h6, h7⟩
theorem Two.drew {B i j : Nat} {w0 X : World} {va vb : Value} (h : Two B w0 va vb i j X) : Two B w0 va vb i j X.drew := h.below (Below.drew (Below.refl _ X))
theorem Two.vals {B i j : Nat} {w0 X : World} {va vb : Value} (h : Two B w0 va vb i j X) : (va = .pointer none ∨ ∃ k, va = .pointer (some ⟨k, 0, none⟩)) ∧ (vb = .pointer none ∨ ∃ k, vb = .pointer (some ⟨k, 0, none⟩)) := by
  have hp : ∀ o : Opt, o.ptr = .pointer none ∨ ∃ k, o.ptr = .pointer (some ⟨k, 0, none⟩) := fun o => by
    match o with
    | none => exact .inl rfl
    | some (q, L) => exact .inr ⟨_, rfl⟩
  obtain ⟨⟨oa, ob, h1, h2, -⟩, -, -⟩ := h
  exact ⟨by rw [h1]; exact hp oa, by rw [h2]; exact hp ob⟩
/-- the end of the one -/
theorem Two.end {B i j : Nat} {w0 X : World} {va vb : Value} (h : Two B w0 va vb i j X) (hne : va ≠ .pointer none) (hi : i ≤ 134217728) :
    Calls Tryz.prog 7 #[va] X fun e w' => e = .returned (.bool true) ∧ Two B w0 (.pointer none) vb i j w' := by
  obtain ⟨⟨oa, ob, ha, hb, h3, h4, h5⟩, h6, h7⟩ := h
  match oa, ha, h3, h5 with
  | none, ha, _, _ => exact absurd ha hne
  | some (q, L), ha, h3, h5 =>
    obtain ⟨hP, hS, hm, hn, hbl⟩ := h3
    subst ha
    refine (pend_any q L X hP hS hm (by omega)).mono ?_
    rintro e w' ⟨rfl, hk⟩
    exact ⟨rfl, ⟨none, ob, rfl, hb, trivial, Opt.at_kept h4 hk (fun k hk2 hk3 => h5 k hk2 hk3), fun k hk2 => hk2.elim⟩, h6.trans (hk.below h7 hbl), Nat.le_trans h7 hk.size⟩
set_option maxRecDepth 100000 in
set_option maxHeartbeats 8000000 in
theorem lawScripts_any (W0 H0 : Int) (a0 : Option Addr) (N0 c0 : Nat) (SL0 : List St) (W1 H1 : Int) (a1 : Option Addr) (N1 c1 : Nat) (SL1 : List St) (w : World) (hNl0 : SL0.length = N0) (hNl1 : SL1.length = N1) (hS0 : StepsAt w a0 SL0) (hS1 : StepsAt w a1 SL1) (hN0 : N0 ≤ 140737488355328) (hN1 : N1 ≤ 140737488355328) :
    Calls Tryz.prog 3 #[.agg #[.int .i64 W0, .int .i64 H0, .slice a0 N0 c0], .agg #[.int .i64 W1, .int .i64 H1, .slice a1 N1 c1]] w fun e w' => e = .returned (.bool true) ∧ Below w.heap.size w w' := by
  obtain ⟨it, hinf, -, hsz, -⟩ := info_parts info_step
  have HB0 := run.hid (fun X (hb : Below w.heap.size w X) => by rw [← hNl0]; exact beyond_any a0 c0 SL0 X (hS0.below hb) (by omega) : ∀ X, Below w.heap.size w X → Calls Tryz.prog 4 #[.slice a0 N0 c0] X fun e w' => e = .returned (.bool (beyondT SL0 0)) ∧ Below X.heap.size X w')
  have HB1 := run.hid (fun X (hb : Below w.heap.size w X) => by rw [← hNl1]; exact beyond_any a1 c1 SL1 X (hS1.below hb) (by omega) : ∀ X, Below w.heap.size w X → Calls Tryz.prog 4 #[.slice a1 N1 c1] X fun e w' => e = .returned (.bool (beyondT SL1 0)) ∧ Below X.heap.size X w')
  have hb := run.below_two w (.cells #[.int .i64 W0, .int .i64 H0, .slice a0 N0 c0] 24) (.cells #[.int .i64 W1, .int .i64 H1, .slice a1 N1 c1] 24)
  have k1 := heap_alloc2_old w (.cells #[.int .i64 W0, .int .i64 H0, .slice a0 N0 c0] 24) (.cells #[.int .i64 W1, .int .i64 H1, .slice a1 N1 c1] 24)
  have k2 := heap_alloc2_new w (.cells #[.int .i64 W0, .int .i64 H0, .slice a0 N0 c0] 24) (.cells #[.int .i64 W1, .int .i64 H1, .slice a1 N1 c1] 24)
  have hsz1 : w.heap.size + 2 = ((w.alloc (.cells #[.int .i64 W0, .int .i64 H0, .slice a0 N0 c0] 24)).alloc (.cells #[.int .i64 W1, .int .i64 H1, .slice a1 N1 c1] 24)).heap.size := by rw [World.size_alloc, World.size_alloc]
  have HBW := run.hid hb
  have HSZ := run.hid hsz1
  have HK := run.hid (And.intro k1 k2)
  have HC := run.hid (fun X (hb : Below (w.heap.size + 2) ((w.alloc (.cells #[.int .i64 W0, .int .i64 H0, .slice a0 N0 c0] 24)).alloc (.cells #[.int .i64 W1, .int .i64 H1, .slice a1 N1 c1] 24)) X) => show (X.cell? ⟨w.heap.size, 0, none⟩ = some (.int .i64 W0) ∧ X.cell? ⟨w.heap.size, 1, none⟩ = some (.int .i64 H0) ∧ X.cell? ⟨w.heap.size, 2, none⟩ = some (.slice a0 N0 c0)) ∧ X.cell? ⟨w.heap.size + 1, 0, none⟩ = some (.int .i64 W1) ∧ X.cell? ⟨w.heap.size + 1, 1, none⟩ = some (.int .i64 H1) ∧ X.cell? ⟨w.heap.size + 1, 2, none⟩ = some (.slice a1 N1 c1) from by
    have h1 := (hb.block w.heap.size (by omega)).trans k1
    have h2 := (hb.block (w.heap.size + 1) (by omega)).trans k2
    exact ⟨⟨blk_cell h1 0, blk_cell h1 1, blk_cell h1 2⟩, blk_cell h2 0, blk_cell h2 1, blk_cell h2 2⟩)
  have HS0 := run.hid hS0
  have HS1 := run.hid hS1
  have HL0 := run.hid hNl0
  have HL1 := run.hid hNl1
  obtain ⟨⟨d0, d1, d2⟩, f0, f1, f2⟩ := HC.out _ (Below.refl _ _)
  clear hb k1 k2 hsz1 hS0 hS1 hNl0 hNl1
  go_enter Tryz.func3, Tryz.ntmps3
  go_upto_region 1 with fail
  generalize (w.alloc (.cells #[.int .i64 W0, .int .i64 H0, .slice a0 N0 c0] 24)).alloc (.cells #[.int .i64 W1, .int .i64 H1, .slice a1 N1 c1] 24) = w1 at *
  generalize hn : w.heap.size = n at *
  cases hA : beyondT SL0 0 with
  | true =>
    go_wp2_with fail
    refine (HB0.out _ HBW.out).mono ?_
    rintro e w2 ⟨rfl, hb2⟩
    have HE := run.hid (HBW.out.trans (hb2.mono (by have := HBW.out.size; omega)))
    clear hb2 d0 d1 d2 f0 f1 f2
    rw [hA]
    go_wp2
    go_ret
    exact ⟨rfl, by rw [hn]; exact HE.out⟩
  | false =>
    go_wp2_with fail
    refine (HB0.out _ HBW.out).mono ?_
    rintro e w2 ⟨rfl, hb2⟩
    rw [hA]
    have hb2b : Below (n + 2) w1 w2 := hb2.mono (by have := HSZ.out; omega)
    have hb2c : Below n w w2 := HBW.out.trans (hb2b.mono (by omega))
    obtain ⟨-, g0, g1, g2⟩ := HC.out _ hb2b
    clear d0 d1 d2 f0 f1 f2
    cases hA2 : beyondT SL1 0 with
    | true =>
      go_wp2_with fail
      refine (HB1.out _ hb2c).mono ?_
      rintro e w3 ⟨rfl, hb3⟩
      have HE := run.hid (hb2c.trans (hb3.mono (by have := hb2c.size; omega)))
      clear hb2 hb3 hb2b hb2c g0 g1 g2
      rw [hA2]
      go_wp2
      go_ret
      exact ⟨rfl, by rw [hn]; exact HE.out⟩
    | false =>
      go_wp2_with fail
      refine (HB1.out _ hb2c).mono ?_
      rintro e w3 ⟨rfl, hb3⟩
      rw [hA2]
      have hb3b : Below (n + 2) w1 w3 := hb2b.trans (hb3.mono (by have := HSZ.out; have := hb2.size; omega))
      obtain ⟨⟨d0, d1, d2⟩, -⟩ := HC.out _ hb3b
      have HB3 := run.hid hb3b
      clear hb2 hb3 hb2b hb2c hb3b g0 g1 g2
      go_wp2_with fail
      refine (begun_opt W0 H0 a0 N0 c0 w3).mono ?_
      rintro e w4 ⟨va, rfl, hoa, hb4⟩
      have hb4b : Below (n + 2) w1 w4 := HB3.out.trans (hb4.mono (by have := HSZ.out; have := HB3.out.size; omega))
      obtain ⟨-, g0, g1, g2⟩ := HC.out _ hb4b
      have HB4 := run.hid hb4
      have HOA := run.hid hoa
      clear hb4 hb4b hoa d0 d1 d2
      go_wp2_with fail
      refine (begun_opt W1 H1 a1 N1 c1 w4).mono ?_
      rintro e w5 ⟨vb, rfl, hob, hb5⟩
      have HT0 := run.hid (Two.start (B := n + 2) (w1 := w1) (by rw [HSZ.out]; exact Nat.le_refl _) HB3.out HB4.out hb5 HOA.out hob)
      have HVA := run.hid HT0.out.vals.1
      have HVB := run.hid HT0.out.vals.2
      have hL0 := beyondT_len SL0 0 hA (by omega)
      have hL1 := beyondT_len SL1 0 hA2 (by omega)
      rw [HL0.out] at hL0
      rw [HL1.out] at hL1
      have HW := run.hid (fun X (h : Below (n + 2) w1 X) b (hb : b < n) => (h.block b (by omega)).trans (HBW.out.block b hb))
      have hfn0 := run.hid (fun i (hi : i < N0) => beyondT_fits SL0 0 hA (by omega) (SL0.getD i q0) (by rw [List.getD_eq_getElem?_getD, List.getElem?_eq_getElem (by rw [HL0.out]; exact hi)]; exact List.getElem_mem _))
      have hfn1 := run.hid (fun i (hi : i < N1) => beyondT_fits SL1 0 hA2 (by omega) (SL1.getD i q0) (by rw [List.getD_eq_getElem?_getD, List.getElem?_eq_getElem (by rw [HL1.out]; exact hi)]; exact List.getElem_mem _))
      have HST0 := run.hid (fun i (hi : i < N0) X (h : Two (n + 2) w1 va vb i i X) (hne : va ≠ .pointer none) => show ∃ b o, a0 = some ⟨b, o, none⟩ ∧ Cell13 X b (o + i * 13) (SL0.getD i q0) ∧ Calls Tryz.prog 6 #[va, .agg (SL0.getD i q0).cells] X (fun e w' => e = .returned (.bool true) ∧ Two (n + 2) w1 va vb (i + 1) i w') from by
        obtain ⟨b, o, e, hb, h13, hf⟩ := HS0.out i (by rw [HL0.out]; exact hi)
        exact ⟨b, o, e, h13.of (HW.out X h.be b (by omega)), h.step hne (by omega) _ (hf.below (by rw [hn]; exact HBW.out)) (by rw [← HSZ.out]; exact Nat.le_refl _) (hfn0.out i hi)⟩)
      have HST1 := run.hid (fun i (hi : i < N1) X (h : Two (n + 2) w1 va vb (i + 1) i X) (hne : vb ≠ .pointer none) => show ∃ b o, a1 = some ⟨b, o, none⟩ ∧ Cell13 X b (o + i * 13) (SL1.getD i q0) ∧ Calls Tryz.prog 6 #[vb, .agg (SL1.getD i q0).cells] X (fun e w' => e = .returned (.bool true) ∧ Two (n + 2) w1 va vb (i + 1) (i + 1) w') from by
        obtain ⟨b, o, e, hb, h13, hf⟩ := HS1.out i (by rw [HL1.out]; exact hi)
        exact ⟨b, o, e, h13.of (HW.out X h.be b (by omega)), (h.swap.step hne (by omega) _ (hf.below (by rw [hn]; exact HBW.out)) (by rw [← HSZ.out]; exact Nat.le_refl _) (hfn1.out i hi)).mono (fun e w' h2 => ⟨h2.1, h2.2.swap⟩)⟩)
      have HSZ2 := run.hid (show n ≤ n + 2 from by omega)
      have HEND := run.hid (fun X (h : Below (n + 2) w1 X) => HBW.out.trans (h.mono (by omega)))
      clear hb5 hob HOA HB4 HB3 g0 g1 g2 hA hA2 HB0 HB1 HS0 HS1 hfn0 hfn1 HW HK HBW HL0 HL1
      go_wp2
      go_loopw [9] (fun vi wr => ∃ i : Nat, (i ≤ N0 ∨ i ≤ N1) ∧ vi = .int .i64 i ∧ Hid (Two (n + 2) w1 va vb i i wr)) (fun vi _ => (((N0 + N1 : Nat) : Int) - intOf vi).toNat)
      case atStart => exact ⟨0, by omega, rfl, HT0⟩
      case round =>
        obtain ⟨i, hi, rfl, HT⟩ := hrel
        obtain ⟨⟨-, -, d2⟩, -, -, g2⟩ := HC.out _ HT.out.be
        by_cases hc : i < N0 ∨ i < N1
        · go_upto_region 8 with fail
          go_cut [45] (fun c X => c = .bool true ∧ X = wr)
          case first =>
            refine run.alone (by assumption) (by assumption) ?_
            go_light
            intro _ _ _ _
            by_cases h1 : i < N0
            · go_wp2
              go_meet
              case rel => exact ⟨rfl, rfl⟩
            · have h2 : i < N1 := by omega
              go_wp2
              go_meet
              case rel => exact ⟨rfl, rfl⟩
          obtain ⟨rfl, rfl⟩ := hcut
          go_upto_region 10 with fail
          go_cut [66] (fun c X => c = .bool false ∧ Hid (Two (n + 2) w1 va vb (i + 1) i X))
          case first =>
            refine run.alone (by assumption) (by assumption) ?_
            go_light
            intro _ _ _ _
            have HR0 := run.hid (HT.out.mono (Nat.le_succ i) (Nat.le_refl i))
            by_cases hlt : i < N0
            · rcases HVA.out with rfl | ⟨k, rfl⟩
              · clear HST0 HST1 HT0 HEND HC
                go_wp2
                go_meet
                case rel => exact ⟨rfl, HR0⟩
              · obtain ⟨b1, o1, rfl, h13, hst⟩ := HST0.out i hlt _ HT.out (by intro e; cases e)
                clear HST0 HST1 HT0 HEND HC HR0
                generalize SL0.getD i q0 = q at *
                obtain ⟨d, x, y, t, ⟨sf, sb, sa⟩, ⟨rx, ry, rw', rh⟩, qa, row, qc, by0⟩ := q
                obtain ⟨e0, e1, e2, e3, e4, e5, e6, e7, e8, e9, e10, e11, e12⟩ := h13
                dsimp only at e0 e1 e2 e3 e4 e5 e6 e7 e8 e9 e10 e11 e12
                unfold St.cells at hst
                dsimp only at hst
                generalize row.length = m at *
                have HDO := run.hid hst
                clear hst
                go_wp2_with fail
                refine HDO.out.mono ?_
                rintro e w6 ⟨rfl, hT5⟩
                have HR := run.hid hT5
                clear hT5 HDO e0 e1 e2 e3 e4 e5 e6 e7 e8 e9 e10 e11 e12
                go_wp2
                go_meet
                case rel => exact ⟨rfl, HR⟩
            · clear HST0 HST1 HT0 HEND HC
              go_wp2
              go_meet
              case rel => exact ⟨rfl, HR0⟩
          obtain ⟨rfl, HT1⟩ := hcut
          clear d2 g2
          obtain ⟨⟨-, -, d2⟩, -, -, g2⟩ := HC.out _ HT1.out.be
          go_upto_region 12 with fail
          go_cut [85] (fun c X => c = .bool false ∧ Hid (Two (n + 2) w1 va vb (i + 1) (i + 1) X))
          case first =>
            refine run.alone (by assumption) (by assumption) ?_
            go_light
            intro _ _ _ _
            have HR0 := run.hid (HT1.out.mono (Nat.le_refl _) (Nat.le_succ i))
            by_cases hlt : i < N1
            · rcases HVB.out with rfl | ⟨k, rfl⟩
              · clear HST0 HST1 HT0 HEND HC
                go_wp2
                go_meet
                case rel => exact ⟨rfl, HR0⟩
              · obtain ⟨b1, o1, rfl, h13, hst⟩ := HST1.out i hlt _ HT1.out (by intro e; cases e)
                clear HST0 HST1 HT0 HEND HC HR0
                generalize SL1.getD i q0 = q at *
                obtain ⟨d, x, y, t, ⟨sf, sb, sa⟩, ⟨rx, ry, rw', rh⟩, qa, row, qc, by0⟩ := q
                obtain ⟨e0, e1, e2, e3, e4, e5, e6, e7, e8, e9, e10, e11, e12⟩ := h13
                dsimp only at e0 e1 e2 e3 e4 e5 e6 e7 e8 e9 e10 e11 e12
                unfold St.cells at hst
                dsimp only at hst
                generalize row.length = m at *
                have HDO := run.hid hst
                clear hst
                go_wp2_with fail
                refine HDO.out.mono ?_
                rintro e w6 ⟨rfl, hT5⟩
                have HR := run.hid hT5
                clear hT5 HDO e0 e1 e2 e3 e4 e5 e6 e7 e8 e9 e10 e11 e12
                go_wp2
                go_meet
                case rel => exact ⟨rfl, HR⟩
            · clear HST0 HST1 HT0 HEND HC
              go_wp2
              go_meet
              case rel => exact ⟨rfl, HR0⟩
          obtain ⟨rfl, HT2⟩ := hcut
          clear d2 g2 HT HT1
          go_wp2
          go_roundw
          case rel => exact ⟨i + 1, by omega, by go_num, HT2⟩
          case measure => simp [intOf]; omega
        · clear HST0 HST1 HT0
          have h1 : ¬ i < N0 := by omega
          have h2 : ¬ i < N1 := by omega
          have hi2 : i ≤ 134217728 := by omega
          go_upto_region 8 with fail
          go_cut [45] (fun c X => c = .bool false ∧ X = wr)
          case first =>
            refine run.alone (by assumption) (by assumption) ?_
            go_light
            intro _ _ _ _
            go_wp2
            go_meet
            case rel => exact ⟨rfl, rfl⟩
          obtain ⟨rfl, rfl⟩ := hcut
          clear d2 g2
          go_upto_region 14 with fail
          go_cut [92] (fun c X => c = .bool false ∧ Hid (Two (n + 2) w1 (.pointer none) vb i i X))
          case first =>
            refine run.alone (by assumption) (by assumption) ?_
            go_light
            intro _ _ _ _
            rcases HVA.out with rfl | ⟨k, rfl⟩
            · go_wp2
              go_meet
              case rel => exact ⟨rfl, HT⟩
            · have HDO := run.hid (HT.out.end (by intro e; cases e) hi2)
              go_wp2_with fail
              refine HDO.out.mono ?_
              rintro e w6 ⟨rfl, hT5⟩
              have HR := run.hid hT5
              clear hT5 HDO
              go_wp2
              go_meet
              case rel => exact ⟨rfl, HR⟩
          obtain ⟨rfl, HT1⟩ := hcut
          clear HT
          go_upto_region 16 with fail
          have HW := run.hid (fun w => wakes_any w)
          rcases HVB.out with rfl | ⟨k, rfl⟩
          · go_wp2_with fail
            refine (HW.out _).mono ?_
            rintro e w6 ⟨rfl, h6⟩
            have HE := run.hid (HEND.out _ (HT1.out.be.trans (h6.mono (by have := HSZ.out; have := HT1.out.be.size; omega))))
            clear h6 HW HT1
            go_wp2
            go_ret
            exact ⟨rfl, by rw [hn]; exact HE.out⟩
          · have HDO := run.hid (HT1.out.swap.end (by intro e; cases e) hi2)
            go_wp2_with fail
            refine HDO.out.mono ?_
            rintro e w6 ⟨rfl, hT5⟩
            have HT2 := run.hid hT5
            clear hT5 HDO HT1
            go_wp2_with fail
            refine (HW.out _).mono ?_
            rintro e w7 ⟨rfl, h7⟩
            have HE := run.hid (HEND.out _ (HT2.out.be.trans (h7.mono (by have := HSZ.out; have := HT2.out.be.size; omega))))
            clear h7 HW HT2
            go_wp2
            go_ret
            exact ⟨rfl, by rw [hn]; exact HE.out⟩
end Go.Proofs.YtdgcfmfjgidbjaaGreat.cel
