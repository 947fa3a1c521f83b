/-
  The walk of the law WidthRanges, its own body.
-/
import Derived.Test.YtmgammodbpjnbaaWidLawRan
namespace Go.Proofs.Ytmgammodbpjnbaa.wid
open Go.RowKit Go.Proofs
set_option linter.unusedVariables false

structure Six (b : Nat) (vW vM vA vB vD vE : Value) (n k : Nat) (L K LA LD : List (Int × Int)) (w : World) : Prop where
  oW : w.ownsRow b E2 2 vW n (flat L)
  oM : w.ownsRow b E2 2 vM k (flat K)
  oA : w.ownsRow b E2 2 vA n (flat LA)
  oB : w.ownsRow b E2 2 vB n (flat L)
  oD : w.ownsRow b E2 2 vD k (flat LD)
  oE : w.ownsRow b E2 2 vE n (flat L)
  aW : ∀ g, vW.ownBlock = some g → vA.ownBlock ≠ some g
  aM : ∀ g, vM.ownBlock = some g → vA.ownBlock ≠ some g
  aB : ∀ g, vB.ownBlock = some g → vA.ownBlock ≠ some g
  aD : ∀ g, vD.ownBlock = some g → vA.ownBlock ≠ some g
  aE : ∀ g, vE.ownBlock = some g → vA.ownBlock ≠ some g
  dW : ∀ g, vW.ownBlock = some g → vD.ownBlock ≠ some g
  dM : ∀ g, vM.ownBlock = some g → vD.ownBlock ≠ some g
  dB : ∀ g, vB.ownBlock = some g → vD.ownBlock ≠ some g
  dE : ∀ g, vE.ownBlock = some g → vD.ownBlock ≠ some g
section
variable {b : Nat} {vW vM vA vB vD vE : Value} {n k : Nat} {L K LA LD LA' LD' : List (Int × Int)} {w w' : World}
theorem Six.below (h : Six b vW vM vA vB vD vE n k L K LA LD w) (hb : Below w.heap.size w w') : Six b vW vM vA vB vD vE n k L K LA LD w' :=
  ⟨run.own_below h.oW hb, run.own_below h.oM hb, run.own_below h.oA hb, run.own_below h.oB hb, run.own_below h.oD hb, run.own_below h.oE hb, h.aW, h.aM, h.aB, h.aD, h.aE, h.dW, h.dM, h.dB, h.dE⟩
theorem Six.turnA (h : Six b vW vM vA vB vD vE n k L K LA LD w) (ho : w'.ownsRow b E2 2 vA n (flat LA')) (hg : w.grownBy w' vA.ownBlock) : Six b vW vM vA vB vD vE n k L K LA' LD w' :=
  ⟨own_kept h.oW hg h.aW, own_kept h.oM hg h.aM, ho, own_kept h.oB hg h.aB, own_kept h.oD hg h.aD, own_kept h.oE hg h.aE, h.aW, h.aM, h.aB, h.aD, h.aE, h.dW, h.dM, h.dB, h.dE⟩
theorem Six.turnD (h : Six b vW vM vA vB vD vE n k L K LA LD w) (ho : w'.ownsRow b E2 2 vD k (flat LD')) (hg : w.grownBy w' vD.ownBlock) : Six b vW vM vA vB vD vE n k L K LA LD' w' :=
  ⟨own_kept h.oW hg h.dW, own_kept h.oM hg h.dM, own_kept h.oA hg (fun g h1 h2 => h.aD g h2 h1), own_kept h.oB hg h.dB, ho, own_kept h.oE hg h.dE, h.aW, h.aM, h.aB, h.aD, h.aE, h.dW, h.dM, h.dB, h.dE⟩
end
theorem below_grown {b : Nat} {w0 w w' : World} {v : Value} {n : Nat} {xs : List Value} (h : Below b w0 w) (ho : w.ownsRow b E2 2 v n xs) (hg : w.grownBy w' v.ownBlock) (hs : b ≤ w0.heap.size) : Below b w0 w' :=
  h.grown hg (Nat.le_trans hs h.size) fun g hg => (ho.lt g hg).1
theorem apart_step {w : World} {v v' vD : Value} {n n' b k : Nat} {xs : List Value} (hs : run.Step w v n v' n') (hD : w.ownsRow b E2 2 vD k xs) (h : ∀ g, v.ownBlock = some g → vD.ownBlock ≠ some g) : ∀ g, v'.ownBlock = some g → vD.ownBlock ≠ some g := by
  intro g h1 h2
  rcases hs with ⟨g', cap, rfl, rfl⟩ | hs
  · exact h g h1 h2
  · have a1 := hs g h1
    have a2 := (hD.lt g h2).2
    omega

set_option maxRecDepth 100000 in
set_option maxHeartbeats 8000000 in
theorem lawRanges_any (c o : Int) (hc : -128 ≤ c ∧ c ≤ 127) (ho : -128 ≤ o ∧ o ≤ 127) (w : World) : Calls Try.prog 4 #[.int .i8 c, .int .i8 o] w fun e w' => e = .returned (.bool true) ∧ Below w.heap.size w w' := by
  have HRC := run.hid (fun w' => refRanges_any c hc w')
  have HRO := run.hid (fun w' => refRanges_any o ho w')
  have HC := run.hid (fun w' => ranges_any c hc w')
  have HO := run.hid (fun w' => ranges_any o ho w')
  have hn := ranges_len c
  have hk := ranges_len o
  generalize rangesT c = L at *
  generalize rangesT o = K at *
  obtain ⟨n, hn'⟩ : ∃ n, n = L.length := ⟨_, rfl⟩
  obtain ⟨k, hk'⟩ : ∃ k, k = K.length := ⟨_, rfl⟩
  rw [← hn'] at hn HC HRC
  rw [← hk'] at hk HO HRO
  have HN := run.hid hn'
  have HK := run.hid hk'
  clear hn' hk' hc ho
  go_enter Try.func4, Try.ntmps4
  go_wp2_with fail
  refine (HRC.out _).mono ?_
  rintro e w1 ⟨vW, rfl, oW, hb1⟩
  have OW := run.hid oW
  have B1 := run.hid hb1
  clear oW hb1
  go_wp2_with fail
  refine (HRO.out _).mono ?_
  rintro e w2 ⟨vM, rfl, oM, hb2⟩
  have OM := run.hid oM
  have OW2 := run.hid (run.own_below OW.out hb2)
  have B2 := run.hid (B1.out.trans (hb2.mono B1.out.size))
  clear oM hb2
  go_wp2_with fail
  refine (HC.out _).mono ?_
  rintro e w3 ⟨vA, rfl, oA, hb3⟩
  have OA := run.hid oA
  have OW3 := run.hid (run.own_below OW2.out hb3)
  have OM3 := run.hid (run.own_below OM.out hb3)
  have B3 := run.hid (B2.out.trans (hb3.mono B2.out.size))
  clear oA hb3
  go_wp2_with fail
  refine (HC.out _).mono ?_
  rintro e w4 ⟨vB, rfl, oB, hb4⟩
  have OB := run.hid oB
  have OW4 := run.hid (run.own_below OW3.out hb4)
  have OM4 := run.hid (run.own_below OM3.out hb4)
  have OA4 := run.hid (run.own_below OA.out hb4)
  have B4 := run.hid (B3.out.trans (hb4.mono B3.out.size))
  clear oB hb4
  go_wp2_with fail
  refine (HO.out _).mono ?_
  rintro e w5 ⟨vD, rfl, oD, hb5⟩
  have OD := run.hid oD
  have OW5 := run.hid (run.own_below OW4.out hb5)
  have OM5 := run.hid (run.own_below OM4.out hb5)
  have OA5 := run.hid (run.own_below OA4.out hb5)
  have OB5 := run.hid (run.own_below OB.out hb5)
  have B5 := run.hid (B4.out.trans (hb5.mono B4.out.size))
  clear oD hb5
  go_wp2_with fail
  refine (HC.out _).mono ?_
  rintro e w6 ⟨vE, rfl, oE, hb6⟩
  have B6 := run.hid (B5.out.trans (hb6.mono B5.out.size))
  have s0 := B1.out.size
  have s1 := B2.out.size
  have s2 := B3.out.size
  have s3 := B4.out.size
  have s4 := B5.out.size
  have S6 : Hid (Six w.heap.size vW vM vA vB vD vE n k L K L K w6) := by
    refine ⟨run.own_mono (run.own_below OW5.out hb6) (Nat.le_refl _), run.own_mono (run.own_below OM5.out hb6) s0, run.own_mono (run.own_below OA5.out hb6) s1, run.own_mono (run.own_below OB5.out hb6) s2, run.own_mono (run.own_below OD.out hb6) s3, run.own_mono oE s4, ?_, ?_, ?_, ?_, ?_, ?_, ?_, ?_, ?_⟩
    · intro g h1 h2; exact apart_base OW2.out OA.out (Nat.le_refl _) g h2 h1
    · intro g h1 h2; exact apart_base OM.out OA.out (Nat.le_refl _) g h2 h1
    · exact apart_base OA.out OB.out (Nat.le_refl _)
    · exact apart_base OA4.out OD.out (Nat.le_refl _)
    · exact apart_base OA5.out oE (Nat.le_refl _)
    · intro g h1 h2; exact apart_base OW4.out OD.out (Nat.le_refl _) g h2 h1
    · intro g h1 h2; exact apart_base OM4.out OD.out (Nat.le_refl _) g h2 h1
    · intro g h1 h2; exact apart_base OB.out OD.out (Nat.le_refl _) g h2 h1
    · exact apart_base OD.out oE (Nat.le_refl _)
  clear oE hb6 OW OW2 OW3 OW4 OW5 OM OM3 OM4 OM5 OA OA4 OA5 OB OB5 OD B1 B2 B3 B4 B5 s0 s1 s2 s3 s4 HRC HRO
  have HSM := run.hid (fun l m va vb w' ha hb hm => same_eq l m va vb w' ha hb hm)
  have HMK := run.hid (fun m nn v w' h hm => marked_any m nn v w' h hm)
  -- the first comparisons
  go_wp2_with fail
  refine (HSM.out L n vA vW w6 (run.readsN_own S6.out.oA) (run.readsN_own S6.out.oW) (by omega)).mono ?_
  rintro e w7 ⟨rfl, hb⟩
  have S7 := run.hid (S6.out.below hb)
  have B7 := run.hid (B6.out.trans (hb.mono B6.out.size))
  clear hb S6 B6
  go_wp2_with fail
  refine (HSM.out L n vB vW w7 (run.readsN_own S7.out.oB) (run.readsN_own S7.out.oW) (by omega)).mono ?_
  rintro e w8 ⟨rfl, hb⟩
  have S8 := run.hid (S7.out.below hb)
  have B8 := run.hid (B7.out.trans (hb.mono B7.out.size))
  clear hb S7 B7
  go_wp2_with fail
  refine (HSM.out K k vD vM w8 (run.readsN_own S8.out.oD) (run.readsN_own S8.out.oM) (by omega)).mono ?_
  rintro e w9 ⟨rfl, hb⟩
  have S9 := run.hid (S8.out.below hb)
  have B9 := run.hid (B8.out.trans (hb.mono B8.out.size))
  clear hb S8 B8
  go_wp2_with fail
  refine (HSM.out L n vE vW w9 (run.readsN_own S9.out.oE) (run.readsN_own S9.out.oW) (by omega)).mono ?_
  rintro e w10 ⟨rfl, hb⟩
  have S10 := run.hid (S9.out.below hb)
  have B10 := run.hid (B9.out.trans (hb.mono B9.out.size))
  clear hb S9 B9
  go_wp2_with fail
  refine (works_any _).mono ?_
  rintro e w11 ⟨rfl, hb⟩
  have S11 := run.hid (S10.out.below hb)
  have B11 := run.hid (B10.out.trans (hb.mono B10.out.size))
  clear hb S10 B10
  -- written over
  go_wp2_with fail
  refine (spoil_any (-1) w.heap.size n vA L w11 S11.out.oA (by omega)).mono ?_
  rintro e w12 ⟨rfl, hown, hg⟩
  have S12 := run.hid (S11.out.turnA hown hg)
  have B12 := run.hid (below_grown B11.out S11.out.oA hg (Nat.le_refl _))
  clear hown hg S11 B11
  go_wp2_with fail
  refine (spoil_any (-2) w.heap.size k vD K w12 S12.out.oD (by omega)).mono ?_
  rintro e w13 ⟨rfl, hown, hg⟩
  have S13 := run.hid (S12.out.turnD hown hg)
  have B13 := run.hid (below_grown B12.out S12.out.oD hg (Nat.le_refl _))
  clear hown hg S12 B12
  go_wp2_with fail
  refine (grown_any (-1) w.heap.size n vA (reps n (-1)) w13 S13.out.oA (by omega) B13.out.size).mono ?_
  rintro e w14 ⟨vX, rfl, hG⟩
  have S14 := run.hid (S13.out.turnA hG.old hG.grown)
  have B14 := run.hid (below_grown B13.out S13.out.oA hG.grown (Nat.le_refl _))
  have hx := hG.new
  rw [← flat_app, reps_add] at hx
  have X14 := run.hid hx
  have AX := run.hid (apart_step hG.step S13.out.oD (fun g h1 h2 => S13.out.aD g h2 h1))
  clear hG hx S13 B13
  go_wp2_with fail
  refine (grown_any (-2) w.heap.size k vD (reps k (-2)) w14 S14.out.oD (by omega) B14.out.size).mono ?_
  rintro e w15 ⟨vY, rfl, hG⟩
  have S15 := run.hid (S14.out.turnD hG.old hG.grown)
  have B15 := run.hid (below_grown B14.out S14.out.oD hG.grown (Nat.le_refl _))
  have X15 := run.hid (own_kept X14.out hG.grown AX.out)
  have hx := hG.new
  rw [← flat_app, reps_add] at hx
  have Y15 := run.hid hx
  clear hG hx S14 B14 X14 AX
  -- each has its own marks
  go_wp2_with fail
  refine (HMK.out (-1) (n + 70) vX w15 (run.readsN_own X15.out) (by omega)).mono ?_
  rintro e w16 ⟨rfl, hb⟩
  have S16 := run.hid (S15.out.below hb)
  have Y16 := run.hid (run.own_below Y15.out hb)
  have B16 := run.hid (B15.out.trans (hb.mono B15.out.size))
  clear hb S15 B15 X15 Y15
  go_wp2_with fail
  refine (HMK.out (-2) (k + 70) vY w16 (run.readsN_own Y16.out) (by omega)).mono ?_
  rintro e w17 ⟨rfl, hb⟩
  have S17 := run.hid (S16.out.below hb)
  have B17 := run.hid (B16.out.trans (hb.mono B16.out.size))
  clear hb S16 B16 Y16
  go_wp2_with fail
  refine (HMK.out (-1) n vA w17 (run.readsN_own S17.out.oA) (by omega)).mono ?_
  rintro e w18 ⟨rfl, hb⟩
  have S18 := run.hid (S17.out.below hb)
  have B18 := run.hid (B17.out.trans (hb.mono B17.out.size))
  clear hb S17 B17
  go_wp2_with fail
  refine (HMK.out (-2) k vD w18 (run.readsN_own S18.out.oD) (by omega)).mono ?_
  rintro e w19 ⟨rfl, hb⟩
  have S19 := run.hid (S18.out.below hb)
  have B19 := run.hid (B18.out.trans (hb.mono B18.out.size))
  clear hb S18 B18
  go_wp2_with fail
  refine (HSM.out L n vB vW w19 (run.readsN_own S19.out.oB) (run.readsN_own S19.out.oW) (by omega)).mono ?_
  rintro e w20 ⟨rfl, hb⟩
  have S20 := run.hid (S19.out.below hb)
  have B20 := run.hid (B19.out.trans (hb.mono B19.out.size))
  clear hb S19 B19
  go_wp2_with fail
  refine (HSM.out L n vE vW w20 (run.readsN_own S20.out.oE) (run.readsN_own S20.out.oW) (by omega)).mono ?_
  rintro e w21 ⟨rfl, hb⟩
  have S21 := run.hid (S20.out.below hb)
  have B21 := run.hid (B20.out.trans (hb.mono B20.out.size))
  clear hb S20 B20
  -- once more
  go_wp2_with fail
  refine (HC.out _).mono ?_
  rintro e w22 ⟨vF, rfl, oF, hb⟩
  have OF := run.hid oF
  have S22 := run.hid (S21.out.below hb)
  have B22 := run.hid (B21.out.trans (hb.mono B21.out.size))
  clear oF hb S21 B21
  go_wp2_with fail
  refine (HSM.out L n vF vW w22 (run.readsN_own OF.out) (run.readsN_own S22.out.oW) (by omega)).mono ?_
  rintro e w23 ⟨rfl, hb⟩
  have S23 := run.hid (S22.out.below hb)
  have B23 := run.hid (B22.out.trans (hb.mono B22.out.size))
  clear hb S22 B22 OF
  go_wp2_with fail
  refine (HO.out _).mono ?_
  rintro e w24 ⟨vG, rfl, oG, hb⟩
  have OG := run.hid oG
  have S24 := run.hid (S23.out.below hb)
  have B24 := run.hid (B23.out.trans (hb.mono B23.out.size))
  clear oG hb S23 B23
  go_wp2_with fail
  refine (HSM.out K k vG vM w24 (run.readsN_own OG.out) (run.readsN_own S24.out.oM) (by omega)).mono ?_
  rintro e w25 ⟨rfl, hb⟩
  have B25 := run.hid (B24.out.trans (hb.mono B24.out.size))
  clear hb S24 B24 OG
  go_wp2
  go_ret
  exact ⟨rfl, B25.out⟩
theorem lawRanges_w (c o : Int) (w : World) (hc : (Lit.int .i8 c).wf = true) (ho : (Lit.int .i8 o).wf = true) : Calls Try.prog 4 #[.int .i8 c, .int .i8 o] w fun e w' => e = .returned (.bool true) ∧ Below w.heap.size w w' :=
  lawRanges_any c o (by simpa [Lit.wf, IntKind.min, IntKind.max, IntKind.signed, IntKind.bits] using hc) (by simpa [Lit.wf, IntKind.min, IntKind.max, IntKind.signed, IntKind.bits] using ho) w
end Go.Proofs.Ytmgammodbpjnbaa.wid
