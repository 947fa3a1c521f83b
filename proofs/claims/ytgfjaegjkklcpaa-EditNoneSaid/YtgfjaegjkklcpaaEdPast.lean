/-
  The editor's ways: past, as plain functions, and walked.
-/
import Derived.Test.YtgfjaegjkklcpaaEdAt
import Derived.Deep.DeepCutAuto
import Derived.WalkKit
namespace Go.Proofs.Ytgfjaegjkklcpaa.ed
open Go Go.RowKit Go.Proofs
set_option linter.unusedVariables false
/-- is there a blank at a place? -/
def blankAt (F : List TV) (i : Nat) : Bool := decide ((F.getD i tv0).1 = wrp.sp)
def pastL (F : List TV) (bl : Bool) : Nat → Nat
  | 0 => 0
  | c + 1 => if blankAt F c = bl then pastL F bl c else c + 1
def pastR (F : List TV) (bl : Bool) : Nat → Nat → Nat
  | 0, c => c
  | f + 1, c => if blankAt F c = bl then pastR F bl f (c + 1) else c
theorem pastL_le (F : List TV) (bl : Bool) : ∀ c, pastL F bl c ≤ c
  | 0 => Nat.le_refl _
  | c + 1 => by
    simp only [pastL]
    split
    · have := pastL_le F bl c; omega
    · omega
theorem pastR_le (F : List TV) (bl : Bool) : ∀ f c, c ≤ pastR F bl f c ∧ pastR F bl f c ≤ c + f
  | 0, c => by simp [pastR]
  | f + 1, c => by
    simp only [pastR]
    split
    · have := pastR_le F bl f (c + 1); omega
    · omega
theorem Ed.below {b g lb : Nat} {F : List TV} {ca an : Int} {sv : Value} {dn : Int} {w w' : World} (h : Ed b g lb F ca an sv dn w) (hb : Below w.heap.size w w') : Ed b g lb F ca an sv dn w' :=
  h.kept (Kept.of_below (S := fun _ => False) hb) (fun h => h) (fun h => h) (fun h => h)
theorem toList_sp (q : ByteArray) : (q.toList == [32]) = decide (q = wrp.sp) := wrp.sp_eq q
set_option maxRecDepth 100000 in
set_option maxHeartbeats 4000000 in
theorem past_left {b g lb : Nat} {F : List TV} {ca an : Int} {sv : Value} {dn : Int} {w : World} (h : Ed b g lb F ca an sv dn w) (bl : Bool) (c : Nat) (hc : c ≤ F.length) (hF : F.length ≤ 1048576) :
    Calls Try.prog 71 #[.pointer (some ⟨b, 0, none⟩), .int .i64 (c : Nat), .int .i64 (-1), .bool bl] w fun e w' => e = .returned (.int .i64 (pastL F bl c : Nat)) ∧ Below w.heap.size w w' := by
  have HAT := run.hid (fun (X : World) (hX : Below w.heap.size w X) (i : Int) => at_any (h.below hX).gap i)
  have hblt := (Array.getElem?_eq_some_iff.1 h.box).1
  have c0 := blk_cell h.box 0
  change w.cell? _ = some (.pointer (some ⟨g, 0, none⟩)) at c0
  unfold AtIs at HAT
  have HP := run.hid (show (∀ k, pastL F bl (k + 1) = if blankAt F k = bl then pastL F bl k else k + 1) ∧ pastL F bl 0 = 0 from ⟨fun _ => rfl, rfl⟩)
  have HBL := run.hid (show ∀ k, blankAt F k = decide ((F.getD k tv0).1 = wrp.sp) from fun _ => rfl)
  clear h
  generalize hN : F.length = N at *
  generalize hdt : (fun k => F.getD k tv0) = dt at *
  have hdk : ∀ k, F.getD k tv0 = dt k := fun k => by rw [← hdt]
  simp only [hdk] at HAT HBL
  generalize pastL F bl = pl at *
  generalize blankAt F = ba at *
  clear hdt hdk hN
  go_enter Try.func71, Try.ntmps71
  go_wp2
  go_loopw [1] (fun vc wr => ∃ k : Nat, k ≤ N ∧ vc = .int .i64 k ∧ pl k = pl c ∧ Below w.heap.size w wr) (fun vc _ => (intOf vc).toNat)
  case atStart => exact ⟨c, hc, rfl, rfl, Below.refl _ _⟩
  case round =>
    obtain ⟨k, hk, rfl, hpl, hbel⟩ := hrel
    have x0 := (hbel.cell (p := ⟨b, 0, none⟩) hblt).trans c0
    cases k with
    | zero =>
      have HA := run.hid (HAT.out wr hbel (-1))
      have HB := run.hid hbel
      have HPL := run.hid (hpl.symm.trans HP.out.2)
      clear HAT HBL hbel HP hpl
      go_wp2_with fail
      refine HA.out.mono ?_
      rintro e w2 ⟨hb2, ⟨k, hk, -, -⟩ | ⟨-, rfl⟩⟩
      · omega
      · have HF := run.hid (HB.out.trans (hb2.mono HB.out.size))
        clear HA HB hb2 x0
        go_wp2
        go_ret
        exact ⟨by rw [HPL.out]; rfl, (HF.out.alloc HF.out.size _)⟩
    | succ k =>
      have HA := run.hid (HAT.out wr hbel k)
      have HB := run.hid hbel
      have hpk := HP.out.1 k
      rw [HBL.out k] at hpk
      have HPK := run.hid (hpl.symm.trans hpk)
      clear HAT HBL hbel HP hpl hpk
      go_wp2_with fail
      refine HA.out.mono ?_
      rintro e w2 ⟨hb2, ⟨k2, hk2, -, rfl⟩ | ⟨hno, -⟩⟩
      · obtain rfl : k = k2 := by omega
        have hbb := HB.out.trans (hb2.mono HB.out.size)
        have hpk := HPK.out
        clear HA HB hb2 x0 HPK hk2
        generalize dt k = q at *
        obtain ⟨qt, qw⟩ := q
        dsimp only at hpk ⊢
        have hcmp := toList_sp qt
        have hb3 := hbb.alloc hbb.size (.cells #[.string qt, .int .i64 (qw : Nat)] 73)
        by_cases hq : decide (qt = wrp.sp) = bl
        · rw [if_pos hq] at hpk
          rw [hq] at hcmp
          have HF := run.hid (And.intro hpk hb3)
          clear hpk hb3 hq hbb
          cases bl
          · go_wp2
            go_roundw
            case rel => exact ⟨k, by omega, by go_num, HF.out.1.symm, HF.out.2⟩
            case measure => simp [intOf]; omega
          · go_wp2
            go_roundw
            case rel => exact ⟨k, by omega, by go_num, HF.out.1.symm, HF.out.2⟩
            case measure => simp [intOf]; omega
        · rw [if_neg hq] at hpk
          have hq2 : decide (qt = wrp.sp) = !bl := by cases bl <;> cases h : decide (qt = wrp.sp) <;> simp_all
          rw [hq2] at hcmp
          have HF := run.hid (And.intro hpk hb3)
          clear hpk hb3 hq hbb hq2
          cases bl
          · go_wp2
            go_ret
            exact ⟨by rw [HF.out.1]; go_num, HF.out.2⟩
          · go_wp2
            go_ret
            exact ⟨by rw [HF.out.1]; go_num, HF.out.2⟩
      · omega
set_option maxRecDepth 100000 in
set_option maxHeartbeats 4000000 in
theorem past_right {b g lb : Nat} {F : List TV} {ca an : Int} {sv : Value} {dn : Int} {w : World} (h : Ed b g lb F ca an sv dn w) (bl : Bool) (c : Nat) (hc : c ≤ F.length) (hF : F.length ≤ 1048576) :
    Calls Try.prog 71 #[.pointer (some ⟨b, 0, none⟩), .int .i64 (c : Nat), .int .i64 1, .bool bl] w fun e w' => e = .returned (.int .i64 (pastR F bl (F.length - c) c : Nat)) ∧ Below w.heap.size w w' := by
  have HAT := run.hid (fun (X : World) (hX : Below w.heap.size w X) (i : Int) => at_any (h.below hX).gap i)
  have hblt := (Array.getElem?_eq_some_iff.1 h.box).1
  have c0 := blk_cell h.box 0
  change w.cell? _ = some (.pointer (some ⟨g, 0, none⟩)) at c0
  unfold AtIs at HAT
  obtain ⟨pl, hpl⟩ : ∃ pl : Nat → Nat, pl = fun k => pastR F bl (F.length - k) k := ⟨_, rfl⟩
  have HP := run.hid (show (∀ k, k < F.length → pl k = if blankAt F k = bl then pl (k + 1) else k) ∧ pl F.length = F.length from by
    rw [hpl]
    refine ⟨fun k hk => ?_, ?_⟩
    · show pastR F bl (F.length - k) k = if blankAt F k = bl then pastR F bl (F.length - (k + 1)) (k + 1) else k
      rw [show F.length - k = (F.length - (k + 1)) + 1 by omega]
      rfl
    · show pastR F bl (F.length - F.length) F.length = F.length
      rw [Nat.sub_self]
      rfl)
  rw [show pastR F bl (F.length - c) c = pl c from by rw [hpl]]
  clear hpl
  have HBL := run.hid (show ∀ k, blankAt F k = decide ((F.getD k tv0).1 = wrp.sp) from fun _ => rfl)
  clear h
  generalize hN : F.length = N at *
  generalize hdt : (fun k => F.getD k tv0) = dt at *
  have hdk : ∀ k, F.getD k tv0 = dt k := fun k => by rw [← hdt]
  simp only [hdk] at HAT HBL
  generalize blankAt F = ba at *
  clear hdt hdk hN
  go_enter Try.func71, Try.ntmps71
  go_wp2
  go_loopw [1] (fun vc wr => ∃ k : Nat, k ≤ N ∧ vc = .int .i64 k ∧ pl k = pl c ∧ Below w.heap.size w wr) (fun vc _ => ((N : Int) - intOf vc).toNat)
  case atStart => exact ⟨c, hc, rfl, rfl, Below.refl _ _⟩
  case round =>
    obtain ⟨k, hk, rfl, hpl, hbel⟩ := hrel
    have x0 := (hbel.cell (p := ⟨b, 0, none⟩) hblt).trans c0
    by_cases hkN : k < N
    · have HA := run.hid (HAT.out wr hbel k)
      have HB := run.hid hbel
      have hpk := HP.out.1 k hkN
      rw [HBL.out k] at hpk
      have HPK := run.hid (hpl.symm.trans hpk)
      clear HAT HBL hbel HP hpl hpk
      go_wp2_with fail
      refine HA.out.mono ?_
      rintro e w2 ⟨hb2, ⟨k2, hk2, -, rfl⟩ | ⟨hno, -⟩⟩
      · obtain rfl : k = k2 := by omega
        have hbb := HB.out.trans (hb2.mono HB.out.size)
        have hpk := HPK.out
        clear HA HB hb2 x0 HPK hk2
        generalize dt k = q at *
        obtain ⟨qt, qw⟩ := q
        dsimp only at hpk ⊢
        have hcmp := toList_sp qt
        have hb3 := hbb.alloc hbb.size (.cells #[.string qt, .int .i64 (qw : Nat)] 73)
        by_cases hq : decide (qt = wrp.sp) = bl
        · rw [if_pos hq] at hpk
          rw [hq] at hcmp
          have HF := run.hid (And.intro hpk hb3)
          clear hpk hb3 hq hbb
          cases bl
          · go_wp2
            go_roundw
            case rel => exact ⟨k + 1, by omega, by go_num, HF.out.1.symm, HF.out.2⟩
            case measure => simp [intOf]; omega
          · go_wp2
            go_roundw
            case rel => exact ⟨k + 1, by omega, by go_num, HF.out.1.symm, HF.out.2⟩
            case measure => simp [intOf]; omega
        · rw [if_neg hq] at hpk
          have hq2 : decide (qt = wrp.sp) = !bl := by cases bl <;> cases h : decide (qt = wrp.sp) <;> simp_all
          rw [hq2] at hcmp
          have HF := run.hid (And.intro hpk hb3)
          clear hpk hb3 hq hbb hq2
          cases bl
          · go_wp2
            go_ret
            exact ⟨by rw [HF.out.1]; go_num, HF.out.2⟩
          · go_wp2
            go_ret
            exact ⟨by rw [HF.out.1]; go_num, HF.out.2⟩
      · omega
    · obtain rfl : k = N := by omega
      have HA := run.hid (HAT.out wr hbel k)
      have HB := run.hid hbel
      have HPL := run.hid (hpl.symm.trans HP.out.2)
      clear HAT HBL hbel HP hpl
      go_wp2_with fail
      refine HA.out.mono ?_
      rintro e w2 ⟨hb2, ⟨k2, hk2, hk3, -⟩ | ⟨-, rfl⟩⟩
      · omega
      · have HF := run.hid (HB.out.trans (hb2.mono HB.out.size))
        clear HA HB hb2 x0
        go_wp2
        go_ret
        exact ⟨by rw [HPL.out]; rfl, (HF.out.alloc HF.out.size _)⟩
end Go.Proofs.Ytgfjaegjkklcpaa.ed
