/-
  The walks of layer width: what every statement asks first; the stretches of a class that is told.
-/
import Derived.Test.YtmgammodbpjnbaaWidCells
namespace Go.Proofs.Ytmgammodbpjnbaa.wid
open Go.RowKit Go.Proofs
set_option linter.unusedVariables false

set_option maxHeartbeats 400000 in
theorem ranges_told (c : Nat) (h : c ≤ 8) (w : World) : Calls Try.prog 18 #[.int .i8 c] w fun e w' => e = .returned (.slice (some ⟨w.heap.size, 0, none⟩) (tab c).length (tab c).length) ∧ w' = w.alloc (.cells (flat (tab c)).toArray 53) := by
  have HT := run.hid (told_any c h w)
  unfold Told at HT
  have h9 : ((c : Int) == 9) = false := by simp; omega
  go_enter Try.func18, Try.ntmps18
  go_wp2_with fail
  refine HT.out.mono ?_
  rintro e w1 ⟨rfl, rfl⟩
  go_wp2
  go_ret
  exact ⟨rfl, rfl⟩

theorem k1 : kind 65 = 9 := by decide
theorem k2 : kind 19968 = 7 := by decide
theorem k3 : kind 769 = 2 := by decide
theorem c1 : cellsAt 65 = 1 := by decide
theorem c2 : cellsAt 19968 = 2 := by decide
theorem c3 : cellsAt 769 = 0 := by decide

set_option maxRecDepth 100000 in
set_option maxHeartbeats 2000000 in
theorem works_any (w : World) : Calls Try.prog 20 #[] w fun e w' => e = .returned (.bool true) ∧ Below w.heap.size w w' := by
  have K1 := run.hid (fun w => kind_any 65 w)
  have K2 := run.hid (fun w => kind_any 19968 w)
  have K3 := run.hid (fun w => kind_any 769 w)
  have C1 := run.hid (fun w => of_any 65 w)
  have C2 := run.hid (fun w => of_any 19968 w)
  have C3 := run.hid (fun w => of_any 769 w)
  rw [k1] at K1
  rw [k2] at K2
  rw [k3] at K3
  rw [c1] at C1
  rw [c2] at C2
  rw [c3] at C3
  have R3 := run.hid (fun w => ranges_told 3 (by decide) w)
  go_enter Try.func20, Try.ntmps20
  go_wp2_with fail
  refine (K1.out _).mono ?_
  rintro e w1 ⟨rfl, hb1⟩
  go_wp2_with fail
  refine (C1.out _).mono ?_
  rintro e w2 ⟨rfl, hb2⟩
  have hB := hb1.trans (hb2.mono hb1.size)
  go_wp2_with fail
  refine (K2.out _).mono ?_
  rintro e w3 ⟨rfl, hb3⟩
  replace hB := hB.trans (hb3.mono hB.size)
  go_wp2_with fail
  refine (C2.out _).mono ?_
  rintro e w4 ⟨rfl, hb4⟩
  replace hB := hB.trans (hb4.mono hB.size)
  go_wp2_with fail
  refine (K3.out _).mono ?_
  rintro e w5 ⟨rfl, hb5⟩
  replace hB := hB.trans (hb5.mono hB.size)
  go_wp2_with fail
  refine (C3.out _).mono ?_
  rintro e w6 ⟨rfl, hb6⟩
  replace hB := hB.trans (hb6.mono hB.size)
  clear K1 K2 K3 C1 C2 C3 hb1 hb2 hb3 hb4 hb5 hb6
  go_wp2_with fail
  refine (R3.out _).mono ?_
  rintro e w7 ⟨rfl, rfl⟩
  replace hB := hB.alloc hB.size (.cells (flat (tab 3)).toArray 53)
  go_wp2
  go_ret
  exact ⟨rfl, hB⟩

set_option maxHeartbeats 400000 in
theorem lawNames_any (w : World) : Calls Try.prog 8 #[] w fun e w' => e = .returned (.bool true) ∧ Below w.heap.size w w' := by
  go_enter Try.func8, Try.ntmps8
  go_wp2_with fail
  refine (works_any _).mono ?_
  rintro e w1 ⟨rfl, hb1⟩
  go_wp2
  go_ret
  exact ⟨rfl, hb1⟩

end Go.Proofs.Ytmgammodbpjnbaa.wid
