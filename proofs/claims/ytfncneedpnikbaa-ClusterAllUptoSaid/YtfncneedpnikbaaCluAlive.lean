/-
  The walks of the layer cluster: what every law of the layer asks.
-/
import Derived.Test.YtfncneedpnikbaaCluJoins
namespace Go.Proofs.Ytfncneedpnikbaa.clu
open Go.RowKit Go.Proofs
open Go.Proofs.Ytfncneedpnikbaa.wid Go.Proofs.Ytfncneedpnikbaa.utf
set_option linter.unusedVariables false

theorem t1 : told ⟨#[97, 98]⟩ = [(⟨#[97]⟩, 1), (⟨#[98]⟩, 1)] := by decide +kernel
theorem t2 : told ⟨#[97, 204, 129]⟩ = [(⟨#[97, 204, 129]⟩, 1)] := by decide +kernel
theorem t3 : (cl (runes (bs ⟨#[228, 184, 173]⟩))).length = 1 ∧ str (text (runes (bs ⟨#[228, 184, 173]⟩))) = ⟨#[228, 184, 173]⟩ := by decide +kernel
theorem t3w : wide (runes (bs ⟨#[228, 184, 173]⟩)) = 2 := by decide +kernel
theorem t4 : joins ⟨#[97]⟩ ⟨#[204, 129]⟩ = true := by decide +kernel
theorem t5 : joins ⟨#[97]⟩ ⟨#[98]⟩ = false := by decide +kernel

set_option maxRecDepth 100000 in
set_option maxHeartbeats 4000000 in
theorem alive_any (w : World) : Calls Try.prog 7 #[] w fun e w' => e = .returned (.bool true) ∧ Below w.heap.size w w' := by
  have H1 := run.hid (fun w => split_use ⟨#[97, 98]⟩ w (by simp [ByteArray.size]))
  have H2 := run.hid (fun w => split_use ⟨#[97, 204, 129]⟩ w (by simp [ByteArray.size]))
  have H3 := run.hid (fun w => one_any ⟨#[228, 184, 173]⟩ w (by simp [ByteArray.size]))
  have H4 := run.hid (fun w => joins_any ⟨#[97]⟩ ⟨#[204, 129]⟩ w (by simp [ByteArray.size]) (by simp [ByteArray.size]))
  have H5 := run.hid (fun w => joins_any ⟨#[97]⟩ ⟨#[98]⟩ w (by simp [ByteArray.size]) (by simp [ByteArray.size]))
  rw [t1] at H1
  rw [t2] at H2
  unfold OneIs at H3
  rw [t3w] at H3
  rw [t4] at H4
  rw [t5] at H5
  go_enter Try.func7, Try.ntmps7
  go_wp2_with fail
  refine (H1.out _).mono ?_
  rintro e w1 ⟨v1, rfl, -, hr1, hb1⟩
  go_wp2_with fail
  refine (H2.out _).mono ?_
  rintro e w2 ⟨v2, rfl, -, hr2, hb2⟩
  go_wp2_with fail
  refine (H3.out _).mono ?_
  rintro e w3 ⟨hb3, h3⟩
  rcases h3 with ⟨-, rfl⟩ | ⟨h3, -⟩
  · have hB2 := hb1.trans (hb2.mono hb1.size)
    have hB := hB2.trans (hb3.mono hB2.size)
    replace hr1 := (hr1.below hb2).below hb3
    obtain ⟨a1, c1, rfl, hrow⟩ := hr1
    obtain ⟨a2, c2, rfl, -⟩ := hr2
    obtain ⟨b, off, rfl, hlt, hx0, hx1⟩ := hrow 1 (by decide)
    replace hx0 := run.cell_old w3 (.cells #[.string ⟨#[228, 184, 173]⟩, .int .i64 2] 30) hx0
    replace hx1 := run.cell_old w3 (.cells #[.string ⟨#[228, 184, 173]⟩, .int .i64 2] 30) hx1
    obtain ⟨hy0, hy1⟩ := new_two w3 (.string ⟨#[228, 184, 173]⟩) (.int .i64 2) 30
    have hBn := hB.alloc hB.size (.cells #[.string ⟨#[228, 184, 173]⟩, .int .i64 2] 30)
    clear hrow H1 H2 H3 hb1 hb2 hb3 hB2
    replace hx0 : (w3.alloc (.cells #[.string ⟨#[228, 184, 173]⟩, .int .i64 2] 30)).cell? ⟨b, off + 2, none⟩ = some (.string ⟨#[98]⟩) := hx0
    replace hx1 : (w3.alloc (.cells #[.string ⟨#[228, 184, 173]⟩, .int .i64 2] 30)).cell? ⟨b, off + 2 + 1, none⟩ = some (.int .i64 1) := hx1
    go_wp2_with fail
    refine (H4.out _).mono ?_
    clear H4 hx0 hx1 hy0 hy1
    rintro e w5 ⟨rfl, hb5⟩
    have hB5 := hBn.trans (hb5.mono hBn.size)
    go_wp2_with fail
    refine (H5.out _).mono ?_
    rintro e w6 ⟨rfl, hb6⟩
    have hB6 := hB5.trans (hb6.mono hB5.size)
    go_wp2
    go_ret
    exact ⟨rfl, hB6⟩
  · exact absurd t3 h3

end Go.Proofs.Ytfncneedpnikbaa.clu
