/-
  The walk of the helper of the laws of layer wrap: what the document says of a few short texts.
-/
import Derived.Test.YtmjmmoecplndmaaWrpLines
import Derived.Test.YtmjmmoecplndmaaWrpLeast
import Derived.KernelRfl
namespace Go.Proofs.Ytmjmmoecplndmaa.wrp
open Go.RowKit Go.Proofs
open Go.Proofs.Ytmjmmoecplndmaa.wid Go.Proofs.Ytmjmmoecplndmaa.utf Go.Proofs.Ytmjmmoecplndmaa.clu
set_option linter.unusedVariables false

theorem k_lines : linesT ⟨#[97, 98, 99, 100, 101, 102, 32, 103, 104]⟩ 4 0 = [⟨⟨#[97, 98, 99, 100]⟩, 4, 3, ⟨#[]⟩⟩, ⟨⟨#[101, 102]⟩, 2, 2, ⟨#[]⟩⟩, ⟨⟨#[103, 104]⟩, 2, 0, ⟨#[]⟩⟩] := by kernel_rfl
theorem k_flow : flow ⟨#[97, 27, 9, 98, 13, 10]⟩ = [(⟨#[97]⟩, 1), (⟨#[32]⟩, 1), (⟨#[98]⟩, 1), (⟨#[10]⟩, 0)] := by decide +kernel
theorem k_align : alignT ⟨#[97, 98]⟩ 5 2 = ⟨#[32, 97, 98, 32, 32]⟩ := by decide +kernel
theorem k_trim : trimT ⟨#[97, 98, 99, 100, 101, 102]⟩ 4 ⟨#[46, 46]⟩ 0 = ⟨#[46, 46, 101, 102]⟩ := by decide +kernel
theorem k_least : leastT ⟨#[111, 110, 101, 32, 116, 104, 114, 101, 101]⟩ 0 = 5 := by decide +kernel
theorem k_most : leastT ⟨#[111, 110, 101, 32, 116, 104, 114, 101, 101]⟩ 2 = 9 := by decide +kernel

set_option maxRecDepth 100000 in
set_option maxHeartbeats 4000000 in
theorem wakes_any (w : World) : Calls Try.prog 8 #[] w fun e w' => e = .returned (.bool true) ∧ Below w.heap.size w w' := by
  have HL := run.hid (fun w => lines_any ⟨#[97, 98, 99, 100, 101, 102, 32, 103, 104]⟩ 4 0 w (by simp [ByteArray.size]))
  rw [k_lines] at HL
  have HF := run.hid (fun w => flow_any ⟨#[97, 27, 9, 98, 13, 10]⟩ w (by simp [ByteArray.size]))
  rw [k_flow] at HF
  have HA := run.hid (fun w => align_any ⟨#[97, 98]⟩ 5 2 w (by simp [ByteArray.size]))
  rw [k_align] at HA
  have HT := run.hid (fun w => trim_any ⟨#[97, 98, 99, 100, 101, 102]⟩ 4 ⟨#[46, 46]⟩ 0 w (by simp [ByteArray.size]) (by simp [ByteArray.size]))
  rw [k_trim] at HT
  have HLE := run.hid (fun w => least_any ⟨#[111, 110, 101, 32, 116, 104, 114, 101, 101]⟩ 0 w (by simp [ByteArray.size]))
  rw [k_least] at HLE
  have HM := run.hid (fun w => most_any ⟨#[111, 110, 101, 32, 116, 104, 114, 101, 101]⟩ w (by simp [ByteArray.size]))
  rw [k_most] at HM
  go_enter Try.func8, Try.ntmps8
  go_wp2_with fail
  refine (HL.out _).mono ?_
  rintro e w1 ⟨v1, rfl, hown1, hb1⟩
  clear HL
  go_wp2_with fail
  refine (HF.out _).mono ?_
  rintro e w2 ⟨v2, rfl, hown2, hb2⟩
  clear HF
  have c2 := hb1.trans (hb2.mono hb1.size)
  have hown1' := run.own_below hown1 hb2
  obtain ⟨g1, cap1, rfl⟩ := ownsRow_succ (k := 2) hown1'
  obtain ⟨g2, cap2, rfl⟩ := ownsRow_succ (k := 3) hown2
  have hc (j : Nat) (hj : j < 12) := hown1'.cellAt j (by simpa using hj)
  have hd (j : Nat) (hj : j < 8) := hown2.cellAt j (by simpa using hj)
  have h0 : w2.cell? ⟨g1, 0, none⟩ = some (.string ⟨#[97, 98, 99, 100]⟩) := hc 0 (by omega)
  have h1 : w2.cell? ⟨g1, 1, none⟩ = some (.int .i64 4) := hc 1 (by omega)
  have h2 : w2.cell? ⟨g1, 2, none⟩ = some (.int .i8 3) := hc 2 (by omega)
  have h3 : w2.cell? ⟨g1, 3, none⟩ = some (.string ⟨#[]⟩) := hc 3 (by omega)
  have h4 : w2.cell? ⟨g1, 4, none⟩ = some (.string ⟨#[101, 102]⟩) := hc 4 (by omega)
  have h5 : w2.cell? ⟨g1, 5, none⟩ = some (.int .i64 2) := hc 5 (by omega)
  have h6 : w2.cell? ⟨g1, 6, none⟩ = some (.int .i8 2) := hc 6 (by omega)
  have h7 : w2.cell? ⟨g1, 7, none⟩ = some (.string ⟨#[]⟩) := hc 7 (by omega)
  have h8 : w2.cell? ⟨g1, 8, none⟩ = some (.string ⟨#[103, 104]⟩) := hc 8 (by omega)
  have h9 : w2.cell? ⟨g1, 9, none⟩ = some (.int .i64 2) := hc 9 (by omega)
  have h10 : w2.cell? ⟨g1, 10, none⟩ = some (.int .i8 0) := hc 10 (by omega)
  have h11 : w2.cell? ⟨g1, 11, none⟩ = some (.string ⟨#[]⟩) := hc 11 (by omega)
  have k1 : w2.cell? ⟨g2, 2, none⟩ = some (.string ⟨#[32]⟩) := hd 2 (by omega)
  have k3 : w2.cell? ⟨g2, 6, none⟩ = some (.string ⟨#[10]⟩) := hd 6 (by omega)
  clear hc hd hown1 hown1' hown2
  go_wp2_with fail
  refine (HA.out _).mono ?_
  rintro e w3 ⟨rfl, hb3⟩
  have c3 := c2.trans (hb3.mono c2.size)
  clear HA
  go_wp2_with fail
  refine (HT.out _).mono ?_
  rintro e w4 ⟨rfl, hb4⟩
  have c4 := c3.trans (hb4.mono c3.size)
  clear HT
  go_wp2_with fail
  refine (HLE.out _).mono ?_
  rintro e w5 ⟨rfl, hb5⟩
  have c5 := c4.trans (hb5.mono c4.size)
  clear HLE
  go_wp2_with fail
  refine (HM.out _).mono ?_
  rintro e w6 ⟨rfl, hb6⟩
  have c6 := c5.trans (hb6.mono c5.size)
  clear HM
  go_wp2
  go_ret
  exact ⟨rfl, c6⟩

end Go.Proofs.Ytmjmmoecplndmaa.wrp
