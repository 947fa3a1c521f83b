/-
  The law ClusterKnown: the chapter's examples.
-/
import Derived.Test.YtinedhocmlcfpaaCluLawSeams
import Derived.Test.YtinedhocmlcfpaaCluSameLaw
namespace Go.Proofs.Ytinedhocmlcfpaa.clu
open Go.RowKit Go.Proofs
open Go.Proofs.Ytinedhocmlcfpaa.wid Go.Proofs.Ytinedhocmlcfpaa.utf
set_option linter.unusedVariables false

set_option maxHeartbeats 400000 in
theorem is_eq (u v : Value) (X : List CV) (w : World) (hu : ReadsI w u X) (hv : ReadsI w v X) (hX : X.length ≤ 1099511627776) : Calls Try.prog 37 #[u, v] w fun e w' => e = .returned (.bool true) ∧ Below w.heap.size w w' := by
  have H := run.hid (fun w' hb => lawSame_eq u v X w' (hu.below hb) (hv.below hb) hX)
  go_enter Try.func37, Try.ntmps37
  go_wp2_with fail
  refine (H.out _ (Below.refl _ _)).mono ?_
  rintro e w1 ⟨rfl, hb1⟩
  go_wp2
  go_ret
  exact ⟨rfl, hb1⟩

theorem e0 : told ⟨#[97, 204, 129, 204, 129, 98]⟩ = [(⟨#[97, 204, 129, 204, 129]⟩, 1), (⟨#[98]⟩, 1)] := by decide +kernel
theorem e1 : told ⟨#[228, 184, 173, 226, 152, 128, 226, 152, 128, 239, 184, 143]⟩ = [(⟨#[228, 184, 173]⟩, 2), (⟨#[226, 152, 128]⟩, 1), (⟨#[226, 152, 128, 239, 184, 143]⟩, 2)] := by decide +kernel
theorem e2 : told ⟨#[226, 152, 128, 204, 129, 239, 184, 143]⟩ = [(⟨#[226, 152, 128, 204, 129, 239, 184, 143]⟩, 1)] := by decide +kernel
theorem e3 : told ⟨#[240, 159, 135, 166, 240, 159, 135, 167, 240, 159, 135, 166]⟩ = [(⟨#[240, 159, 135, 166, 240, 159, 135, 167]⟩, 2), (⟨#[240, 159, 135, 166]⟩, 1)] := by decide +kernel
theorem e4 : told ⟨#[240, 159, 145, 168, 240, 159, 143, 189, 226, 128, 141, 226, 157, 164, 239, 184, 143, 226, 128, 141, 240, 159, 145, 168]⟩ = [(⟨#[240, 159, 145, 168, 240, 159, 143, 189, 226, 128, 141, 226, 157, 164, 239, 184, 143, 226, 128, 141, 240, 159, 145, 168]⟩, 2)] := by decide +kernel
theorem e5 : told ⟨#[97, 226, 128, 141, 240, 159, 145, 168]⟩ = [(⟨#[97, 226, 128, 141]⟩, 1), (⟨#[240, 159, 145, 168]⟩, 2)] := by decide +kernel
theorem e6 : told ⟨#[10, 204, 129]⟩ = [(⟨#[10]⟩, 0), (⟨#[204, 129]⟩, 0)] := by decide +kernel
theorem d1 : cutA ⟨#[97, 98, 204, 129]⟩ 1 = ⟨#[97]⟩ ∧ cutB ⟨#[97, 98, 204, 129]⟩ 1 = ⟨#[98, 204, 129]⟩ := by decide +kernel
theorem d2 : cutA ⟨#[97, 228, 184, 173, 98]⟩ 2 = ⟨#[97]⟩ ∧ cutB ⟨#[97, 228, 184, 173, 98]⟩ 2 = ⟨#[228, 184, 173, 98]⟩ := by decide +kernel
theorem d3 : ¬ oneOk ⟨#[97, 98]⟩ := by unfold oneOk; decide +kernel
theorem d4 : ¬ oneOk ⟨#[255]⟩ := by unfold oneOk; decide +kernel
theorem d5 : width ⟨#[97, 228, 184, 173, 204, 129]⟩ = 3 := by decide +kernel
theorem d6 : joins ⟨#[240, 159, 135, 166]⟩ ⟨#[240, 159, 135, 167]⟩ = true := by decide +kernel
theorem d7 : joins ⟨#[240, 159, 135, 166, 240, 159, 135, 167]⟩ ⟨#[240, 159, 135, 166]⟩ = false := by decide +kernel

set_option maxRecDepth 100000 in
set_option maxHeartbeats 4000000 in
theorem lawKnown_any (w : World) : Calls Try.prog 12 #[] w fun e w' => e = .returned (.bool true) ∧ Below w.heap.size w w' := by
  have S0 := run.hid (fun w => split_use ⟨#[97, 204, 129, 204, 129, 98]⟩ w (by simp [ByteArray.size]))
  rw [e0] at S0
  have S1 := run.hid (fun w => split_use ⟨#[228, 184, 173, 226, 152, 128, 226, 152, 128, 239, 184, 143]⟩ w (by simp [ByteArray.size]))
  rw [e1] at S1
  have S2 := run.hid (fun w => split_use ⟨#[226, 152, 128, 204, 129, 239, 184, 143]⟩ w (by simp [ByteArray.size]))
  rw [e2] at S2
  have S3 := run.hid (fun w => split_use ⟨#[240, 159, 135, 166, 240, 159, 135, 167, 240, 159, 135, 166]⟩ w (by simp [ByteArray.size]))
  rw [e3] at S3
  have S4 := run.hid (fun w => split_use ⟨#[240, 159, 145, 168, 240, 159, 143, 189, 226, 128, 141, 226, 157, 164, 239, 184, 143, 226, 128, 141, 240, 159, 145, 168]⟩ w (by simp [ByteArray.size]))
  rw [e4] at S4
  have S5 := run.hid (fun w => split_use ⟨#[97, 226, 128, 141, 240, 159, 145, 168]⟩ w (by simp [ByteArray.size]))
  rw [e5] at S5
  have S6 := run.hid (fun w => split_use ⟨#[10, 204, 129]⟩ w (by simp [ByteArray.size]))
  rw [e6] at S6
  have D1 := run.hid (fun w => cut_any ⟨#[97, 98, 204, 129]⟩ 1 w (by simp [ByteArray.size]) (by omega))
  rw [d1.1, d1.2] at D1
  have D2 := run.hid (fun w => cut_any ⟨#[97, 228, 184, 173, 98]⟩ 2 w (by simp [ByteArray.size]) (by omega))
  rw [d2.1, d2.2] at D2
  have D3 := run.hid (fun w => one_any ⟨#[97, 98]⟩ w (by simp [ByteArray.size]))
  have D4 := run.hid (fun w => one_any ⟨#[255]⟩ w (by simp [ByteArray.size]))
  unfold OneIs at D3 D4
  have D5 := run.hid (fun w => width_any ⟨#[97, 228, 184, 173, 204, 129]⟩ w (by simp [ByteArray.size]))
  rw [d5] at D5
  have D6 := run.hid (fun w => joins_any ⟨#[240, 159, 135, 166]⟩ ⟨#[240, 159, 135, 167]⟩ w (by simp [ByteArray.size]) (by simp [ByteArray.size]))
  rw [d6] at D6
  have D7 := run.hid (fun w => joins_any ⟨#[240, 159, 135, 166, 240, 159, 135, 167]⟩ ⟨#[240, 159, 135, 166]⟩ w (by simp [ByteArray.size]) (by simp [ByteArray.size]))
  rw [d7] at D7
  go_enter Try.func12, Try.ntmps12
  have hB := Below.refl w.heap.size w
  go_wp2_with fail
  refine (S0.out _).mono ?_
  rintro e w1 ⟨v, rfl, -, hr, hb⟩
  replace hB := hB.trans (hb.mono hB.size)
  have hL : ReadsI (w1.alloc (.cells #[.string ⟨#[97, 204, 129, 204, 129]⟩, .int .i64 1, .string ⟨#[98]⟩, .int .i64 1] 36)) (.slice (some ⟨w1.heap.size, 0, none⟩) 2 2) (upI [(⟨#[97, 204, 129, 204, 129]⟩, 1), (⟨#[98]⟩, 1)]) := readsI_of (run.readsN_new w1 _ 2 2 _ rfl)
  have hR := (readsI_up hr).below (run.below_one w1 (.cells #[.string ⟨#[97, 204, 129, 204, 129]⟩, .int .i64 1, .string ⟨#[98]⟩, .int .i64 1] 36))
  replace hB := hB.alloc hB.size (.cells #[.string ⟨#[97, 204, 129, 204, 129]⟩, .int .i64 1, .string ⟨#[98]⟩, .int .i64 1] 36)
  have HC := run.hid (is_eq _ _ _ _ hR hL (by decide))
  clear hr hb hL hR S0
  go_wp2_with fail
  refine HC.out.mono ?_
  rintro e w2 ⟨rfl, hb⟩
  replace hB := hB.trans (hb.mono hB.size)
  clear hb HC
  go_wp2_with fail
  refine (S1.out _).mono ?_
  rintro e w1 ⟨v, rfl, -, hr, hb⟩
  replace hB := hB.trans (hb.mono hB.size)
  have hL : ReadsI (w1.alloc (.cells #[.string ⟨#[228, 184, 173]⟩, .int .i64 2, .string ⟨#[226, 152, 128]⟩, .int .i64 1, .string ⟨#[226, 152, 128, 239, 184, 143]⟩, .int .i64 2] 36)) (.slice (some ⟨w1.heap.size, 0, none⟩) 3 3) (upI [(⟨#[228, 184, 173]⟩, 2), (⟨#[226, 152, 128]⟩, 1), (⟨#[226, 152, 128, 239, 184, 143]⟩, 2)]) := readsI_of (run.readsN_new w1 _ 3 2 _ rfl)
  have hR := (readsI_up hr).below (run.below_one w1 (.cells #[.string ⟨#[228, 184, 173]⟩, .int .i64 2, .string ⟨#[226, 152, 128]⟩, .int .i64 1, .string ⟨#[226, 152, 128, 239, 184, 143]⟩, .int .i64 2] 36))
  replace hB := hB.alloc hB.size (.cells #[.string ⟨#[228, 184, 173]⟩, .int .i64 2, .string ⟨#[226, 152, 128]⟩, .int .i64 1, .string ⟨#[226, 152, 128, 239, 184, 143]⟩, .int .i64 2] 36)
  have HC := run.hid (is_eq _ _ _ _ hR hL (by decide))
  clear hr hb hL hR S1
  go_wp2_with fail
  refine HC.out.mono ?_
  rintro e w2 ⟨rfl, hb⟩
  replace hB := hB.trans (hb.mono hB.size)
  clear hb HC
  go_wp2_with fail
  refine (S2.out _).mono ?_
  rintro e w1 ⟨v, rfl, -, hr, hb⟩
  replace hB := hB.trans (hb.mono hB.size)
  have hL : ReadsI (w1.alloc (.cells #[.string ⟨#[226, 152, 128, 204, 129, 239, 184, 143]⟩, .int .i64 1] 36)) (.slice (some ⟨w1.heap.size, 0, none⟩) 1 1) (upI [(⟨#[226, 152, 128, 204, 129, 239, 184, 143]⟩, 1)]) := readsI_of (run.readsN_new w1 _ 1 2 _ rfl)
  have hR := (readsI_up hr).below (run.below_one w1 (.cells #[.string ⟨#[226, 152, 128, 204, 129, 239, 184, 143]⟩, .int .i64 1] 36))
  replace hB := hB.alloc hB.size (.cells #[.string ⟨#[226, 152, 128, 204, 129, 239, 184, 143]⟩, .int .i64 1] 36)
  have HC := run.hid (is_eq _ _ _ _ hR hL (by decide))
  clear hr hb hL hR S2
  go_wp2_with fail
  refine HC.out.mono ?_
  rintro e w2 ⟨rfl, hb⟩
  replace hB := hB.trans (hb.mono hB.size)
  clear hb HC
  go_wp2_with fail
  refine (S3.out _).mono ?_
  rintro e w1 ⟨v, rfl, -, hr, hb⟩
  replace hB := hB.trans (hb.mono hB.size)
  have hL : ReadsI (w1.alloc (.cells #[.string ⟨#[240, 159, 135, 166, 240, 159, 135, 167]⟩, .int .i64 2, .string ⟨#[240, 159, 135, 166]⟩, .int .i64 1] 36)) (.slice (some ⟨w1.heap.size, 0, none⟩) 2 2) (upI [(⟨#[240, 159, 135, 166, 240, 159, 135, 167]⟩, 2), (⟨#[240, 159, 135, 166]⟩, 1)]) := readsI_of (run.readsN_new w1 _ 2 2 _ rfl)
  have hR := (readsI_up hr).below (run.below_one w1 (.cells #[.string ⟨#[240, 159, 135, 166, 240, 159, 135, 167]⟩, .int .i64 2, .string ⟨#[240, 159, 135, 166]⟩, .int .i64 1] 36))
  replace hB := hB.alloc hB.size (.cells #[.string ⟨#[240, 159, 135, 166, 240, 159, 135, 167]⟩, .int .i64 2, .string ⟨#[240, 159, 135, 166]⟩, .int .i64 1] 36)
  have HC := run.hid (is_eq _ _ _ _ hR hL (by decide))
  clear hr hb hL hR S3
  go_wp2_with fail
  refine HC.out.mono ?_
  rintro e w2 ⟨rfl, hb⟩
  replace hB := hB.trans (hb.mono hB.size)
  clear hb HC
  go_wp2_with fail
  refine (S4.out _).mono ?_
  rintro e w1 ⟨v, rfl, -, hr, hb⟩
  replace hB := hB.trans (hb.mono hB.size)
  have hL : ReadsI (w1.alloc (.cells #[.string ⟨#[240, 159, 145, 168, 240, 159, 143, 189, 226, 128, 141, 226, 157, 164, 239, 184, 143, 226, 128, 141, 240, 159, 145, 168]⟩, .int .i64 2] 36)) (.slice (some ⟨w1.heap.size, 0, none⟩) 1 1) (upI [(⟨#[240, 159, 145, 168, 240, 159, 143, 189, 226, 128, 141, 226, 157, 164, 239, 184, 143, 226, 128, 141, 240, 159, 145, 168]⟩, 2)]) := readsI_of (run.readsN_new w1 _ 1 2 _ rfl)
  have hR := (readsI_up hr).below (run.below_one w1 (.cells #[.string ⟨#[240, 159, 145, 168, 240, 159, 143, 189, 226, 128, 141, 226, 157, 164, 239, 184, 143, 226, 128, 141, 240, 159, 145, 168]⟩, .int .i64 2] 36))
  replace hB := hB.alloc hB.size (.cells #[.string ⟨#[240, 159, 145, 168, 240, 159, 143, 189, 226, 128, 141, 226, 157, 164, 239, 184, 143, 226, 128, 141, 240, 159, 145, 168]⟩, .int .i64 2] 36)
  have HC := run.hid (is_eq _ _ _ _ hR hL (by decide))
  clear hr hb hL hR S4
  go_wp2_with fail
  refine HC.out.mono ?_
  rintro e w2 ⟨rfl, hb⟩
  replace hB := hB.trans (hb.mono hB.size)
  clear hb HC
  go_wp2_with fail
  refine (S5.out _).mono ?_
  rintro e w1 ⟨v, rfl, -, hr, hb⟩
  replace hB := hB.trans (hb.mono hB.size)
  have hL : ReadsI (w1.alloc (.cells #[.string ⟨#[97, 226, 128, 141]⟩, .int .i64 1, .string ⟨#[240, 159, 145, 168]⟩, .int .i64 2] 36)) (.slice (some ⟨w1.heap.size, 0, none⟩) 2 2) (upI [(⟨#[97, 226, 128, 141]⟩, 1), (⟨#[240, 159, 145, 168]⟩, 2)]) := readsI_of (run.readsN_new w1 _ 2 2 _ rfl)
  have hR := (readsI_up hr).below (run.below_one w1 (.cells #[.string ⟨#[97, 226, 128, 141]⟩, .int .i64 1, .string ⟨#[240, 159, 145, 168]⟩, .int .i64 2] 36))
  replace hB := hB.alloc hB.size (.cells #[.string ⟨#[97, 226, 128, 141]⟩, .int .i64 1, .string ⟨#[240, 159, 145, 168]⟩, .int .i64 2] 36)
  have HC := run.hid (is_eq _ _ _ _ hR hL (by decide))
  clear hr hb hL hR S5
  go_wp2_with fail
  refine HC.out.mono ?_
  rintro e w2 ⟨rfl, hb⟩
  replace hB := hB.trans (hb.mono hB.size)
  clear hb HC
  go_wp2_with fail
  refine (S6.out _).mono ?_
  rintro e w1 ⟨v, rfl, -, hr, hb⟩
  replace hB := hB.trans (hb.mono hB.size)
  have hL : ReadsI (w1.alloc (.cells #[.string ⟨#[10]⟩, .int .i64 0, .string ⟨#[204, 129]⟩, .int .i64 0] 36)) (.slice (some ⟨w1.heap.size, 0, none⟩) 2 2) (upI [(⟨#[10]⟩, 0), (⟨#[204, 129]⟩, 0)]) := readsI_of (run.readsN_new w1 _ 2 2 _ rfl)
  have hR := (readsI_up hr).below (run.below_one w1 (.cells #[.string ⟨#[10]⟩, .int .i64 0, .string ⟨#[204, 129]⟩, .int .i64 0] 36))
  replace hB := hB.alloc hB.size (.cells #[.string ⟨#[10]⟩, .int .i64 0, .string ⟨#[204, 129]⟩, .int .i64 0] 36)
  have HC := run.hid (is_eq _ _ _ _ hR hL (by decide))
  clear hr hb hL hR S6
  go_wp2_with fail
  refine HC.out.mono ?_
  rintro e w2 ⟨rfl, hb⟩
  replace hB := hB.trans (hb.mono hB.size)
  clear hb HC
  go_wp2_with fail
  refine (D1.out _).mono ?_
  rintro e w2 ⟨rfl, hb⟩
  replace hB := hB.trans (hb.mono hB.size)
  clear hb D1
  go_wp2_with fail
  refine (D2.out _).mono ?_
  rintro e w2 ⟨rfl, hb⟩
  replace hB := hB.trans (hb.mono hB.size)
  clear hb D2
  go_wp2_with fail
  refine (D3.out _).mono ?_
  rintro e w3 ⟨hb, h3⟩
  rcases h3 with ⟨h3, -⟩ | ⟨-, rfl⟩
  · exact absurd h3 d3
  replace hB := hB.trans (hb.mono hB.size)
  obtain ⟨hy0, hy1⟩ := new_two w3 (.string ByteArray.empty) (.int .i64 0) 36
  replace hB := hB.alloc hB.size (.cells #[.string ByteArray.empty, .int .i64 0] 36)
  have hlt3 : w3.heap.size < (w3.alloc (.cells #[.string ByteArray.empty, .int .i64 0] 36)).heap.size := by simp
  clear hb D3
  go_wp2_with fail
  generalize w3.alloc (.cells #[.string ByteArray.empty, .int .i64 0] 36) = w4 at *
  refine (D4.out _).mono ?_
  rintro e w5 ⟨hb, h3⟩
  rcases h3 with ⟨h3, -⟩ | ⟨-, rfl⟩
  · exact absurd h3 d4
  replace hy0 := (hb.cell (p := ⟨w3.heap.size, 0, none⟩) hlt3).trans hy0
  replace hy1 := (hb.cell (p := ⟨w3.heap.size, 1, none⟩) hlt3).trans hy1
  replace hlt3 := Nat.lt_of_lt_of_le hlt3 hb.size
  replace hB := hB.trans (hb.mono hB.size)
  obtain ⟨hz0, hz1⟩ := new_two w5 (.string ByteArray.empty) (.int .i64 0) 36
  replace hy0 := run.cell_old w5 (.cells #[.string ByteArray.empty, .int .i64 0] 36) hy0
  replace hy1 := run.cell_old w5 (.cells #[.string ByteArray.empty, .int .i64 0] 36) hy1
  replace hB := hB.alloc hB.size (.cells #[.string ByteArray.empty, .int .i64 0] 36)
  clear hb D4
  go_wp2_with fail
  refine (D5.out _).mono ?_
  clear hy0 hy1 hz0 hz1
  rintro e w6 ⟨rfl, hb⟩
  replace hB := hB.trans (hb.mono hB.size)
  go_wp2_with fail
  refine (D6.out _).mono ?_
  rintro e w7 ⟨rfl, hb⟩
  replace hB := hB.trans (hb.mono hB.size)
  go_wp2_with fail
  refine (D7.out _).mono ?_
  rintro e w8 ⟨rfl, hb⟩
  replace hB := hB.trans (hb.mono hB.size)
  go_wp2
  go_ret
  exact ⟨rfl, hB⟩

end Go.Proofs.Ytinedhocmlcfpaa.clu
