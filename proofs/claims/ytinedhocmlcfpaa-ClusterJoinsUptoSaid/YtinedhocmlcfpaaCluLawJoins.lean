/-
  The law ClusterJoins.
-/
import Derived.Test.YtinedhocmlcfpaaCluRef3
import Derived.Test.YtinedhocmlcfpaaCluAlive
namespace Go.Proofs.Ytinedhocmlcfpaa.clu
open Go.RowKit Go.Proofs
open Go.Proofs.Ytinedhocmlcfpaa.wid Go.Proofs.Ytinedhocmlcfpaa.utf
set_option linter.unusedVariables false

set_option maxRecDepth 100000 in
set_option maxHeartbeats 4000000 in
theorem lawJoins_any (a b : ByteArray) (w : World) (ha : a.size ≤ 1048576) (hb : b.size ≤ 1048576) : Calls Try.prog 5 #[.string a, .string b] w fun e w' => e = .returned (.bool true) ∧ Below w.heap.size w w' := by
  obtain ⟨cs, cw, ok, h1, h2⟩ := one_both a (by omega)
  have H1 := run.hid h1
  have H2 := run.hid h2
  have H3 := run.hid (fun w => joins_any a b w (by omega) (by omega))
  have H4 := run.hid (fun w => refJoins_any a b w (by omega) (by omega))
  clear h1 h2
  generalize joins a b = jn at *
  go_enter Try.func5, Try.ntmps5
  go_wp2_with fail
  refine (H1.out _).mono ?_
  rintro e w1 ⟨rfl, hb1⟩
  obtain ⟨hy0, hy1⟩ := new_two w1 (.string cs) (.int .i64 cw) 36
  have hB := hb1.alloc hb1.size (.cells #[.string cs, .int .i64 cw] 36)
  have hlt : w1.heap.size < (w1.alloc (.cells #[.string cs, .int .i64 cw] 36)).heap.size := by simp
  clear hb1
  go_wp2_with fail
  generalize w1.alloc (.cells #[.string cs, .int .i64 cw] 36) = w2 at *
  refine (H2.out _).mono ?_
  rintro e w3 ⟨rfl, hb3⟩
  obtain ⟨hz0, hz1⟩ := new_two w3 (.string cs) (.int .i64 cw) 36
  replace hy0 := run.cell_old w3 (.cells #[.string cs, .int .i64 cw] 36) ((hb3.cell (p := ⟨w1.heap.size, 0, none⟩) hlt).trans hy0)
  replace hy1 := run.cell_old w3 (.cells #[.string cs, .int .i64 cw] 36) ((hb3.cell (p := ⟨w1.heap.size, 1, none⟩) hlt).trans hy1)
  replace hB := hB.trans (hb3.mono hB.size)
  replace hB := hB.alloc hB.size (.cells #[.string cs, .int .i64 cw] 36)
  clear hb3 H1 H2
  go_wp2_with fail
  generalize w3.alloc (.cells #[.string cs, .int .i64 cw] 36) = w4 at *
  refine (H3.out _).mono ?_
  rintro e w5 ⟨rfl, hb5⟩
  replace hB := hB.trans (hb5.mono hB.size)
  clear hy0 hy1 hz0 hz1
  go_wp2_with fail
  refine (H4.out _).mono ?_
  rintro e w6 ⟨rfl, hb6⟩
  replace hB := hB.trans (hb6.mono hB.size)
  go_wp2_with fail
  refine (alive_any _).mono ?_
  rintro e w7 ⟨rfl, hb7⟩
  replace hB := hB.trans (hb7.mono hB.size)
  go_wp2
  go_ret
  exact ⟨rfl, hB⟩

end Go.Proofs.Ytinedhocmlcfpaa.clu
