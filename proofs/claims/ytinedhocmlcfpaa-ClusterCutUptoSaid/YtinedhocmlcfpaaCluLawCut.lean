/-
  The law ClusterCut.
-/
import Derived.Test.YtinedhocmlcfpaaCluRef4
namespace Go.Proofs.Ytinedhocmlcfpaa.clu
open Go.RowKit Go.Proofs
open Go.Proofs.Ytinedhocmlcfpaa.wid Go.Proofs.Ytinedhocmlcfpaa.utf
set_option linter.unusedVariables false

set_option maxRecDepth 100000 in
set_option maxHeartbeats 4000000 in
theorem lawCut_any (s : ByteArray) (n : Int) (w : World) (hs : s.size ≤ 1048576) (hn : (Lit.int .i64 n).wf = true) : Calls Try.prog 10 #[.string s, .int .i64 n] w fun e w' => e = .returned (.bool true) ∧ Below w.heap.size w w' := by
  have hnb := ints.wf64 hn
  have H1 := run.hid (fun w => refCut_any s n w hs hnb.2)
  have H2 := run.hid (fun w => cut_any s n w (by omega) (by omega))
  have H3 := run.hid (fun w => width_any s w (by omega))
  have H4 := run.hid (fun w => refWidth_any s w (by omega))
  clear hn hnb
  generalize cutA s n = A at *
  generalize cutB s n = B at *
  generalize width s = x at *
  go_enter Try.func10, Try.ntmps10
  go_wp2_with fail
  refine (H1.out _).mono ?_
  rintro e w1 ⟨rfl, hb1⟩
  go_wp2_with fail
  refine (H2.out _).mono ?_
  rintro e w2 ⟨rfl, hb2⟩
  have hB := hb1.trans (hb2.mono hb1.size)
  go_wp2_with fail
  refine (H3.out _).mono ?_
  rintro e w3 ⟨rfl, hb3⟩
  replace hB := hB.trans (hb3.mono hB.size)
  go_wp2_with fail
  refine (H4.out _).mono ?_
  rintro e w4 ⟨rfl, hb4⟩
  replace hB := hB.trans (hb4.mono hB.size)
  go_wp2_with fail
  refine (alive_any _).mono ?_
  rintro e w5 ⟨rfl, hb5⟩
  replace hB := hB.trans (hb5.mono hB.size)
  go_wp2
  go_ret
  exact ⟨rfl, hB⟩

end Go.Proofs.Ytinedhocmlcfpaa.clu
