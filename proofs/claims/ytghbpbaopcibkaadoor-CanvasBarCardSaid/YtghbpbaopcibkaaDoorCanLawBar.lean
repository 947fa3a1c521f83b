/-
  The walk of the law CanvasBar.
-/
import Derived.Test.YtghbpbaopcibkaaDoorCanAlive
import Derived.Test.YtghbpbaopcibkaaDoorCanRefBar
namespace Go.Proofs.YtghbpbaopcibkaaDoor.can
open Go.RowKit Go.Proofs
set_option linter.unusedVariables false

set_option maxRecDepth 100000 in
theorem lawBar_any (n d w0 : Int) (w : World) (hn : (Lit.int .i64 n).wf = true) (hd : (Lit.int .i64 d).wf = true) (hw : (Lit.int .i64 w0).wf = true) (hD : Dots w) :
    Calls Tryd.prog 3 #[.int .i64 n, .int .i64 d, .int .i64 w0] w fun e w' => e = .returned (.bool true) ∧ Below w.heap.size w w' := by
  have wf : ∀ {x : Int}, (Lit.int .i64 x).wf = true → -9223372036854775808 ≤ x ∧ x ≤ 9223372036854775807 := fun h => by simpa [Lit.wf, show IntKind.i64.min = -9223372036854775808 from rfl] using h
  have hn := wf hn
  have hd := wf hd
  have hw := wf hw
  have H1 := run.hid (fun w => bar_any n d w0 w hn hd hw)
  have H2 := run.hid (fun w => refBar_any n d w0 w hn hd hw)
  have HD := run.hid hD
  clear hD hn hd hw
  go_enter Tryd.func3, Tryd.ntmps3
  go_wp2_with fail
  refine (H1.out _).mono ?_
  rintro e w1 ⟨rfl, hb1⟩
  have hs1 := hb1.size
  have HD1 := run.hid (HD.out.below hb1 HD.out.lt)
  go_wp2_with fail
  refine (H2.out _).mono ?_
  rintro e w2 ⟨rfl, hb2⟩
  have hB2 := hb1.trans (hb2.mono hs1)
  have hs2 := hB2.size
  have HD2 := run.hid (HD1.out.below hb2 HD1.out.lt)
  go_wp2_with fail
  refine (alive_any _ HD2.out).mono ?_
  rintro e w3 ⟨rfl, hb3⟩
  go_wp2
  go_ret
  exact ⟨rfl, hB2.trans (hb3.mono hs2)⟩
end Go.Proofs.YtghbpbaopcibkaaDoor.can
