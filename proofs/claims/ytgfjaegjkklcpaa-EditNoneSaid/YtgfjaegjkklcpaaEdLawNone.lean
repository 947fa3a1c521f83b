/-
  The law EditNone: no editor, no gap.
-/
import Derived.Test.YtgfjaegjkklcpaaEdAlive
import Derived.Test.YtgfjaegjkklcpaaEdNil
namespace Go.Proofs.Ytgfjaegjkklcpaa.ed
open Go Go.RowKit Go.Proofs
set_option linter.unusedVariables false
set_option maxRecDepth 100000 in
set_option maxHeartbeats 8000000 in
theorem lawNone_any (s : ByteArray) (n : Int) (m : Bool) (w : World) : Calls Try.prog 6 #[.string s, .int .i64 n, .bool m] w fun e w' => e = .returned (.bool true) ∧ Below w.heap.size w w' := by
  have HB0 := run.hid (Below.refl w.heap.size w)
  go_enter Try.func6, Try.ntmps6
  go_wp2_with fail
  refine (marked_nil _).mono ?_
  rintro e w1 ⟨rfl, h1⟩
  have HB1 := run.hid (HB0.out.trans ((h1.below).mono HB0.out.size))
  clear h1 HB0
  go_wp2_with fail
  refine (view_nil n _).mono ?_
  rintro e w2 ⟨rfl, h2⟩
  have HB2 := run.hid (HB1.out.trans ((h2.below).mono HB1.out.size))
  clear h2 HB1
  go_wp2_with fail
  refine (gapat_nil n _).mono ?_
  rintro e w3 ⟨rfl, h3⟩
  have HB3 := run.hid (HB2.out.trans ((h3).mono HB2.out.size))
  clear h3 HB2
  go_wp2_with fail
  refine (textOf_nil _).mono ?_
  rintro e w4 ⟨rfl, h4⟩
  have HB4 := run.hid (HB3.out.trans ((h4.below).mono HB3.out.size))
  clear h4 HB3
  go_wp2_with fail
  refine (caret_nil _).mono ?_
  rintro e w5 ⟨rfl, h5⟩
  have HB5 := run.hid (HB4.out.trans ((h5.below).mono HB4.out.size))
  clear h5 HB4
  go_wp2_with fail
  refine (go_nil n m _).mono ?_
  rintro e w6 ⟨rfl, h6⟩
  have HB6 := run.hid (HB5.out.trans ((h6.below).mono HB5.out.size))
  clear h6 HB5
  go_wp2_with fail
  refine (insert_nil s _).mono ?_
  rintro e w7 ⟨rfl, h7⟩
  have HB7 := run.hid (HB6.out.trans ((h7.below).mono HB6.out.size))
  clear h7 HB6
  go_wp2_with fail
  refine (delete_nil n _).mono ?_
  rintro e w8 ⟨rfl, h8⟩
  have HB8 := run.hid (HB7.out.trans ((h8.below).mono HB7.out.size))
  clear h8 HB7
  go_wp2_with fail
  refine (undo_nil _).mono ?_
  rintro e w9 ⟨rfl, h9⟩
  have HB9 := run.hid (HB8.out.trans ((h9.below).mono HB8.out.size))
  clear h9 HB8
  go_wp2_with fail
  refine (redo_nil _).mono ?_
  rintro e w10 ⟨rfl, h10⟩
  have HB10 := run.hid (HB9.out.trans ((h10.below).mono HB9.out.size))
  clear h10 HB9
  go_wp2_with fail
  refine (gaplen_nil _).mono ?_
  rintro e w11 ⟨rfl, h11⟩
  have HB11 := run.hid (HB10.out.trans ((h11).mono HB10.out.size))
  clear h11 HB10
  go_wp2_with fail
  refine (gapinsert_nil 0 _ 1 1 _).mono ?_
  rintro e w12 ⟨rfl, h12⟩
  have HB12 := run.hid (HB11.out.trans (((run.below_one w11 (.cells #[.string s] 9)).trans (h12.mono (by rw [World.size_alloc]; omega))).mono HB11.out.size))
  clear h12 HB11
  go_wp2_with fail
  refine (gapdelete_nil 0 1 _).mono ?_
  rintro e w13 ⟨rfl, h13⟩
  have HB13 := run.hid (HB12.out.trans ((h13).mono HB12.out.size))
  clear h13 HB12
  go_wp2_with fail
  refine (gapall_nil _).mono ?_
  rintro e w14 ⟨rfl, h14⟩
  have HB14 := run.hid (HB13.out.trans ((h14).mono HB13.out.size))
  clear h14 HB13
  go_wp2_with fail
  refine (alive_any _).mono ?_
  rintro e w15 ⟨rfl, h15⟩
  have HB15 := run.hid (HB14.out.trans ((h15).mono HB14.out.size))
  clear h15 HB14
  go_wp2
  go_ret
  exact ⟨rfl, HB15.out⟩
theorem lawNone_r (s : ByteArray) (n : Int) (m : Bool) (w : World) (hz : s.size ≤ 140737488351232) : Calls Try.prog 6 #[.string s, .int .i64 n, .bool m] w fun e w' => e = .returned (.bool true) ∧ Below w.heap.size w w' := lawNone_any s n m w
end Go.Proofs.Ytgfjaegjkklcpaa.ed
