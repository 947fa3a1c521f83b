/-
  The walks of the table functions of the layer width (the program's and the document's): which block each one lays.
-/
import Derived.Test.YtgpgbbbcodnieaaProg
import Derived.Test.YtgpgbbbcodnieaaWidPlain
import Derived.Test.YtgpgbbbcodnieaaRun
import Derived.KernelRfl
import Derived.WalkKit
import Derived.WalkSpells
import Derived.WalkLawsBesides
namespace Go.Proofs.Ytgpgbbbcodnieaa.wid
open Go.RowKit Go.Proofs

def flat (l : List (Int × Int)) : List Value := l.flatMap fun p => [.int .i32 p.1, .int .i32 p.2]
def Told (c : Nat) (w : World) : Prop := Calls Try.prog 70 #[.int .i8 c] w fun e w' => e = .returned (.slice (some ⟨w.heap.size, 0, none⟩) (tab c).length (tab c).length) ∧ w' = w.alloc (.cells (flat (tab c)).toArray 131)

theorem told_0 (w : World) : Told 0 w := run.calls (by kernel_rfl)

theorem told_1 (w : World) : Told 1 w := run.calls (by kernel_rfl)

theorem told_2 (w : World) : Told 2 w := run.calls (by kernel_rfl)

theorem told_3 (w : World) : Told 3 w := run.calls (by kernel_rfl)

theorem told_4 (w : World) : Told 4 w := run.calls (by kernel_rfl)

theorem told_5 (w : World) : Told 5 w := run.calls (by kernel_rfl)

theorem told_6 (w : World) : Told 6 w := run.calls (by kernel_rfl)

theorem told_7 (w : World) : Told 7 w := run.calls (by kernel_rfl)

theorem told_8 (w : World) : Told 8 w := run.calls (by kernel_rfl)

theorem told_any (c : Nat) (h : c ≤ 8) (w : World) : Told c w :=
  match c, h with
  | 0, _ => told_0 w
  | 1, _ => told_1 w
  | 2, _ => told_2 w
  | 3, _ => told_3 w
  | 4, _ => told_4 w
  | 5, _ => told_5 w
  | 6, _ => told_6 w
  | 7, _ => told_7 w
  | 8, _ => told_8 w

end Go.Proofs.Ytgpgbbbcodnieaa.wid
