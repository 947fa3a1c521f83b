/-
  What a row's list gives: the row of dots as the program's text lays it; the world of a witness.
-/
import Derived.Test.YtbfheehaagcmeaaDoorCanDotA
import Derived.Test.YtbfheehaagcmeaaDoorCards
import Derived.Test.YtbfheehaagcmeaaDoorTie
import Derived.WalkKit
import Derived.ProofKit
import Derived.OpenShut
import Derived.Deep.DeepHandedRow
import Derived.Lib.LaidTab
import Derived.Lib.LaidU8
namespace Go.Proofs.YtbfheehaagcmeaaDoor.can
open Go.ChangeShapes Go.WideShapes Go.ChangeAt Go.RowKit

theorem gDots : Tryd.prog.globalNamed "fresco/canvas.dots" = some 2 := by kernel_rfl
theorem gDotsType : (Tryd.prog.globals[2]?).map (·.type) = some 121 := by kernel_rfl
theorem cellsRow : Tryd.prog.cellsOf 120 = 4 := by kernel_rfl
theorem cellsOne : Tryd.prog.cellsOf 5 = 1 := by kernel_rfl

theorem dots_of_laid {W : World} (h : laidMetH Tryd.prog [("fresco/canvas.dots", Rows.laid_fresco_canvas_dots)] W) : Dots W := by
  obtain ⟨ps, ⟨g, t, cs, fuel, p, q, hg, ht, hvar, hd, _, _⟩, _⟩ := h
  obtain rfl := Option.some.inj (gDots.symm.trans hg)
  obtain rfl := Option.some.inj (gDotsType.symm.trans ht)
  intro i j hi hj
  obtain ⟨fuel', d, q', hdi, hrow⟩ := Lib.array_elem Tryd.underlying121 hd i hi
  rw [cellsRow] at hrow
  have hcs : (cs.toList.drop (i * 4)).take 4 = (List.range 4).map fun k => Value.int .u8 (dotB i k) := by
    have hi2 : i = 0 ∨ i = 1 := by omega
    rcases hi2 with rfl | rfl
    · simp only [List.getElem?_cons_zero, Option.some.injEq] at hdi
      subst hdi
      exact Lib.cells_of_tab (zs := [1, 2, 4, 64]) Tryd.underlying120 Tryd.underlying5 cellsOne cellsRow hrow
    · simp only [List.getElem?_cons_succ, List.getElem?_cons_zero, Option.some.injEq] at hdi
      subst hdi
      exact Lib.cells_of_tab (zs := [8, 16, 32, 128]) Tryd.underlying120 Tryd.underlying5 cellsOne cellsRow hrow
  have h1 := World.var?_cell hg hvar (i * 4 + j)
  rw [h1]
  have h2 := congrArg (·[j]?) hcs
  simp only [List.getElem?_take_of_lt hj, List.getElem?_drop, Array.getElem?_toList] at h2
  rw [h2]
  simp [hj]

/-- A world that meets the condition: the settled one, the row of dots laid. -/
noncomputable def laidWorld (os : Os) : World :=
  { World.holding Tryd.prog os ⟨#[], #[], []⟩ with heap := (World.holding Tryd.prog os ⟨#[], #[], []⟩).heap.modify 2 fun
      | .cells _ t frozen => .cells #[.int .u8 1, .int .u8 2, .int .u8 4, .int .u8 64, .int .u8 8, .int .u8 16, .int .u8 32, .int .u8 128] t frozen
      | o => o }
theorem laid_met (os : Os) (args : Array Value) : laidMet Tryd.prog [("fresco/canvas.dots", Rows.laid_fresco_canvas_dots)] ((laidWorld os).forCall (fun _ _ => 0) ⟨#[], args, []⟩).memory :=
  laidMet_of_run' 8 (by kernel_rfl) (by kernel_rfl)
end Go.Proofs.YtbfheehaagcmeaaDoor.can
