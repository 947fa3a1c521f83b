/-
  A piece of code behind a cut, walked by itself: nothing of what follows is carried along.
-/
import Derived.Test.YtbhhfagifdjmmaaGreatRun
import Derived.Deep.Light
import Derived.Deep.DeepCutAuto
namespace Go.Proofs.YtbhhfagifdjmmaaGreat.run
open Go.RowKit Go.Proofs

theorem alone {P : Program} {c : Code} {R J K' : Act → World → Prop} {Q0 : Exit → Act → World → Prop} {a : Act} {w : World} (hJ : ∀ a w, Met J a w → K' a w) (hR : ∀ a w, R a w → J a w)
    (h : ∀ J K : Act → World → Prop, (∀ a w, R a w → J a w) → (∀ a w, Met J a w → K a w) → c.wp P (Exit.then K (fun _ _ _ => False)) a w) : c.wp P (Exit.then K' Q0) a w := by
  refine wp_mono (h J K' hR hJ) ?_
  intro e a' w' hq
  cases e with
  | normal => exact hq
  | exit id => exact hq.elim
  | goto l => exact hq.elim
  | ret => exact hq.elim
  | panic ch => exact hq.elim
  | outgrown => exact hq.elim
end Go.Proofs.YtbhhfagifdjmmaaGreat.run
