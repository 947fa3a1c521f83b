/-
  Slices built and appended, as steps of the walk in the text's order.
-/
import Derived.Test.YtinnggiohalifaaLxS
import Derived.Test.YtinnggiohalifaaCelC
namespace Go.Proofs.Ytinnggiohalifaa.cel
open Go Go.RowKit Go.Proofs
set_option linter.unusedVariables false

theorem run_append {P : Program} {o : Oper} {ρ : Operand → Value} {w w' : World} {s x : Operand} {t : TypeId} {v xv v' : Value} (ho : o.op = .call { callee := .builtin .append, args := #[s, x], argTypes := #[t, t] }) (hs : ρ s = v) (hx : ρ x = xv)
    (hr : (Builtin.append_ #[t, t] o.type #[v, xv]).run P w = .ok v' w') : (execOp ρ o).run P w = .ok (.value v') w' := by
  unfold execOp
  simp only [ho, resolve, invoke, builtin, Sem.run_bind, Sem.run_pure, Result.andThen_ok, List.map_toArray, List.map_cons, List.map_nil, hs, hx, hr]
/-- two cells built as a slice -/
theorem run_build2 {o : Oper} {ρ : Operand → Value} {w : World} {p q : Operand} {c d : CV} (ho : o.op = .buildSlice 35 2 #[(0, p), (1, q)]) (hx : ρ p = c.val) (hy : ρ q = d.val) :
    (execOp ρ o).run Try.prog w = .ok (.value (.slice (some ⟨w.heap.size, 0, none⟩) 2 2)) (w.alloc (.cells #[.string c.text, .int .i8 c.wide, .int .i32 c.sty.fg, .int .i32 c.sty.bg, .int .u8 c.sty.att, .string d.text, .int .i8 d.wide, .int .i32 d.sty.fg, .int .i32 d.sty.bg, .int .u8 d.sty.att] 44)) := by
  unfold execOp
  simp only [ho]
  simp [hx, hy, go_sem, CV.val]
end Go.Proofs.Ytinnggiohalifaa.cel
