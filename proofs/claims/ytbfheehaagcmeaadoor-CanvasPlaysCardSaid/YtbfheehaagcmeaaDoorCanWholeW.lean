/-
  The operations of CanvasWhole's drawn regions (XLexOps).
-/
import Derived.Test.YtbfheehaagcmeaaDoorLexes
import Derived.Test.YtbfheehaagcmeaaDoorCanWholeP
import Derived.WalkKit
namespace Go.Proofs.YtbfheehaagcmeaaDoor.lex
open Go Go.Proofs
section
variable {P : Program} {Cal : FuncId → Array Value → World → (Ending → World → Prop) → Prop} {ops : Array Oper} {C : (Nat → Bool) → World → Prop} {Q : Act → Prop} {a : Act} {n : Nat}
theorem o_callE {i d : Nat} {o : Oper} {rest : List Oper} {l : List (Nat × Value)} (v : Value) (f : FuncId) (args : Array Value) (hv : ∀ D w, C D w → (execOp (look a l) o).run P w = .ok (.enter f args) w)
    (hc : ∀ D w, D i = false → C D w → Cal f args w (fun e w'' => e = .returned v ∧ C (mark D i) w'')) (h : walkO P Cal ops C Q a n (i + 1) rest ((d, v) :: l))
    (hd : o.dst = some d := by rfl) (hdn : Nat.blt d n = true := by rfl) (hw : Region.wanted o (yl ops (look a l)) = true := by rfl) : walkO P Cal ops C Q a n i (o :: rest) l :=
  ⟨v, .inl ⟨hw, fun D w h0 hC => by rw [hv D w hC]; exact hc D w h0 hC⟩, by rw [hd]; exact ⟨by simpa [Nat.blt_eq] using hdn, h⟩⟩
theorem o_end_at {Q : Act → Prop} {i : Nat} {l : List (Nat × Value)} (b : Act) (hb : ov a l = b) (h : Q b) : walkO P Cal ops C Q a n i [] l := by
  subst hb; exact h
end
section
variable {o : Oper} {ρ : Operand → Value} {w : World}
theorem w_move {p : Operand} {v : Value} (ho : o.op = .move p) (hx : ρ p = v) : (execOp ρ o).run Tryd.prog w = .ok (.value v) w := by
  unfold execOp
  simp only [ho, hx]
  rfl
theorem w_ix {t : TypeId} {k : Nat} {p q : Operand} {b off j : Nat} (ho : o.op = .indexAddr t p q) (hx : ρ p = .pointer (some ⟨b, off, none⟩)) (hy : ρ q = .int .i64 (j : Nat)) (hu : Tryd.prog.underlying t = some (.array k 3)) (hj : j < k) :
    (execOp ρ o).run Tryd.prog w = .ok (.value (.pointer (some ⟨b, off + j, none⟩))) w := by
  unfold execOp
  simp only [ho, hx, hy]
  simp [Instr.indexAt, Instr.sureAddr, run_underlying hu, asIntOf, go_sem]
  intro h; omega
theorem bool_neq (b : Bool) (w : World) : (binOp .neq 4 (.bool b) (.bool b)).run Tryd.prog w = .ok (.bool false) w := by cases b <;> kernel_rfl
theorem w_neq {t' : TypeId} {p q : Operand} {b : Bool} (ho : o.op = .binOp .neq 4 p q t') (hx : ρ p = .bool b) (hy : ρ q = .bool b) : (execOp ρ o).run Tryd.prog w = .ok (.value (.bool false)) w := by
  unfold execOp
  simp only [ho, hx, hy]
  simp [eqGuard, bool_neq, Result.andThen]
end
theorem info_arr2 : ∃ it, Tryd.prog.info? 22 = some it ∧ it.size = 2 := by
  have : (Tryd.prog.info? 22).map (·.size) = some 2 := by kernel_rfl
  cases h : Tryd.prog.info? 22 with
  | none => rw [h] at this; cases this
  | some it => rw [h] at this; simp at this; exact ⟨it, rfl, this⟩
theorem info_arr4 : ∃ it, Tryd.prog.info? 57 = some it ∧ it.size = 4 := by
  have : (Tryd.prog.info? 57).map (·.size) = some 4 := by kernel_rfl
  cases h : Tryd.prog.info? 57 with
  | none => rw [h] at this; cases this
  | some it => rw [h] at this; simp at this; exact ⟨it, rfl, this⟩
end Go.Proofs.YtbfheehaagcmeaaDoor.lex
