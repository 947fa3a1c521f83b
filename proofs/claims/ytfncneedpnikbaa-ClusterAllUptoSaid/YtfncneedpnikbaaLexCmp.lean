/-
  More operations for a drawn region walked in the order of the text (XLexOps): moves, lengths, comparisons, structs of a text and a number.
-/
import Derived.Test.YtfncneedpnikbaaLexOps
import Derived.Laws.StructEq
import Derived.WalkKit
import Derived.Test.YtfncneedpnikbaaProg
namespace Go.Proofs.Ytfncneedpnikbaa.lex
open Go Go.Proofs
theorem o_end_at {P : Program} {Cal : FuncId → Array Value → World → (Ending → World → Prop) → Prop} {ops : Array Oper} {C : (Nat → Bool) → World → Prop} {Q : Act → Prop} {a : Act} {n i : Nat} {l : List (Nat × Value)} (b : Act) (hb : ov a l = b) (h : Q b) : walkO P Cal ops C Q a n i [] l := by
  subst hb; exact h
section
variable {P : Program} {o : Oper} {ρ : Operand → Value} {w : World}
theorem run_move {p : Operand} {v : Value} (ho : o.op = .move p) (hx : ρ p = v) : (execOp ρ o).run P w = .ok (.value v) w := by
  unfold execOp
  simp only [ho, hx]
  rfl
theorem run_geq {t t' : TypeId} {p q : Operand} {x y : Int} {b : Bool} (ho : o.op = .binOp .geq t p q t') (hx : ρ p = .int .i64 x) (hy : ρ q = .int .i64 y) (h : decide (y ≤ x) = b) : (execOp ρ o).run P w = .ok (.value (.bool b)) w := by
  unfold execOp
  simp only [ho, hx, hy]
  simp [eqGuard, binOp, go_sem, ← h]
theorem run_neqI {t t' : TypeId} {p q : Operand} {x y : Int} {b : Bool} (ho : o.op = .binOp .neq t p q t') (hx : ρ p = .int .i64 x) (hy : ρ q = .int .i64 y) (h : (x != y) = b) : (execOp ρ o).run P w = .ok (.value (.bool b)) w := by
  unfold execOp
  simp only [ho, hx, hy]
  simp [eqGuard, binOp, go_sem, ← h]
theorem run_pick {c t e : Operand} {b : Bool} {v : Value} (ho : o.op = .pick c t e) (hc : ρ c = .bool b) (hv : (if b then ρ t else ρ e) = v) : (execOp ρ o).run P w = .ok (.value v) w := by
  unfold execOp
  simp only [ho, hc]
  cases b <;> simp at hv <;> simp [go_sem, hv]
end
section
variable {o : Oper} {ρ : Operand → Value} {w : World}
theorem len_clu (t : TypeId) (a : Option Addr) (n c : Nat) (w : World) : (Builtin.len_ #[22] t #[.slice a n c]).run Try.prog w = .ok (.int .i64 n) w := by kernel_rfl
theorem run_lenC {x : Operand} {a : Option Addr} {n c : Nat} (ho : o.op = .call { callee := .builtin .len, args := #[x], argTypes := #[22] }) (hx : ρ x = .slice a n c) : (execOp ρ o).run Try.prog w = .ok (.value (.int .i64 n)) w := by
  unfold execOp
  simp [ho, resolve, hx, invoke, go_sem, len_clu]
theorem load_clu {p : Operand} {b off : Nat} {st : ByteArray} {wd : Int} (ho : o.op = .load 30 p) (hx : ρ p = .pointer (some ⟨b, off, none⟩)) (h0 : w.cell? ⟨b, off, none⟩ = some (.string st)) (h1 : w.cell? ⟨b, off + 1, none⟩ = some (.int .i64 wd)) :
    (execOp ρ o).run Try.prog w = .ok (.value (.agg #[.string st, .int .i64 wd])) w := by
  unfold execOp
  simp only [ho, hx]
  simp [go_sem, h0, h1]
theorem neq_clu {p q : Operand} {t' : TypeId} {s s' : ByteArray} {x x' : Int} {b : Bool} (ho : o.op = .binOp .neq 30 p q t') (hx : ρ p = .agg #[.string s, .int .i64 x]) (hy : ρ q = .agg #[.string s', .int .i64 x']) (h : (!((s.toList == s'.toList) && (x == x'))) = b) :
    (execOp ρ o).run Try.prog w = .ok (.value (.bool b)) w := by
  unfold execOp
  simp only [ho, hx, hy]
  subst h
  cases h1 : (s.toList == s'.toList) <;> cases h2 : (x == x') <;> simp [go_sem, h1, h2]
end
end Go.Proofs.Ytfncneedpnikbaa.lex
