/-
  Parts of rows of cells.
-/
import Derived.Test.YtinnggiohalifaaCelHelp
namespace Go.Proofs.Ytinnggiohalifaa.cel
open Go Go.RowKit Go.Proofs
set_option linter.unusedVariables false

/-- where a part of a row begins -/
def subA (a : Option Addr) (cap l size : Nat) : Option Addr := if cap = l then a else a.map (·.add (l * size))
section
variable {P : Program} {o : Oper} {ρ : Operand → Value} {w : World} {p q : Operand} {a : Option Addr} {len cap i size : Nat} {t e : TypeId} {it : TypeInfo}
theorem run_from (ho : o.op = .slice t p (some q) none none) (hx : ρ p = .slice a len cap) (hy : ρ q = .int .i64 (i : Nat)) (hi : i ≤ len) (ht : P.underlying t = some (.slice e)) (hs : P.info? e = some it) (hz : it.size = size) :
    (execOp ρ o).run P w = .ok (.value (.slice (subA a cap i size) (len - i) (cap - i))) w := by
  unfold execOp
  simp only [ho, hx]
  simp [Instr.sliceAt, Instr.slice, Instr.sliceBounds, Instr.sliceBound, run_underlying ht, asIntOf, go_sem, hy, sizeOf, typeInfo, hs, hz, subA]
  intro h
  omega
theorem run_upto (ho : o.op = .slice t p none (some q) none) (hx : ρ p = .slice a len cap) (hy : ρ q = .int .i64 (i : Nat)) (hi : i ≤ cap) (ht : P.underlying t = some (.slice e)) (hs : P.info? e = some it) (hz : it.size = size) :
    (execOp ρ o).run P w = .ok (.value (.slice a i cap)) w := by
  unfold execOp
  simp only [ho, hx]
  simp [Instr.sliceAt, Instr.slice, Instr.sliceBounds, Instr.sliceBound, run_underlying ht, asIntOf, go_sem, hy, sizeOf, typeInfo, hs]
  intro h
  omega
end
theorem reads5_sub {w : World} {a : Option Addr} {cap : Nat} {L : List CV} (h : Reads5 w (.slice a L.length cap) L) (hc : L.length ≤ cap) {l n : Nat} (hl : l + n ≤ L.length) : Reads5 w (.slice (subA a cap l 5) n (cap - l)) ((L.drop l).take n) := by
  have hlen : ((L.drop l).take n).length = n := by rw [List.length_take, List.length_drop]; omega
  refine ⟨_, _, by rw [hlen], fun i hi => ?_⟩
  rw [hlen] at hi
  obtain ⟨b, off, rfl, hb, c0, c1, c2, c3, c4⟩ := reads_cell h (i := l + i) (by omega)
  have hget : ((L.drop l).take n).getD i z0 = L.getD (l + i) z0 := by
    simp only [List.getD_eq_getElem?_getD]
    rw [List.getElem?_take_of_lt hi, List.getElem?_drop]
  rw [hget]
  have hsub : subA (some ⟨b, off, none⟩) cap l 5 = some ⟨b, off + l * 5, none⟩ := by
    unfold subA
    rw [if_neg (by omega)]
    simp only [Option.map_some, run.add_none]
  refine ⟨b, off + l * 5, hsub, hb, ?_⟩
  have e : off + (l + i) * 5 = off + l * 5 + i * 5 := by rw [Nat.add_mul]; omega
  rw [e] at c0 c1 c2 c3 c4
  exact ⟨c0, c1, c2, c3, c4⟩
end Go.Proofs.Ytinnggiohalifaa.cel
