/-
  Slices cut out of slices, as operations; a step made, stored, appended.
-/
import Derived.Test.YtgfjaegjkklcpaaEdGo
namespace Go.Proofs.Ytgfjaegjkklcpaa.ed
open Go Go.RowKit Go.Proofs
set_option linter.unusedVariables false
/-- where a stretch of a slice begins -/
def cutAt (k : Nat) (a : Option Addr) (cap lo : Nat) : Option Addr :=
  match a with
  | none => none
  | some p => some ⟨p.block, p.off + (if cap = lo then 0 else lo * k), none⟩
/-- a slice's address -/
def Adr (a : Option Addr) (cap : Nat) : Prop := (a = none ∧ cap = 0) ∨ ∃ b off, a = some ⟨b, off, none⟩
theorem Src.adr {k : Nat} {w : World} {a : Option Addr} {m c : Nat} {cs : List Value} (h : Src k w a m c cs) : Adr a c := by
  rcases h.at' with ⟨h1, -, h2⟩ | ⟨b, off, h1, -⟩
  · exact .inl ⟨h1, h2⟩
  · exact .inr ⟨b, off, h1⟩
section
variable {P : Program} {o : Oper} {ρ : Operand → Value} {w : World} {p q q' : Operand} {a : Option Addr} {len cap i j size : Nat} {t e : TypeId} {it : TypeInfo}
theorem run_partA (ho : o.op = .slice t p (some q) (some q') none) (hx : ρ p = .slice a len cap) (hy : ρ q = .int .i64 (i : Nat)) (hy' : ρ q' = .int .i64 (j : Nat)) (ha : Adr a cap) (hi : i ≤ j) (hj : j ≤ cap) (ht : P.underlying t = some (.slice e)) (hs : P.info? e = some it) (hz : it.size = size) :
    (execOp ρ o).run P w = .ok (.value (.slice (cutAt size a cap i) (j - i) (cap - i))) w := by
  unfold execOp
  simp only [ho, hx]
  rw [show (Instr.sliceAt t (.slice a len cap) (Option.map ρ (some q)) (Option.map ρ (some q')) (Option.map ρ none)) = Instr.sliceAt t (.slice a len cap) (some (.int .i64 (i : Nat))) (some (.int .i64 (j : Nat))) none by simp [hy, hy']]
  have h1 : (0 : Int) ≤ ((j : Nat) : Int) ∧ ((j : Nat) : Int) ≤ (cap : Int) := by omega
  have h2 : (0 : Int) ≤ ((i : Nat) : Int) ∧ ((i : Nat) : Int) ≤ (j : Int) := by omega
  simp only [Instr.sliceAt, Instr.slice, Instr.sliceBounds, Instr.sliceBound, run_underlying ht, asIntOf, Sem.run_bind, Sem.run_pure, Result.andThen_ok, h1, if_true, h2, Int.toNat_natCast, and_self]
  rcases ha with ⟨rfl, rfl⟩ | ⟨b, off, rfl⟩
  · have : j = 0 := by omega
    subst this
    have : i = 0 := by omega
    subst this
    simp [sizeOf, typeInfo, hs, hz, cutAt, go_sem]
  · simp [sizeOf, typeInfo, hs, hz, cutAt, go_sem, Addr.add]
    by_cases hci : cap = i
    · rw [if_pos hci, if_pos hci]; rfl
    · rw [if_neg hci, if_neg hci]
      split
      · rename_i h0; rw [h0]; rfl
      · rfl
/-- up to a place, the room cut too -/
theorem run_headA {q3 : Operand} (ho : o.op = .slice t p none (some q) (some q3)) (hx : ρ p = .slice a len cap) (hy : ρ q = .int .i64 (j : Nat)) (hy' : ρ q3 = .int .i64 (j : Nat)) (ha : Adr a cap) (hj : j ≤ cap) (ht : P.underlying t = some (.slice e)) (hs : P.info? e = some it) (hz : it.size = size) :
    (execOp ρ o).run P w = .ok (.value (.slice a j j)) w := by
  unfold execOp
  simp only [ho, hx]
  rw [show (Instr.sliceAt t (.slice a len cap) (Option.map ρ none) (Option.map ρ (some q)) (Option.map ρ (some q3))) = Instr.sliceAt t (.slice a len cap) none (some (.int .i64 (j : Nat))) (some (.int .i64 (j : Nat))) by simp [hy, hy']]
  have h1 : (0 : Int) ≤ ((j : Nat) : Int) ∧ ((j : Nat) : Int) ≤ (cap : Int) := by omega
  simp only [Instr.sliceAt, Instr.slice, Instr.sliceBounds, Instr.sliceBound, run_underlying ht, asIntOf, Sem.run_bind, Sem.run_pure, Result.andThen_ok, h1, if_true, Int.toNat_natCast, and_self]
  rcases ha with ⟨rfl, rfl⟩ | ⟨b, off, rfl⟩
  · have : j = 0 := by omega
    subst this
    simp [sizeOf, typeInfo, hs, hz, go_sem, Addr.add]
  · simp [sizeOf, typeInfo, hs, hz, go_sem, Addr.add]
end
/-- a stretch of a row that is read -/
theorem src_cut {w : World} {a : Option Addr} {n c : Nat} {F : List TV} (h : Src 2 w a n c (cellsT F)) (hn : F.length = n) {lo hi : Nat} (h1 : lo ≤ hi) (h2 : hi ≤ n) (hnc : n ≤ c) : Src 2 w (cutAt 2 a c lo) (hi - lo) (c - lo) (cellsT ((F.drop lo).take (hi - lo))) := by
  have hlen : ((F.drop lo).take (hi - lo)).length = hi - lo := by rw [List.length_take, List.length_drop]; omega
  refine ⟨by rw [cellsT_length, hlen], cellsT_one _, ?_⟩
  rcases h.at' with ⟨rfl, h0, hc⟩ | ⟨b, off, rfl, hlt, hcell⟩
  · exact .inl ⟨rfl, by omega, by omega⟩
  · refine .inr ⟨b, off + (if c = lo then 0 else lo * 2), rfl, hlt, fun j v hj => ?_⟩
    have hjl : j < (hi - lo) * 2 := by
      have := (List.getElem?_eq_some_iff.1 hj).1
      rw [cellsT_length, hlen] at this
      exact this
    rw [if_neg (by omega), show off + lo * 2 + j = off + (lo * 2 + j) by omega]
    refine hcell _ _ ?_
    rw [← cellsT_take (F.drop lo) (hi - lo) (by rw [List.length_drop]; omega), List.getElem?_take_of_lt hjl, ← cellsT_drop F (by omega), List.getElem?_drop] at hj
    exact hj
/-- such a stretch lies where the row lies -/
theorem cutAt_blk {k : Nat} {a : Option Addr} {c lo b off : Nat} (h : cutAt k a c lo = some ⟨b, off, none⟩) : ∃ off', (a = some ⟨b, off', none⟩ ∨ ∃ x, a = some ⟨b, off', x⟩) := by
  cases a with
  | none => cases h
  | some p =>
    obtain ⟨b', off', x⟩ := p
    simp only [cutAt, Option.some.injEq, Addr.mk.injEq] at h
    obtain ⟨rfl, -, -⟩ := h
    exact ⟨off', .inr ⟨x, rfl⟩⟩
section
variable {o : Oper} {ρ : Operand → Value} {w : World} {p q r s t u : Operand}
abbrev zeroStep : Obj := .cells #[.int .i64 0, .slice none 0 0, .slice none 0 0, .int .i64 0, .int .i64 0] 88
theorem run_build5 {x1 x4 x5 : Int} {a2 a3 : Option Addr} {n2 c2 n3 c3 : Nat} (ho : o.op = .build 88 #[(0, p), (1, q), (2, r), (3, s), (4, t)]) (hp : ρ p = .int .i64 x1) (hq : ρ q = .slice a2 n2 c2) (hr : ρ r = .slice a3 n3 c3) (hs : ρ s = .int .i64 x4) (ht : ρ t = .int .i64 x5) : (execOp ρ o).run Try.prog w = .ok (.value (.agg #[.int .i64 x1, .slice a2 n2 c2, .slice a3 n3 c3, .int .i64 x4, .int .i64 x5])) w := by
  unfold execOp
  simp only [ho]
  simp [hp, hq, hr, hs, ht, go_sem]
theorem run_alloc5 (ho : o.op = .alloc 88) : (execOp ρ o).run Try.prog w = .ok (.value (.pointer (some ⟨w.heap.size, 0, none⟩))) (w.alloc zeroStep) := by
  unfold execOp
  simp only [ho]
  simp [go_sem]
theorem run_store5 {x1 x4 x5 : Int} {a2 a3 : Option Addr} {n2 c2 n3 c3 : Nat} (ho : o.op = .store 88 p q) (hp : ρ p = .pointer (some ⟨w.heap.size, 0, none⟩)) (hq : ρ q = .agg #[.int .i64 x1, .slice a2 n2 c2, .slice a3 n3 c3, .int .i64 x4, .int .i64 x5]) :
    (execOp ρ o).run Try.prog (w.alloc zeroStep) = .ok .skip (w.alloc (.cells #[.int .i64 x1, .slice a2 n2 c2, .slice a3 n3 c3, .int .i64 x4, .int .i64 x5] 88)) := by
  unfold execOp zeroStep
  simp only [ho, hp, hq]
  simp [go_sem]
end
end Go.Proofs.Ytgfjaegjkklcpaa.ed
