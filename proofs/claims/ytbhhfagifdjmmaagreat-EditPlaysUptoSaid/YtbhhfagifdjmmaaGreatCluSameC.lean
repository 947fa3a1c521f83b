/-
  Two lists of clusters held against each other.
-/
import Derived.Test.YtbhhfagifdjmmaaGreatCluUse
namespace Go.Proofs.YtbhhfagifdjmmaaGreat.clu
open Go.RowKit Go.Proofs
open Go.Proofs.YtbhhfagifdjmmaaGreat.wid Go.Proofs.YtbhhfagifdjmmaaGreat.utf
set_option linter.unusedVariables false

abbrev CV := ByteArray × Int
def c0 : CV := (ByteArray.empty, 0)
/-- the cells of clusters, any widths -/
def cellsI (l : List CV) : List Value := l.flatMap fun q => [.string q.1, .int .i64 q.2]
def upI (l : List (ByteArray × Nat)) : List CV := l.map fun q => (q.1, (q.2 : Int))
theorem cells_up (l : List (ByteArray × Nat)) : cells2 l = cellsI (upI l) := by unfold cells2 cellsI upI; rw [List.flatMap_map]
theorem upI_length (l : List (ByteArray × Nat)) : (upI l).length = l.length := by simp [upI]
theorem upI_inj : ∀ {l m : List (ByteArray × Nat)}, upI l = upI m → l = m
  | [], [], _ => rfl
  | [], _ :: _, h => by simp [upI] at h
  | _ :: _, [], h => by simp [upI] at h
  | (a, b) :: t, (c, d) :: u, h => by
    simp only [upI, List.map_cons, List.cons.injEq, Prod.mk.injEq] at h
    obtain ⟨⟨rfl, e⟩, h⟩ := h
    rw [upI_inj (l := t) (m := u) h, show b = d by omega]
theorem cellsI_get : ∀ (l : List CV) (i : Nat) (h : i < l.length), (cellsI l)[i * 2]? = some (.string (l.getD i c0).1) ∧ (cellsI l)[i * 2 + 1]? = some (.int .i64 (l.getD i c0).2)
  | q :: t, 0, _ => ⟨rfl, rfl⟩
  | q :: t, i + 1, h => by
    have := cellsI_get t i (by simpa using h)
    have e : cellsI (q :: t) = .string q.1 :: .int .i64 q.2 :: cellsI t := rfl
    rw [e, show (i + 1) * 2 = i * 2 + 1 + 1 by omega]
    exact this
theorem cellsI_length (l : List CV) : (cellsI l).length = l.length * 2 := by
  induction l with
  | nil => rfl
  | cons q t ih =>
    have e : cellsI (q :: t) = .string q.1 :: .int .i64 q.2 :: cellsI t := rfl
    rw [e, List.length_cons, List.length_cons, ih, List.length_cons]; omega
theorem cellsI_append (l m : List CV) : cellsI (l ++ m) = cellsI l ++ cellsI m := by simp [cellsI]

/-- a slice of clusters to be read -/
def ReadsI (w : World) (v : Value) (l : List CV) : Prop :=
  ∃ a cap, v = .slice a l.length cap ∧ ∀ i, i < l.length → ∃ b off, a = some ⟨b, off, none⟩ ∧ b < w.heap.size ∧ w.cell? ⟨b, off + i * 2, none⟩ = some (.string (l.getD i c0).1) ∧ w.cell? ⟨b, off + i * 2 + 1, none⟩ = some (.int .i64 (l.getD i c0).2)
theorem readsI_of {w : World} {v : Value} {l : List CV} (h : run.ReadsN 2 w v l.length (cellsI l)) : ReadsI w v l := by
  obtain ⟨hl, a, cap, rfl, hc, h0⟩ := h
  refine ⟨a, cap, rfl, fun i hi => ?_⟩
  obtain ⟨b, off, rfl, hb, hcell⟩ := hc (by intro e; have := congrArg List.length e; rw [cellsI_length, List.length_nil] at this; omega)
  obtain ⟨g1, g2⟩ := cellsI_get l i hi
  exact ⟨b, off, rfl, hb, hcell _ _ g1, by rw [Nat.add_assoc]; exact hcell _ _ g2⟩
theorem readsI_own {w : World} {base : Nat} {v : Value} {l : List CV} (h : w.ownsRow base 40 2 v l.length (cellsI l)) : ReadsI w v l := readsI_of (run.readsN_own h)
theorem readsI_up {w : World} {v : Value} {l : List (ByteArray × Nat)} (h : Reads2 w v l) : ReadsI w v (upI l) := by
  obtain ⟨a, cap, rfl, h⟩ := h
  refine ⟨a, cap, by rw [upI_length], fun i hi => ?_⟩
  rw [upI_length] at hi
  obtain ⟨b, off, ha, hlt, h1, h2⟩ := h i hi
  have e : (upI l).getD i c0 = ((l.getD i (ByteArray.empty, 0)).1, ((l.getD i (ByteArray.empty, 0)).2 : Int)) := by simp [upI, List.getD_eq_getElem?_getD, hi]
  rw [e]
  exact ⟨b, off, ha, hlt, h1, h2⟩
theorem ReadsI.below {w w' : World} {v : Value} {l : List CV} (h : ReadsI w v l) (hb : Below w.heap.size w w') : ReadsI w' v l := by
  obtain ⟨a, cap, rfl, h⟩ := h
  refine ⟨a, cap, rfl, fun i hi => ?_⟩
  obtain ⟨b, off, ha, hlt, h1, h2⟩ := h i hi
  exact ⟨b, off, ha, Nat.lt_of_lt_of_le hlt hb.size, (hb.cell (p := ⟨b, off + i * 2, none⟩) hlt).trans h1, (hb.cell (p := ⟨b, off + i * 2 + 1, none⟩) hlt).trans h2⟩

theorem ceq_start (xs ys : List CV) : ∀ j, j < 0 → xs.getD j c0 = ys.getD j c0 := by intro j hj; omega
theorem ceq_next {xs ys : List CV} {k : Nat} (h : ∀ j, j < k → xs.getD j c0 = ys.getD j c0) (hk : xs.getD k c0 = ys.getD k c0) : ∀ j, j < k + 1 → xs.getD j c0 = ys.getD j c0 := by
  intro j hj
  by_cases e : j = k
  · subst e; exact hk
  · exact h j (by omega)
theorem ceq_end {xs ys : List CV} (hl : xs.length = ys.length) (h : ∀ j, j < xs.length → xs.getD j c0 = ys.getD j c0) : xs = ys := by
  apply List.ext_getElem hl
  intro i h1 h2
  have := h i h1
  simpa [List.getD_eq_getElem?_getD, h1, h2] using this
def sameC (xs ys : List CV) : Bool := decide (xs = ys)
theorem sameC_self (xs : List CV) : sameC xs xs = true := decide_eq_true rfl
theorem sameC_len {xs ys : List CV} (h : xs.length ≠ ys.length) : sameC xs ys = false := decide_eq_false (by intro e; subst e; exact h rfl)
theorem sameC_at {xs ys : List CV} {k : Nat} (h : xs.getD k c0 ≠ ys.getD k c0) : sameC xs ys = false := decide_eq_false (by intro e; subst e; exact h rfl)

end Go.Proofs.YtbhhfagifdjmmaaGreat.clu
