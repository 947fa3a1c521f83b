/-
  Rows that are owned, written in place: cleared from some place on, cut short.
-/
import Derived.Test.YtgpgbbbcodnieaaRowKit
import Derived.Lib.SliceRun
import Derived.BigFrame
namespace Go.Proofs.Ytgpgbbbcodnieaa.run
open Go Go.RowKit

theorem setCell_grown (w : World) (g j : Nat) (u : Value) : w.grownBy (w.setCell ⟨g, j, none⟩ u) (some g) :=
  ⟨rfl, rfl, rfl, by simp [World.setCell], fun i hi hne => Below.heap_setCell _ _ _ _ (by intro e; exact hne (by rw [e]))⟩

/-- an owned row behind writes from place o on: what lies ahead of o stands -/
theorem own_setCells {base e size g n cap : Nat} : ∀ (us : List Value) (o : Nat) (w : World) (xs : List Value), w.ownsRow base e size (.slice (some ⟨g, 0, none⟩) n cap) n xs →
    ∃ ys, (w.setCells g o us).ownsRow base e size (.slice (some ⟨g, 0, none⟩) n cap) n ys ∧ (∀ i, i ≤ o → ys.take i = xs.take i) ∧ w.grownBy (w.setCells g o us) (some g)
  | [], o, w, xs, h => ⟨xs, h, fun _ _ => rfl, World.grownBy.refl w _⟩
  | u :: r, o, w, xs, h => by
    obtain ⟨ys, h1, h2, h3⟩ := own_setCells r (o + 1) (w.setCell ⟨g, o, none⟩ u) (xs.set o u) (h.stored o u).1
    refine ⟨ys, h1, fun i hi => ?_, grown_trans (setCell_grown w g o u) h3 (.inl rfl)⟩
    rw [h2 i (by omega), List.take_set_of_le (by omega)]

/-- behind writes in a row that is owned from B on -/
theorem below_grown {B : Nat} {w0 w w' : World} {base e size n : Nat} {v : Value} {xs : List Value} (h : Below B w0 w) (hown : w.ownsRow base e size v n xs) (hg : w.grownBy w' v.ownBlock) (hb : B ≤ base) (hB : B ≤ w.heap.size) : Below B w0 w' :=
  h.grown hg hB fun k hk => Nat.le_trans hb (hown.lt k hk).1

/-- an owned row cut short -/
theorem own_cut {base e size g n k cap : Nat} {w : World} {xs : List Value} (h : w.ownsRow base e size (.slice (some ⟨g, 0, none⟩) n cap) n xs) (hk : k ≤ n) : w.ownsRow base e size (.slice (some ⟨g, 0, none⟩) k cap) k (xs.take (k * size)) := by
  have hl := h.1
  have hle : k * size ≤ n * size := Nat.mul_le_mul_right _ hk
  exact own_prefix (ys := xs.drop (k * size)) (by rw [List.length_take]; omega) hk (by rw [List.take_append_drop]; exact h)

/-- clear(s), s a slice of n > 0 elements of two cells each -/
theorem run_clear_two {P : Program} (w : World) (t e ty : TypeId) (z z0 z1 : Value) (ht : P.underlying t = some (.slice e)) (hv : ∀ w, (zeroValue e).run P w = .ok z w) (hz : z.cells = #[z0, z1]) (h1 : z0.oneCell' = true) (h2 : z1.oneCell' = true) (b o n c : Nat) (hn : 0 < n)
    (hc : ∀ j, j < n * 2 → (w.cell? ⟨b, o + j, none⟩).isSome = true) (hf : ∀ j, j < n * 2 → w.frozen? ⟨b, o + j, none⟩ = false) :
    ∃ us, (Builtin.clear_ #[t] ty #[.slice (some ⟨b, o, none⟩) n c]).run P w = .ok (.tuple #[]) (w.setCells b o us) := by
  have hl : (Builtin.zeroCells z.cells n).toList.length = n * 2 := by rw [hz]; simp [Builtin.zeroCells]
  have h12 : ∀ v ∈ (Builtin.zeroCells z.cells n).toList, v.oneCell' = true := by
    intro v hv
    rw [hz] at hv
    simp only [Builtin.zeroCells, Array.toList_map, List.mem_map] at hv
    obtain ⟨i, -, rfl⟩ := hv
    rcases Nat.mod_two_eq_zero_or_one i with hi | hi <;> simp [hi, h1, h2]
  have hst := run_storeCells_cells (P := P) b o (Builtin.zeroCells z.cells n).toList 0 w (by rw [hl]; simpa using hc) (by rw [hl]; simpa using hf) h12
  simp only [Nat.add_zero] at hst
  obtain ⟨m, rfl⟩ : ∃ m, n = m + 1 := ⟨n - 1, by omega⟩
  exact ⟨(Builtin.zeroCells z.cells (m + 1)).toList, by simp [Builtin.clear_, run_underlying ht, hv, hst]⟩

end Go.Proofs.Ytgpgbbbcodnieaa.run
