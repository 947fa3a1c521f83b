/-
  The walks of the layer utf, for use in other layers.
-/
import Derived.Test.YtgpgbbbcodnieaaUtfText
namespace Go.Proofs.Ytgpgbbbcodnieaa.utf
open Go.RowKit Go.Proofs
set_option linter.unusedVariables false

/-- what Runes gives, for use: a value that reads as the characters, in memory of its own -/
theorem runes_use (s : ByteArray) (w : World) (hs : s.size < 4611686018427387904) (hn : (runes (bs s)).length ≤ 35184372088832) : Calls Try.prog 42 #[.string s] w fun e w' =>
    ∃ v, e = .returned v ∧ w'.ownsRow w.heap.size 21 1 v (runes (bs s)).length (rv (runes (bs s))) ∧ run.Reads w' v (rv (runes (bs s))) ∧ Below w.heap.size w w' ∧ (v = .slice none 0 0 ↔ runes (bs s) = []) :=
  (runes_any s w hs hn).mono fun _ _ ⟨v, he, ho, hb, hn⟩ => ⟨v, he, ho, run.reads_own ho, hb, hn⟩

theorem runes_len (s : ByteArray) : (runes (bs s)).length ≤ s.size := by
  have := runes_length _ (bs s) (Nat.le_refl _)
  rw [bs_length] at this; exact this

theorem toList_eq_iff (a b : ByteArray) : (a.toList == b.toList) = decide (a = b) := by
  rw [Bool.eq_iff_iff]
  simp only [beq_iff_eq, decide_eq_true_eq, ByteArray.toList_eq]
  constructor
  · intro h
    obtain ⟨⟨a⟩⟩ := a
    obtain ⟨⟨b⟩⟩ := b
    simp only at h
    rw [h]
  · intro h; rw [h]

theorem reads_get {w : World} {v : Value} {xs : List Value} (h : run.Reads w v xs) (h0 : xs ≠ []) : ∃ b off cap, v = .slice (some ⟨b, off, none⟩) xs.length cap ∧ b < w.heap.size ∧ ∀ i u, xs[i]? = some u → w.cell? ⟨b, off + i, none⟩ = some u := by
  obtain ⟨a, cap, rfl, h, _⟩ := h
  obtain ⟨b, off, rfl, hb, hc⟩ := h h0
  exact ⟨b, off, cap, rfl, hb, hc⟩

theorem two_new (w : World) (x y : Int) (t : TypeId) : run.Reads (w.alloc (.cells #[.int .i32 x, .int .i32 y] t)) (.slice (some ⟨w.heap.size, 0, none⟩) 2 2) (rv [x, y]) := by
  refine ⟨_, 2, rfl, fun _ => ⟨w.heap.size, 0, rfl, by simp, ?_⟩, fun h => by cases h⟩
  intro i u hi
  have hh := run.heap_new w (.cells #[.int .i32 x, .int .i32 y] t)
  simp only [World.cell?, Nat.zero_add]
  rw [hh]
  simpa [rv] using hi

end Go.Proofs.Ytgpgbbbcodnieaa.utf
