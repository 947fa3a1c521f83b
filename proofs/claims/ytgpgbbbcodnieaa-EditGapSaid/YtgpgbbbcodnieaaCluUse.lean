/-
  The clusters of a text, as they are seen: Split for use.
-/
import Derived.Test.YtgpgbbbcodnieaaCluSplit
namespace Go.Proofs.Ytgpgbbbcodnieaa.clu
open Go.RowKit Go.Proofs
open Go.Proofs.Ytgpgbbbcodnieaa.wid Go.Proofs.Ytgpgbbbcodnieaa.utf
set_option linter.unusedVariables false

/-- what of clusters is seen: text and width -/
def seen (l : List (List Int)) : List (ByteArray × Nat) := l.map fun p => (str (text p), wide p)
theorem seen_length (l : List (List Int)) : (seen l).length = l.length := by simp [seen]
def told (s : ByteArray) : List (ByteArray × Nat) := seen (cl (runes (bs s)))
def cells2 (l : List (ByteArray × Nat)) : List Value := l.flatMap fun q => [.string q.1, .int .i64 (q.2 : Nat)]
theorem cc_seen (l : List (List Int)) : cc l = cells2 (seen l) := by simp [cc, cells2, seen, List.flatMap_map]
theorem cells2_get : ∀ (l : List (ByteArray × Nat)) (i : Nat) (h : i < l.length), (cells2 l)[i * 2]? = some (.string (l.getD i (ByteArray.empty, 0)).1) ∧ (cells2 l)[i * 2 + 1]? = some (.int .i64 ((l.getD i (ByteArray.empty, 0)).2 : Nat))
  | q :: t, 0, _ => ⟨rfl, rfl⟩
  | q :: t, i + 1, h => by
    have := cells2_get t i (by simpa using h)
    have e : cells2 (q :: t) = .string q.1 :: .int .i64 (q.2 : Nat) :: cells2 t := rfl
    rw [e, show (i + 1) * 2 = i * 2 + 1 + 1 by omega]
    exact this
theorem cells2_length (l : List (ByteArray × Nat)) : (cells2 l).length = l.length * 2 := by
  induction l with
  | nil => rfl
  | cons q t ih =>
    have e : cells2 (q :: t) = .string q.1 :: .int .i64 (q.2 : Nat) :: cells2 t := rfl
    rw [e, List.length_cons, List.length_cons, ih, List.length_cons]; omega

/-- a slice of clusters to be read -/
def Reads2 (w : World) (v : Value) (l : List (ByteArray × Nat)) : Prop :=
  ∃ a cap, v = .slice a l.length cap ∧ ∀ i, i < l.length → ∃ b off, a = some ⟨b, off, none⟩ ∧ b < w.heap.size ∧ w.cell? ⟨b, off + i * 2, none⟩ = some (.string (l.getD i (ByteArray.empty, 0)).1) ∧ w.cell? ⟨b, off + i * 2 + 1, none⟩ = some (.int .i64 ((l.getD i (ByteArray.empty, 0)).2 : Nat))
theorem reads2_own {w : World} {base : Nat} {v : Value} {l : List (ByteArray × Nat)} (h : w.ownsRow base 74 2 v l.length (cells2 l)) : Reads2 w v l := by
  obtain ⟨hl, a, cap, rfl, hc, h0⟩ := run.readsN_own h
  refine ⟨a, cap, rfl, fun i hi => ?_⟩
  obtain ⟨b, off, rfl, hb, hcell⟩ := hc (by intro e; have := congrArg List.length e; rw [cells2_length, List.length_nil] at this; omega)
  obtain ⟨g1, g2⟩ := cells2_get l i hi
  exact ⟨b, off, rfl, hb, hcell _ _ g1, by rw [Nat.add_assoc]; exact hcell _ _ g2⟩
theorem Reads2.below {w w' : World} {v : Value} {l : List (ByteArray × Nat)} (h : Reads2 w v l) (hb : Below w.heap.size w w') : Reads2 w' v l := by
  obtain ⟨a, cap, rfl, h⟩ := h
  refine ⟨a, cap, rfl, fun i hi => ?_⟩
  obtain ⟨b, off, ha, hlt, h1, h2⟩ := h i hi
  exact ⟨b, off, ha, Nat.lt_of_lt_of_le hlt hb.size, (hb.cell (p := ⟨b, off + i * 2, none⟩) hlt).trans h1, (hb.cell (p := ⟨b, off + i * 2 + 1, none⟩) hlt).trans h2⟩

/-- Split, for use -/
theorem split_use (s : ByteArray) (w : World) (hs : s.size ≤ 1099511627776) : Calls Try.prog 63 #[.string s] w fun e w' =>
    ∃ v, e = .returned v ∧ w'.ownsRow w.heap.size 74 2 v (told s).length (cells2 (told s)) ∧ Reads2 w' v (told s) ∧ Below w.heap.size w w' :=
  (split_any s w hs).mono fun _ _ ⟨v, he, ho, hb⟩ => by
    rw [cc_seen, ← seen_length] at ho
    exact ⟨v, he, ho, reads2_own ho, hb⟩
theorem told_length (s : ByteArray) : (told s).length ≤ s.size := by
  unfold told
  rw [seen_length]
  exact Nat.le_trans (cl_length _ _ (Nat.le_refl _)) (runes_len s)

theorem told_add (l m : List (ByteArray × Nat)) {i : Nat} (h : i < l.length) : (l ++ m).getD i (ByteArray.empty, 0) = l.getD i (ByteArray.empty, 0) := by
  simp only [List.getD_eq_getElem?_getD]
  rw [List.getElem?_append_left h]
theorem told_sub (l m : List (ByteArray × Nat)) {i : Nat} (h : l.length ≤ i) : (l ++ m).getD i (ByteArray.empty, 0) = m.getD (i - l.length) (ByteArray.empty, 0) := by
  simp only [List.getD_eq_getElem?_getD]
  rw [List.getElem?_append_right h]
theorem eqs_start (xs ys : List (ByteArray × Nat)) : ∀ j, j < 0 → xs.getD j (ByteArray.empty, 0) = ys.getD j (ByteArray.empty, 0) := by intro j hj; omega
theorem eqs_next {xs ys : List (ByteArray × Nat)} {k : Nat} (h : ∀ j, j < k → xs.getD j (ByteArray.empty, 0) = ys.getD j (ByteArray.empty, 0)) (hk : xs.getD k (ByteArray.empty, 0) = ys.getD k (ByteArray.empty, 0)) : ∀ j, j < k + 1 → xs.getD j (ByteArray.empty, 0) = ys.getD j (ByteArray.empty, 0) := by
  intro j hj
  by_cases e : j = k
  · subst e; exact hk
  · exact h j (by omega)
theorem eqs_end {xs ys : List (ByteArray × Nat)} (hl : xs.length = ys.length) (h : ∀ j, j < xs.length → xs.getD j (ByteArray.empty, 0) = ys.getD j (ByteArray.empty, 0)) : xs = ys := by
  apply List.ext_getElem hl
  intro i h1 h2
  have := h i h1
  simpa [List.getD_eq_getElem?_getD, h1, h2] using this
theorem nes_at {xs ys : List (ByteArray × Nat)} {k : Nat} (h : xs.getD k (ByteArray.empty, 0) ≠ ys.getD k (ByteArray.empty, 0)) : xs ≠ ys := by intro e; subst e; exact h rfl
theorem nes_len {xs ys : List (ByteArray × Nat)} (h : xs.length ≠ ys.length) : xs ≠ ys := by intro e; subst e; exact h rfl

theorem new_two (w : World) (x y : Value) (t : TypeId) : (w.alloc (.cells #[x, y] t)).cell? ⟨w.heap.size, 0, none⟩ = some x ∧ (w.alloc (.cells #[x, y] t)).cell? ⟨w.heap.size, 1, none⟩ = some y := by
  constructor <;> (simp only [World.cell?]; rw [run.heap_new]; rfl)

end Go.Proofs.Ytgpgbbbcodnieaa.clu
