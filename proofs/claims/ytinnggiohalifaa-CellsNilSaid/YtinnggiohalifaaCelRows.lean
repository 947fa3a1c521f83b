/-
  Rows of cells as rows of values.
-/
import Derived.Test.YtinnggiohalifaaCelNew
import Derived.Laws.CopyRow
namespace Go.Proofs.Ytinnggiohalifaa.cel
open Go Go.RowKit Go.Proofs
set_option linter.unusedVariables false

def cells5 (L : List CV) : List Value := L.flatMap fun c => [.string c.text, .int .i8 c.wide, .int .i32 c.sty.fg, .int .i32 c.sty.bg, .int .u8 c.sty.att]
theorem cells5_cons (c : CV) (L : List CV) : cells5 (c :: L) = .string c.text :: .int .i8 c.wide :: .int .i32 c.sty.fg :: .int .i32 c.sty.bg :: .int .u8 c.sty.att :: cells5 L := rfl
theorem cells5_append (a b : List CV) : cells5 (a ++ b) = cells5 a ++ cells5 b := by simp [cells5]
theorem cells5_length : ∀ L : List CV, (cells5 L).length = L.length * 5
  | [] => rfl
  | c :: L => by rw [cells5_cons]; simp only [List.length_cons]; rw [cells5_length L]; omega
theorem cells5_get : ∀ (L : List CV) (k : Nat) (_ : k < L.length), (cells5 L)[k * 5]? = some (.string (L.getD k z0).text) ∧ (cells5 L)[k * 5 + 1]? = some (.int .i8 (L.getD k z0).wide) ∧ (cells5 L)[k * 5 + 2]? = some (.int .i32 (L.getD k z0).sty.fg) ∧ (cells5 L)[k * 5 + 3]? = some (.int .i32 (L.getD k z0).sty.bg) ∧ (cells5 L)[k * 5 + 4]? = some (.int .u8 (L.getD k z0).sty.att)
  | c :: L, 0, _ => ⟨rfl, rfl, rfl, rfl, rfl⟩
  | c :: L, k + 1, h => by
    have := cells5_get L k (by simpa using h)
    rw [cells5_cons, show (k + 1) * 5 = k * 5 + 1 + 1 + 1 + 1 + 1 by omega]
    exact this
theorem cells5_at {L : List CV} {j : Nat} {v : Value} (h : (cells5 L)[j]? = some v) : ∃ k, k < L.length ∧
    ((j = k * 5 ∧ v = .string (L.getD k z0).text) ∨ (j = k * 5 + 1 ∧ v = .int .i8 (L.getD k z0).wide) ∨ (j = k * 5 + 2 ∧ v = .int .i32 (L.getD k z0).sty.fg) ∨ (j = k * 5 + 3 ∧ v = .int .i32 (L.getD k z0).sty.bg) ∨ (j = k * 5 + 4 ∧ v = .int .u8 (L.getD k z0).sty.att)) := by
  have hj : j < L.length * 5 := by
    rw [← cells5_length]
    exact (List.getElem?_eq_some_iff.1 h).1
  obtain ⟨g0, g1, g2, g3, g4⟩ := cells5_get L (j / 5) (by omega)
  refine ⟨j / 5, by omega, ?_⟩
  have hm : j % 5 = 0 ∨ j % 5 = 1 ∨ j % 5 = 2 ∨ j % 5 = 3 ∨ j % 5 = 4 := by omega
  rcases hm with hm | hm | hm | hm | hm
  · have e : j = j / 5 * 5 := by omega
    rw [← e, h] at g0
    exact .inl ⟨e, Option.some.inj g0⟩
  · have e : j = j / 5 * 5 + 1 := by omega
    rw [← e, h] at g1
    exact .inr (.inl ⟨e, Option.some.inj g1⟩)
  · have e : j = j / 5 * 5 + 2 := by omega
    rw [← e, h] at g2
    exact .inr (.inr (.inl ⟨e, Option.some.inj g2⟩))
  · have e : j = j / 5 * 5 + 3 := by omega
    rw [← e, h] at g3
    exact .inr (.inr (.inr (.inl ⟨e, Option.some.inj g3⟩)))
  · have e : j = j / 5 * 5 + 4 := by omega
    rw [← e, h] at g4
    exact .inr (.inr (.inr (.inr ⟨e, Option.some.inj g4⟩)))
theorem Grid.cells {w : World} {g : Nat} {L : List CV} (h : Grid w g L) {j : Nat} {v : Value} (hj : (cells5 L)[j]? = some v) : w.cell? ⟨g, j, none⟩ = some v := by
  obtain ⟨k, hk, h1⟩ := cells5_at hj
  obtain ⟨c0, c1, c2, c3, c4⟩ := h.at hk
  rcases h1 with ⟨rfl, rfl⟩ | ⟨rfl, rfl⟩ | ⟨rfl, rfl⟩ | ⟨rfl, rfl⟩ | ⟨rfl, rfl⟩ <;> assumption
theorem one_cell5 {L : List CV} : ∀ v ∈ cells5 L, v.oneCell' = true := by
  intro v hv
  unfold cells5 at hv
  rw [List.mem_flatMap] at hv
  obtain ⟨c, -, h⟩ := hv
  simp only [List.mem_cons, List.not_mem_nil, or_false] at h
  rcases h with rfl | rfl | rfl | rfl | rfl <;> rfl

/-- a slice of cells to be read -/
def Reads5 (w : World) (v : Value) (L : List CV) : Prop :=
  ∃ a cap, v = .slice a L.length cap ∧ ∀ i, i < L.length → ∃ b off, a = some ⟨b, off, none⟩ ∧ b < w.heap.size ∧ w.cell? ⟨b, off + i * 5, none⟩ = some (.string (L.getD i z0).text) ∧ w.cell? ⟨b, off + i * 5 + 1, none⟩ = some (.int .i8 (L.getD i z0).wide) ∧ w.cell? ⟨b, off + i * 5 + 2, none⟩ = some (.int .i32 (L.getD i z0).sty.fg) ∧ w.cell? ⟨b, off + i * 5 + 3, none⟩ = some (.int .i32 (L.getD i z0).sty.bg) ∧ w.cell? ⟨b, off + i * 5 + 4, none⟩ = some (.int .u8 (L.getD i z0).sty.att)
theorem reads5_n {w : World} {v : Value} {L : List CV} (h : run.ReadsN 5 w v L.length (cells5 L)) : Reads5 w v L := by
  obtain ⟨hl, a, cap, rfl, hc, h0⟩ := h
  refine ⟨a, cap, rfl, fun i hi => ?_⟩
  obtain ⟨b, off, rfl, hb, hcell⟩ := hc (by intro e; have := congrArg List.length e; rw [cells5_length, List.length_nil] at this; omega)
  obtain ⟨g0, g1, g2, g3, g4⟩ := cells5_get L i hi
  exact ⟨b, off, rfl, hb, hcell _ _ g0, by rw [Nat.add_assoc]; exact hcell _ _ g1, by rw [Nat.add_assoc]; exact hcell _ _ g2, by rw [Nat.add_assoc]; exact hcell _ _ g3, by rw [Nat.add_assoc]; exact hcell _ _ g4⟩
theorem reads5_own {w : World} {base : Nat} {v : Value} {L : List CV} (h : w.ownsRow base 44 5 v L.length (cells5 L)) : Reads5 w v L := reads5_n (run.readsN_own h)
theorem Reads5.of {w w' : World} {v : Value} {L : List CV} (h : Reads5 w v L) (hs : w.heap.size ≤ w'.heap.size) (hb : ∀ k, v.ownBlock = some k → w'.heap[k]? = w.heap[k]?) : Reads5 w' v L := by
  obtain ⟨a, cap, rfl, h⟩ := h
  refine ⟨a, cap, rfl, fun i hi => ?_⟩
  obtain ⟨b, off, rfl, hlt, h0, h1, h2, h3, h4⟩ := h i hi
  have hbb := hb b rfl
  exact ⟨b, off, rfl, Nat.lt_of_lt_of_le hlt hs, (World.cell?_of_block (a := ⟨b, _, none⟩) hbb).trans h0, (World.cell?_of_block (a := ⟨b, _, none⟩) hbb).trans h1, (World.cell?_of_block (a := ⟨b, _, none⟩) hbb).trans h2, (World.cell?_of_block (a := ⟨b, _, none⟩) hbb).trans h3, (World.cell?_of_block (a := ⟨b, _, none⟩) hbb).trans h4⟩
theorem Reads5.below {w w' : World} {v : Value} {L : List CV} (h : Reads5 w v L) (hb : Below w.heap.size w w') : Reads5 w' v L := by
  obtain ⟨a, cap, rfl, h⟩ := h
  refine ⟨a, cap, rfl, fun i hi => ?_⟩
  obtain ⟨b, off, rfl, hlt, h0, h1, h2, h3, h4⟩ := h i hi
  have hbb := hb.block b hlt
  exact ⟨b, off, rfl, Nat.lt_of_lt_of_le hlt hb.size, (World.cell?_of_block (a := ⟨b, _, none⟩) hbb).trans h0, (World.cell?_of_block (a := ⟨b, _, none⟩) hbb).trans h1, (World.cell?_of_block (a := ⟨b, _, none⟩) hbb).trans h2, (World.cell?_of_block (a := ⟨b, _, none⟩) hbb).trans h3, (World.cell?_of_block (a := ⟨b, _, none⟩) hbb).trans h4⟩

/-- copy, between rows of elements of any size -/
theorem run_copy_rowN {P : Program} (w : World) (dT sT ty elem : TypeId) (size : Nat) (g o dLen dCap : Nat) (a : Addr) (sLen sCap : Nat) (cur : Array Value) (t : TypeId) (cs : List Value)
    (hu : P.underlying dT = some (.slice elem)) (hs : (P.info? elem).map (·.size) = some size)
    (hg : w.heap[g]? = some (.cells cur t (0, 0))) (hn : cs.length = Nat.min sLen dLen * size)
    (hsrc : ∀ j v, cs[j]? = some v → w.cell? (a.add j) = some v) (hfit : o + cs.length ≤ cur.size) (h1 : ∀ v ∈ cs, v.oneCell' = true) :
    (Builtin.copy_ #[dT, sT] ty #[.slice (some ⟨g, o, none⟩) dLen dCap, .slice (some a) sLen sCap]).run P w =
      .ok (goInt (Nat.min sLen dLen)) (w.setRow g (cur.toList.take o ++ cs ++ cur.toList.drop (o + cs.length)).toArray) := by
  have hl := run_loadCells_list (P := P) w a cs hsrc
  have hst := run_storeCells_at P g o t cs 0 cur w hg (by simpa using hfit) h1
  cases hq : P.info? elem with
  | none => simp [hq] at hs
  | some i =>
    have hi : i.size = size := by simpa [hq] using hs
    simp [Builtin.copy_, run_underlying hu, Builtin.lenOf, Builtin.firstCells, sizeOf, typeInfo, hq, hi, ← hn, hl, hst]
end Go.Proofs.Ytinnggiohalifaa.cel
