/-
  For the editor: worlds that turn in some blocks alone (Kept); rows with a gap, as plain lists (HasC); stretches copied.
-/
import Derived.Test.YtgfjaegjkklcpaaLxS
import Derived.Test.YtgfjaegjkklcpaaRowKit
import Derived.Laws.CopyOwn
import Derived.Laws.MakeOwn
namespace Go.Proofs.Ytgfjaegjkklcpaa.ed
open Go Go.RowKit Go.Proofs
set_option linter.unusedVariables false

/-- of what was there, nothing turns but what S names -/
structure Kept (S : Nat → Prop) (w w' : World) : Prop where
  os : w'.os = w.os
  tape : w'.tape = w.tape
  output : w'.output = w.output
  size : w.heap.size ≤ w'.heap.size
  block : ∀ k, k < w.heap.size → ¬ S k → w'.heap[k]? = w.heap[k]?
theorem Kept.refl (S : Nat → Prop) (w : World) : Kept S w w := ⟨rfl, rfl, rfl, Nat.le_refl _, fun _ _ _ => rfl⟩
theorem Kept.trans {S S' : Nat → Prop} {w w' w'' : World} (h : Kept S w w') (h' : Kept S' w' w'') (hs : ∀ k, k < w.heap.size → S' k → S k) : Kept S w w'' :=
  ⟨h'.os.trans h.os, h'.tape.trans h.tape, h'.output.trans h.output, Nat.le_trans h.size h'.size, fun k hk hn => (h'.block k (Nat.lt_of_lt_of_le hk h.size) (fun h2 => hn (hs k hk h2))).trans (h.block k hk hn)⟩
theorem Kept.more {S S' : Nat → Prop} {w w' : World} (h : Kept S w w') (hs : ∀ k, k < w.heap.size → S k → S' k) : Kept S' w w' := ⟨h.os, h.tape, h.output, h.size, fun k hk hn => h.block k hk (fun h2 => hn (hs k hk h2))⟩
theorem Kept.of_below {S : Nat → Prop} {w w' : World} (h : Below w.heap.size w w') : Kept S w w' := ⟨h.os, h.tape, h.output, h.size, fun k hk _ => h.block k hk⟩
theorem Kept.below {S : Nat → Prop} {w w' : World} {B : Nat} (h : Kept S w w') (hB : B ≤ w.heap.size) (hs : ∀ k, k < w.heap.size → S k → B ≤ k) : Below B w w' :=
  ⟨h.os, h.tape, h.output, h.size, fun k hk => h.block k (Nat.lt_of_lt_of_le hk hB) (fun h2 => by have := hs k (Nat.lt_of_lt_of_le hk hB) h2; omega)⟩
theorem Kept.drew {S : Nat → Prop} {w w' : World} (h : Kept S w w') : Kept S w w'.drew := ⟨h.os, h.tape, h.output, h.size, h.block⟩
theorem Kept.setRow {S : Nat → Prop} {w w' : World} {b : Nat} (h : Kept S w w') (hb : S b ∨ w.heap.size ≤ b) (cs : Array Value) : Kept S w (w'.setRow b cs) := by
  refine ⟨h.os, h.tape, h.output, by rw [show (w'.setRow b cs).heap.size = w'.heap.size by simp [World.setRow]]; exact h.size, fun k hk hn => ?_⟩
  have hne : k ≠ b := by
    rintro rfl
    rcases hb with h1 | h1
    · exact hn h1
    · omega
  rw [setRow_other _ _ _ _ (by first | exact hne | exact hne.symm)]
  exact h.block k hk hn
theorem blk_old {w : World} (o : Obj) {k : Nat} (h : k < w.heap.size) : (w.alloc o).heap[k]? = w.heap[k]? := by
  show (w.heap.push o)[k]? = _
  rw [Array.getElem?_push, if_neg (by omega)]
theorem Kept.alloc {S : Nat → Prop} {w w' : World} (h : Kept S w w') (o : Obj) : Kept S w (w'.alloc o) := by
  refine ⟨h.os, h.tape, h.output, by rw [World.size_alloc]; have := h.size; omega, fun k hk hn => ?_⟩
  have := h.size
  exact (blk_old o (by omega)).trans (h.block k hk hn)

/-- a row with a gap from f up to u, of c cells, holds these -/
def HasC (c f u : Nat) (L C : List Value) : Prop := L.take f ++ (L.drop u).take (c - u) = C
def spl (L : List Value) (o : Nat) (cs : List Value) : List Value := L.take o ++ cs ++ L.drop (o + cs.length)
theorem spl_length {L : List Value} {o : Nat} {cs : List Value} (h : o + cs.length ≤ L.length) : (spl L o cs).length = L.length := by
  unfold spl
  simp only [List.length_append, List.length_take, List.length_drop]
  omega
theorem spl_get {L : List Value} {o : Nat} {cs : List Value} (h : o + cs.length ≤ L.length) (j : Nat) : (spl L o cs)[j]? = if j < o then L[j]? else if j < o + cs.length then cs[j - o]? else L[j]? := by
  unfold spl
  by_cases h1 : j < o
  · rw [if_pos h1, List.append_assoc, List.getElem?_append_left (by rw [List.length_take]; omega), List.getElem?_take_of_lt h1]
  · rw [if_neg h1]
    by_cases h2 : j < o + cs.length
    · rw [if_pos h2, List.getElem?_append_left (by rw [List.length_append, List.length_take]; omega), List.getElem?_append_right (by rw [List.length_take]; omega), List.length_take, Nat.min_eq_left (by omega)]
    · rw [if_neg h2, List.getElem?_append_right (by rw [List.length_append, List.length_take]; omega), List.getElem?_drop, List.length_append, List.length_take, Nat.min_eq_left (by omega)]
      congr 1
      omega
theorem seg_get (L : List Value) (a m j : Nat) : ((L.drop a).take m)[j]? = if j < m then L[a + j]? else none := by
  by_cases h : j < m
  · rw [if_pos h, List.getElem?_take_of_lt h, List.getElem?_drop]
  · rw [if_neg h]; exact List.getElem?_eq_none (by rw [List.length_take]; omega)
theorem seg_len {L : List Value} {a m : Nat} (h : a + m ≤ L.length) : ((L.drop a).take m).length = m := by rw [List.length_take, List.length_drop]; omega
theorem has_get {c f u : Nat} {L C : List Value} (h : HasC c f u L C) (hf : f ≤ L.length) (huc : u ≤ c) (hc : c ≤ L.length) (j : Nat) : C[j]? = if j < f then L[j]? else if j < f + (c - u) then L[u + (j - f)]? else none := by
  unfold HasC at h
  rw [← h]
  by_cases h1 : j < f
  · rw [if_pos h1, List.getElem?_append_left (by rw [List.length_take]; omega), List.getElem?_take_of_lt h1]
  · rw [if_neg h1, List.getElem?_append_right (by rw [List.length_take]; omega), seg_get, List.length_take, Nat.min_eq_left hf]
    by_cases h2 : j < f + (c - u)
    · rw [if_pos h2, if_pos (by omega)]
    · rw [if_neg h2, if_neg (by omega)]
theorem has_len {c f u : Nat} {L C : List Value} (h : HasC c f u L C) (hf : f ≤ L.length) (huc : u ≤ c) (hc : c ≤ L.length) : C.length = f + (c - u) := by
  unfold HasC at h
  rw [← h, List.length_append, List.length_take, List.length_take, List.length_drop]
  omega
theorem has_of {c f u : Nat} {L C : List Value} (hf : f ≤ L.length) (huc : u ≤ c) (hc : c ≤ L.length) (hg : ∀ j, C[j]? = if j < f then L[j]? else if j < f + (c - u) then L[u + (j - f)]? else none) : HasC c f u L C := by
  unfold HasC
  apply List.ext_getElem?
  intro j
  rw [hg]
  by_cases h1 : j < f
  · rw [if_pos h1, List.getElem?_append_left (by rw [List.length_take]; omega), List.getElem?_take_of_lt h1]
  · rw [if_neg h1, List.getElem?_append_right (by rw [List.length_take]; omega), seg_get, List.length_take, Nat.min_eq_left hf]
    by_cases h2 : j < f + (c - u)
    · rw [if_pos h2, if_pos (by omega)]
    · rw [if_neg h2, if_neg (by omega)]
/-- the gap goes ahead -/
theorem has_left {c i m u : Nat} {L C : List Value} (h : HasC c (i + m) u L C) (hfu : i + m ≤ u) (huc : u ≤ c) (hc : c ≤ L.length) : HasC c i (u - m) (spl L (u - m) ((L.drop i).take m)) C := by
  have hs : ((L.drop i).take m).length = m := seg_len (by omega)
  have hl : (spl L (u - m) ((L.drop i).take m)).length = L.length := spl_length (by rw [hs]; omega)
  refine has_of (by omega) (by omega) (by omega) fun j => ?_
  rw [has_get h (by omega) huc hc]
  by_cases h1 : j < i
  · rw [if_pos (by omega), if_pos h1, spl_get (by rw [hs]; omega), if_pos (by omega)]
  · rw [if_neg h1]
    by_cases h2 : j < i + m
    · rw [if_pos h2, if_pos (by omega), spl_get (by rw [hs]; omega), if_neg (by omega), if_pos (by rw [hs]; omega), seg_get, if_pos (by omega)]
      congr 1
      omega
    · rw [if_neg h2]
      by_cases h3 : j < i + m + (c - u)
      · rw [if_pos h3, if_pos (by omega), spl_get (by rw [hs]; omega), if_neg (by omega), if_neg (by rw [hs]; omega)]
        congr 1
        omega
      · rw [if_neg h3, if_neg (by omega)]
/-- the gap goes behind -/
theorem has_right {c f m u : Nat} {L C : List Value} (h : HasC c f u L C) (hfu : f ≤ u) (huc : u + m ≤ c) (hc : c ≤ L.length) : HasC c (f + m) (u + m) (spl L f ((L.drop u).take m)) C := by
  have hs : ((L.drop u).take m).length = m := seg_len (by omega)
  have hl : (spl L f ((L.drop u).take m)).length = L.length := spl_length (by rw [hs]; omega)
  refine has_of (by omega) (by omega) (by omega) fun j => ?_
  rw [has_get h (by omega) (by omega) hc]
  by_cases h1 : j < f
  · rw [if_pos h1, if_pos (by omega), spl_get (by rw [hs]; omega), if_pos h1]
  · rw [if_neg h1]
    by_cases h2 : j < f + m
    · rw [if_pos (by omega), if_pos h2, spl_get (by rw [hs]; omega), if_neg h1, if_pos (by rw [hs]; omega), seg_get, if_pos (by omega)]
    · rw [if_neg (show ¬ j < f + m from h2)]
      by_cases h3 : j < f + (c - u)
      · rw [if_pos h3, if_pos (by omega), spl_get (by rw [hs]; omega), if_neg (by omega), if_neg (by rw [hs]; omega)]
        congr 1
        omega
      · rw [if_neg h3, if_neg (by omega)]
/-- the row is made anew, larger -/
theorem has_grow {c f u c2 : Nat} {L C Z : List Value} (h : HasC c f u L C) (hfu : f ≤ u) (huc : u ≤ c) (hc : c ≤ L.length) (hZ : Z.length = c2) (hfit : f + (c - u) ≤ c2) :
    HasC c2 f (c2 - (c - u)) (spl (spl Z 0 (L.take f)) (c2 - (c - u)) ((L.drop u).take (c - u))) C := by
  have hs1 : (L.take f).length = f := by rw [List.length_take]; omega
  have hs : ((L.drop u).take (c - u)).length = c - u := seg_len (by omega)
  have hl1 : (spl Z 0 (L.take f)).length = c2 := by rw [spl_length (by rw [hs1]; omega), hZ]
  have hl : (spl (spl Z 0 (L.take f)) (c2 - (c - u)) ((L.drop u).take (c - u))).length = c2 := by rw [spl_length (by rw [hs, hl1]; omega), hl1]
  refine has_of (by omega) (by omega) (by omega) fun j => ?_
  rw [has_get h (by omega) huc hc]
  by_cases h1 : j < f
  · rw [if_pos h1, if_pos h1, spl_get (by rw [hs, hl1]; omega), if_pos (by omega), spl_get (by rw [hs1]; omega), if_neg (by omega), if_pos (by rw [hs1]; omega), List.getElem?_take_of_lt (by omega), Nat.sub_zero]
  · rw [if_neg h1, if_neg h1]
    by_cases h3 : j < f + (c - u)
    · rw [if_pos h3, if_pos (by omega), spl_get (by rw [hs, hl1]; omega), if_neg (by omega), if_pos (by rw [hs]; omega), seg_get, if_pos (by omega)]
      congr 1
      omega
    · rw [if_neg h3, if_neg (by omega)]
/-- things put into the gap -/
theorem has_put {c f u : Nat} {L C cs : List Value} (h : HasC c f u L C) (hfu : f + cs.length ≤ u) (huc : u ≤ c) (hc : c ≤ L.length) : HasC c (f + cs.length) u (spl L f cs) (C.take f ++ cs ++ C.drop f) := by
  have hl : (spl L f cs).length = L.length := spl_length (by omega)
  have hC := has_len h (by omega) huc hc
  refine has_of (by omega) (by omega) (by omega) fun j => ?_
  by_cases h1 : j < f
  · rw [if_pos (by omega), List.append_assoc, List.getElem?_append_left (by rw [List.length_take]; omega), List.getElem?_take_of_lt h1, spl_get (by omega), if_pos h1, has_get h (by omega) huc hc, if_pos h1]
  · by_cases h2 : j < f + cs.length
    · rw [if_pos h2, List.getElem?_append_left (by rw [List.length_append, List.length_take]; omega), List.getElem?_append_right (by rw [List.length_take]; omega), List.length_take, Nat.min_eq_left (by omega), spl_get (by omega), if_neg h1, if_pos h2]
    · rw [if_neg h2, List.getElem?_append_right (by rw [List.length_append, List.length_take]; omega), List.getElem?_drop, List.length_append, List.length_take, Nat.min_eq_left (by omega), has_get h (by omega) huc hc, if_neg (by omega)]
      by_cases h3 : j < f + cs.length + (c - u)
      · rw [if_pos h3, if_pos (by omega), spl_get (by omega), if_neg (by omega), if_neg (by omega)]
        congr 1
        omega
      · rw [if_neg h3, if_neg (by omega)]
/-- things taken out behind the gap -/
theorem has_cut {c f u m : Nat} {L C : List Value} (h : HasC c f u L C) (hf : f ≤ L.length) (huc : u + m ≤ c) (hc : c ≤ L.length) : HasC c f (u + m) L (C.take f ++ C.drop (f + m)) ∧ (L.drop u).take m = (C.drop f).take m := by
  have hC := has_len h hf (by omega) hc
  refine ⟨has_of hf (by omega) hc fun j => ?_, ?_⟩
  · by_cases h1 : j < f
    · rw [if_pos h1, List.getElem?_append_left (by rw [List.length_take]; omega), List.getElem?_take_of_lt h1, has_get h hf (by omega) hc, if_pos h1]
    · rw [if_neg h1, List.getElem?_append_right (by rw [List.length_take]; omega), List.getElem?_drop, List.length_take, Nat.min_eq_left (by omega), has_get h hf (by omega) hc, if_neg (by omega)]
      by_cases h2 : j < f + (c - (u + m))
      · rw [if_pos h2, if_pos (by omega)]
        congr 1
        omega
      · rw [if_neg h2, if_neg (by omega)]
  · apply List.ext_getElem?
    intro j
    rw [seg_get, seg_get]
    by_cases h1 : j < m
    · rw [if_pos h1, if_pos h1, has_get h hf (by omega) hc, if_neg (by omega), if_pos (by omega)]
      congr 1
      omega
    · rw [if_neg h1, if_neg h1]
end Go.Proofs.Ytgfjaegjkklcpaa.ed
