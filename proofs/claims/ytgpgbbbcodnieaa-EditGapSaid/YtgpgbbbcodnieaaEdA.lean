/-
  For the editor: worlds that turn in some blocks alone; rows with a gap; a gap in memory; stretches copied.
-/
import Derived.Test.YtgpgbbbcodnieaaLxS
import Derived.Test.YtgpgbbbcodnieaaRowKit
import Derived.Laws.CopyOwn
import Derived.Laws.MakeOwn
namespace Go.Proofs.Ytgpgbbbcodnieaa.ed
open Go Go.RowKit Go.Proofs
set_option linter.unusedVariables false

/-- of what was there, nothing turns but what S names -/
structure Kept (S : Nat → Prop) (w w' : World) : Prop where
  os : w'.os = w.os
  tape : w'.tape = w.tape
  output : w'.output = w.output
  size : w.heap.size ≤ w'.heap.size
  block : ∀ k, k < w.heap.size → ¬ S k → w'.heap[k]? = w.heap[k]?
theorem Kept.refl (S : Nat → Prop) (w : World) : Kept S w w := ⟨rfl, rfl, rfl, Nat.le_refl _, fun _ _ _ => rfl⟩
theorem Kept.trans {S S' : Nat → Prop} {w w' w'' : World} (h : Kept S w w') (h' : Kept S' w' w'') (hs : ∀ k, k < w.heap.size → S' k → S k) : Kept S w w'' :=
  ⟨h'.os.trans h.os, h'.tape.trans h.tape, h'.output.trans h.output, Nat.le_trans h.size h'.size, fun k hk hn => (h'.block k (Nat.lt_of_lt_of_le hk h.size) (fun h2 => hn (hs k hk h2))).trans (h.block k hk hn)⟩
theorem Kept.more {S S' : Nat → Prop} {w w' : World} (h : Kept S w w') (hs : ∀ k, k < w.heap.size → S k → S' k) : Kept S' w w' := ⟨h.os, h.tape, h.output, h.size, fun k hk hn => h.block k hk (fun h2 => hn (hs k hk h2))⟩
theorem Kept.of_below {S : Nat → Prop} {w w' : World} (h : Below w.heap.size w w') : Kept S w w' := ⟨h.os, h.tape, h.output, h.size, fun k hk _ => h.block k hk⟩
theorem Kept.below {S : Nat → Prop} {w w' : World} {B : Nat} (h : Kept S w w') (hB : B ≤ w.heap.size) (hs : ∀ k, k < w.heap.size → S k → B ≤ k) : Below B w w' :=
  ⟨h.os, h.tape, h.output, h.size, fun k hk => h.block k (Nat.lt_of_lt_of_le hk hB) (fun h2 => by have := hs k (Nat.lt_of_lt_of_le hk hB) h2; omega)⟩
theorem Kept.drew {S : Nat → Prop} {w w' : World} (h : Kept S w w') : Kept S w w'.drew := ⟨h.os, h.tape, h.output, h.size, h.block⟩
theorem Kept.setRow {S : Nat → Prop} {w w' : World} {b : Nat} (h : Kept S w w') (hb : S b ∨ w.heap.size ≤ b) (cs : Array Value) : Kept S w (w'.setRow b cs) := by
  refine ⟨h.os, h.tape, h.output, by rw [show (w'.setRow b cs).heap.size = w'.heap.size by simp [World.setRow]]; exact h.size, fun k hk hn => ?_⟩
  have hne : k ≠ b := by
    rintro rfl
    rcases hb with h1 | h1
    · exact hn h1
    · omega
  rw [setRow_other _ _ _ _ (by first | exact hne | exact hne.symm)]
  exact h.block k hk hn
theorem blk_old {w : World} (o : Obj) {k : Nat} (h : k < w.heap.size) : (w.alloc o).heap[k]? = w.heap[k]? := by
  show (w.heap.push o)[k]? = _
  rw [Array.getElem?_push, if_neg (by omega)]
theorem Kept.alloc {S : Nat → Prop} {w w' : World} (h : Kept S w w') (o : Obj) : Kept S w (w'.alloc o) := by
  refine ⟨h.os, h.tape, h.output, by rw [World.size_alloc]; have := h.size; omega, fun k hk hn => ?_⟩
  have := h.size
  exact (blk_old o (by omega)).trans (h.block k hk hn)

/-- a row with a gap from f up to u, of c cells, holds these -/
def HasC (c f u : Nat) (L C : List Value) : Prop := L.take f ++ (L.drop u).take (c - u) = C
def spl (L : List Value) (o : Nat) (cs : List Value) : List Value := L.take o ++ cs ++ L.drop (o + cs.length)
theorem spl_length {L : List Value} {o : Nat} {cs : List Value} (h : o + cs.length ≤ L.length) : (spl L o cs).length = L.length := by
  unfold spl
  simp only [List.length_append, List.length_take, List.length_drop]
  omega
theorem spl_get {L : List Value} {o : Nat} {cs : List Value} (h : o + cs.length ≤ L.length) (j : Nat) : (spl L o cs)[j]? = if j < o then L[j]? else if j < o + cs.length then cs[j - o]? else L[j]? := by
  unfold spl
  by_cases h1 : j < o
  · rw [if_pos h1, List.append_assoc, List.getElem?_append_left (by rw [List.length_take]; omega), List.getElem?_take_of_lt h1]
  · rw [if_neg h1]
    by_cases h2 : j < o + cs.length
    · rw [if_pos h2, List.getElem?_append_left (by rw [List.length_append, List.length_take]; omega), List.getElem?_append_right (by rw [List.length_take]; omega), List.length_take, Nat.min_eq_left (by omega)]
    · rw [if_neg h2, List.getElem?_append_right (by rw [List.length_append, List.length_take]; omega), List.getElem?_drop, List.length_append, List.length_take, Nat.min_eq_left (by omega)]
      congr 1
      omega
theorem seg_get (L : List Value) (a m j : Nat) : ((L.drop a).take m)[j]? = if j < m then L[a + j]? else none := by
  by_cases h : j < m
  · rw [if_pos h, List.getElem?_take_of_lt h, List.getElem?_drop]
  · rw [if_neg h]; exact List.getElem?_eq_none (by rw [List.length_take]; omega)
theorem seg_len {L : List Value} {a m : Nat} (h : a + m ≤ L.length) : ((L.drop a).take m).length = m := by rw [List.length_take, List.length_drop]; omega
theorem has_get {c f u : Nat} {L C : List Value} (h : HasC c f u L C) (hf : f ≤ L.length) (huc : u ≤ c) (hc : c ≤ L.length) (j : Nat) : C[j]? = if j < f then L[j]? else if j < f + (c - u) then L[u + (j - f)]? else none := by
  unfold HasC at h
  rw [← h]
  by_cases h1 : j < f
  · rw [if_pos h1, List.getElem?_append_left (by rw [List.length_take]; omega), List.getElem?_take_of_lt h1]
  · rw [if_neg h1, List.getElem?_append_right (by rw [List.length_take]; omega), seg_get, List.length_take, Nat.min_eq_left hf]
    by_cases h2 : j < f + (c - u)
    · rw [if_pos h2, if_pos (by omega)]
    · rw [if_neg h2, if_neg (by omega)]
theorem has_len {c f u : Nat} {L C : List Value} (h : HasC c f u L C) (hf : f ≤ L.length) (huc : u ≤ c) (hc : c ≤ L.length) : C.length = f + (c - u) := by
  unfold HasC at h
  rw [← h, List.length_append, List.length_take, List.length_take, List.length_drop]
  omega
theorem has_of {c f u : Nat} {L C : List Value} (hf : f ≤ L.length) (huc : u ≤ c) (hc : c ≤ L.length) (hg : ∀ j, C[j]? = if j < f then L[j]? else if j < f + (c - u) then L[u + (j - f)]? else none) : HasC c f u L C := by
  unfold HasC
  apply List.ext_getElem?
  intro j
  rw [hg]
  by_cases h1 : j < f
  · rw [if_pos h1, List.getElem?_append_left (by rw [List.length_take]; omega), List.getElem?_take_of_lt h1]
  · rw [if_neg h1, List.getElem?_append_right (by rw [List.length_take]; omega), seg_get, List.length_take, Nat.min_eq_left hf]
    by_cases h2 : j < f + (c - u)
    · rw [if_pos h2, if_pos (by omega)]
    · rw [if_neg h2, if_neg (by omega)]
/-- the gap goes ahead -/
theorem has_left {c i m u : Nat} {L C : List Value} (h : HasC c (i + m) u L C) (hfu : i + m ≤ u) (huc : u ≤ c) (hc : c ≤ L.length) : HasC c i (u - m) (spl L (u - m) ((L.drop i).take m)) C := by
  have hs : ((L.drop i).take m).length = m := seg_len (by omega)
  have hl : (spl L (u - m) ((L.drop i).take m)).length = L.length := spl_length (by rw [hs]; omega)
  refine has_of (by omega) (by omega) (by omega) fun j => ?_
  rw [has_get h (by omega) huc hc]
  by_cases h1 : j < i
  · rw [if_pos (by omega), if_pos h1, spl_get (by rw [hs]; omega), if_pos (by omega)]
  · rw [if_neg h1]
    by_cases h2 : j < i + m
    · rw [if_pos h2, if_pos (by omega), spl_get (by rw [hs]; omega), if_neg (by omega), if_pos (by rw [hs]; omega), seg_get, if_pos (by omega)]
      congr 1
      omega
    · rw [if_neg h2]
      by_cases h3 : j < i + m + (c - u)
      · rw [if_pos h3, if_pos (by omega), spl_get (by rw [hs]; omega), if_neg (by omega), if_neg (by rw [hs]; omega)]
        congr 1
        omega
      · rw [if_neg h3, if_neg (by omega)]
/-- the gap goes behind -/
theorem has_right {c f m u : Nat} {L C : List Value} (h : HasC c f u L C) (hfu : f ≤ u) (huc : u + m ≤ c) (hc : c ≤ L.length) : HasC c (f + m) (u + m) (spl L f ((L.drop u).take m)) C := by
  have hs : ((L.drop u).take m).length = m := seg_len (by omega)
  have hl : (spl L f ((L.drop u).take m)).length = L.length := spl_length (by rw [hs]; omega)
  refine has_of (by omega) (by omega) (by omega) fun j => ?_
  rw [has_get h (by omega) (by omega) hc]
  by_cases h1 : j < f
  · rw [if_pos h1, if_pos (by omega), spl_get (by rw [hs]; omega), if_pos h1]
  · rw [if_neg h1]
    by_cases h2 : j < f + m
    · rw [if_pos (by omega), if_pos h2, spl_get (by rw [hs]; omega), if_neg h1, if_pos (by rw [hs]; omega), seg_get, if_pos (by omega)]
    · rw [if_neg (show ¬ j < f + m from h2)]
      by_cases h3 : j < f + (c - u)
      · rw [if_pos h3, if_pos (by omega), spl_get (by rw [hs]; omega), if_neg (by omega), if_neg (by rw [hs]; omega)]
        congr 1
        omega
      · rw [if_neg h3, if_neg (by omega)]
/-- the row is made anew, larger -/
theorem has_grow {c f u c2 : Nat} {L C Z : List Value} (h : HasC c f u L C) (hfu : f ≤ u) (huc : u ≤ c) (hc : c ≤ L.length) (hZ : Z.length = c2) (hfit : f + (c - u) ≤ c2) :
    HasC c2 f (c2 - (c - u)) (spl (spl Z 0 (L.take f)) (c2 - (c - u)) ((L.drop u).take (c - u))) C := by
  have hs1 : (L.take f).length = f := by rw [List.length_take]; omega
  have hs : ((L.drop u).take (c - u)).length = c - u := seg_len (by omega)
  have hl1 : (spl Z 0 (L.take f)).length = c2 := by rw [spl_length (by rw [hs1]; omega), hZ]
  have hl : (spl (spl Z 0 (L.take f)) (c2 - (c - u)) ((L.drop u).take (c - u))).length = c2 := by rw [spl_length (by rw [hs, hl1]; omega), hl1]
  refine has_of (by omega) (by omega) (by omega) fun j => ?_
  rw [has_get h (by omega) huc hc]
  by_cases h1 : j < f
  · rw [if_pos h1, if_pos h1, spl_get (by rw [hs, hl1]; omega), if_pos (by omega), spl_get (by rw [hs1]; omega), if_neg (by omega), if_pos (by rw [hs1]; omega), List.getElem?_take_of_lt (by omega), Nat.sub_zero]
  · rw [if_neg h1, if_neg h1]
    by_cases h3 : j < f + (c - u)
    · rw [if_pos h3, if_pos (by omega), spl_get (by rw [hs, hl1]; omega), if_neg (by omega), if_pos (by rw [hs]; omega), seg_get, if_pos (by omega)]
      congr 1
      omega
    · rw [if_neg h3, if_neg (by omega)]
/-- things put into the gap -/
theorem has_put {c f u : Nat} {L C cs : List Value} (h : HasC c f u L C) (hfu : f + cs.length ≤ u) (huc : u ≤ c) (hc : c ≤ L.length) : HasC c (f + cs.length) u (spl L f cs) (C.take f ++ cs ++ C.drop f) := by
  have hl : (spl L f cs).length = L.length := spl_length (by omega)
  have hC := has_len h (by omega) huc hc
  refine has_of (by omega) (by omega) (by omega) fun j => ?_
  by_cases h1 : j < f
  · rw [if_pos (by omega), List.append_assoc, List.getElem?_append_left (by rw [List.length_take]; omega), List.getElem?_take_of_lt h1, spl_get (by omega), if_pos h1, has_get h (by omega) huc hc, if_pos h1]
  · by_cases h2 : j < f + cs.length
    · rw [if_pos h2, List.getElem?_append_left (by rw [List.length_append, List.length_take]; omega), List.getElem?_append_right (by rw [List.length_take]; omega), List.length_take, Nat.min_eq_left (by omega), spl_get (by omega), if_neg h1, if_pos h2]
    · rw [if_neg h2, List.getElem?_append_right (by rw [List.length_append, List.length_take]; omega), List.getElem?_drop, List.length_append, List.length_take, Nat.min_eq_left (by omega), has_get h (by omega) huc hc, if_neg (by omega)]
      by_cases h3 : j < f + cs.length + (c - u)
      · rw [if_pos h3, if_pos (by omega), spl_get (by omega), if_neg (by omega), if_neg (by omega)]
        congr 1
        omega
      · rw [if_neg h3, if_neg (by omega)]
/-- things taken out behind the gap -/
theorem has_cut {c f u m : Nat} {L C : List Value} (h : HasC c f u L C) (hf : f ≤ L.length) (huc : u + m ≤ c) (hc : c ≤ L.length) : HasC c f (u + m) L (C.take f ++ C.drop (f + m)) ∧ (L.drop u).take m = (C.drop f).take m := by
  have hC := has_len h hf (by omega) hc
  refine ⟨has_of hf (by omega) hc fun j => ?_, ?_⟩
  · by_cases h1 : j < f
    · rw [if_pos h1, List.getElem?_append_left (by rw [List.length_take]; omega), List.getElem?_take_of_lt h1, has_get h hf (by omega) hc, if_pos h1]
    · rw [if_neg h1, List.getElem?_append_right (by rw [List.length_take]; omega), List.getElem?_drop, List.length_take, Nat.min_eq_left (by omega), has_get h hf (by omega) hc, if_neg (by omega)]
      by_cases h2 : j < f + (c - (u + m))
      · rw [if_pos h2, if_pos (by omega)]
        congr 1
        omega
      · rw [if_neg h2, if_neg (by omega)]
  · apply List.ext_getElem?
    intro j
    rw [seg_get, seg_get]
    by_cases h1 : j < m
    · rw [if_pos h1, if_pos h1, has_get h hf (by omega) hc, if_neg (by omega), if_pos (by omega)]
      congr 1
      omega
    · rw [if_neg h1, if_neg h1]
end Go.Proofs.Ytgpgbbbcodnieaa.ed
namespace Go.Proofs.Ytgpgbbbcodnieaa.ed
open Go Go.RowKit Go.Proofs
set_option linter.unusedVariables false

theorem blk_cell {w : World} {k : Nat} {A : Array Value} {t : TypeId} (h : w.heap[k]? = some (.cells A t (0, 0))) (i : Nat) : w.cell? ⟨k, i, none⟩ = A[i]? := by simp [World.cell?, h]
theorem blk_free {w : World} {k : Nat} {A : Array Value} {t : TypeId} (h : w.heap[k]? = some (.cells A t (0, 0))) (i : Nat) : w.frozen? ⟨k, i, none⟩ = false := by simp [World.frozen?, h]
/-- copy, between rows of elements of any size -/
theorem run_copy_rowK {P : Program} (w : World) (dT sT ty elem : TypeId) (size : Nat) (g o dLen dCap : Nat) (a : Addr) (sLen sCap : Nat) (cur : Array Value) (t : TypeId) (cs : List Value)
    (hu : P.underlying dT = some (.slice elem)) (hs : (P.info? elem).map (·.size) = some size)
    (hg : w.heap[g]? = some (.cells cur t (0, 0))) (hn : cs.length = Nat.min sLen dLen * size)
    (hsrc : ∀ j v, cs[j]? = some v → w.cell? (a.add j) = some v) (hfit : o + cs.length ≤ cur.size) (h1 : ∀ v ∈ cs, v.oneCell' = true) :
    (Builtin.copy_ #[dT, sT] ty #[.slice (some ⟨g, o, none⟩) dLen dCap, .slice (some a) sLen sCap]).run P w =
      .ok (goInt (Nat.min sLen dLen)) (w.setRow g (cur.toList.take o ++ cs ++ cur.toList.drop (o + cs.length)).toArray) := by
  have hl := run_loadCells_list (P := P) w a cs hsrc
  have hst := run_storeCells_at P g o t cs 0 cur w hg (by simpa using hfit) h1
  cases hq : P.info? elem with
  | none => simp [hq] at hs
  | some i =>
    have hi : i.size = size := by simpa [hq] using hs
    simp [Builtin.copy_, run_underlying hu, Builtin.lenOf, Builtin.firstCells, sizeOf, typeInfo, hq, hi, ← hn, hl, hst]
/-- where a stretch of a row begins -/
def at0 (b cap lo k : Nat) : Addr := ⟨b, if cap = lo then 0 else lo * k, none⟩
/-- a gap: its box g, its row lb -/
structure GA (gT eT : TypeId) (k g lb n cap F U : Nat) (A : List Value) (X : World) : Prop where
  hg : X.heap[g]? = some (.cells #[.slice (some ⟨lb, 0, none⟩) n cap, .int .i64 (F : Nat), .int .i64 (U : Nat)] gT (0, 0))
  hl : X.heap[lb]? = some (.cells A.toArray eT (0, 0))
  sz : A.length = cap * k
  fu : F ≤ U
  un : U ≤ n
  nc : n ≤ cap
  ne : g ≠ lb
theorem GA.kept {gT eT : TypeId} {k g lb n cap F U : Nat} {A : List Value} {S : Nat → Prop} {X X' : World} (h : GA gT eT k g lb n cap F U A X) (hk : Kept S X X') (h1 : ¬ S g) (h2 : ¬ S lb) : GA gT eT k g lb n cap F U A X' :=
  ⟨(hk.block g (Array.getElem?_eq_some_iff.1 h.hg).1 h1).trans h.hg, (hk.block lb (Array.getElem?_eq_some_iff.1 h.hl).1 h2).trans h.hl, h.sz, h.fu, h.un, h.nc, h.ne⟩
theorem GA.drew {gT eT : TypeId} {k g lb n cap F U : Nat} {A : List Value} {X : World} (h : GA gT eT k g lb n cap F U A X) : GA gT eT k g lb n cap F U A X.drew := ⟨h.hg, h.hl, h.sz, h.fu, h.un, h.nc, h.ne⟩
section
variable {P : Program} {o : Oper} {ρ : Operand → Value} {w : World} {p q q' : Operand} {b len cap i j size : Nat} {t e : TypeId} {it : TypeInfo}
theorem run_fromG (ho : o.op = .slice t p (some q) none none) (hx : ρ p = .slice (some ⟨b, 0, none⟩) len cap) (hy : ρ q = .int .i64 (i : Nat)) (hi : i ≤ len) (hc : len ≤ cap) (ht : P.underlying t = some (.slice e)) (hs : P.info? e = some it) (hz : it.size = size) :
    (execOp ρ o).run P w = .ok (.value (.slice (some (at0 b cap i size)) (len - i) (cap - i))) w := by
  unfold execOp
  simp only [ho, hx]
  rw [show (Instr.sliceAt t (.slice (some ⟨b, 0, none⟩) len cap) (Option.map ρ (some q)) (Option.map ρ none) (Option.map ρ none)) = Instr.sliceAt t (.slice (some ⟨b, 0, none⟩) len cap) (some (.int .i64 (i : Nat))) none none by simp [hy]]
  have h2 : (0 : Int) ≤ ((i : Nat) : Int) ∧ ((i : Nat) : Int) ≤ (len : Int) := by omega
  simp only [Instr.sliceAt, Instr.slice, Instr.sliceBounds, Instr.sliceBound, run_underlying ht, asIntOf, Sem.run_bind, Sem.run_pure, Result.andThen_ok, if_true, h2, Int.toNat_natCast, and_self]
  simp [sizeOf, typeInfo, hs, hz, at0, go_sem, Addr.add]
  by_cases hci : cap = i
  · rw [if_pos hci, if_pos hci]
  · rw [if_neg hci, if_neg hci]
    split
    · rename_i h0; rw [h0]
    · rfl
theorem run_uptoG (ho : o.op = .slice t p none (some q) none) (hx : ρ p = .slice (some ⟨b, 0, none⟩) len cap) (hy : ρ q = .int .i64 (i : Nat)) (hi : i ≤ cap) (ht : P.underlying t = some (.slice e)) (hs : P.info? e = some it) (hz : it.size = size) :
    (execOp ρ o).run P w = .ok (.value (.slice (some (at0 b cap 0 size)) i cap)) w := by
  unfold execOp
  simp only [ho, hx]
  rw [show (Instr.sliceAt t (.slice (some ⟨b, 0, none⟩) len cap) (Option.map ρ none) (Option.map ρ (some q)) (Option.map ρ none)) = Instr.sliceAt t (.slice (some ⟨b, 0, none⟩) len cap) none (some (.int .i64 (i : Nat))) none by simp [hy]]
  have h1 : ((i : Nat) : Int) ≤ (cap : Int) := by omega
  simp only [Instr.sliceAt, Instr.slice, Instr.sliceBounds, Instr.sliceBound, run_underlying ht, asIntOf, Sem.run_bind, Sem.run_pure, Result.andThen_ok, Int.toNat_natCast]
  simp [sizeOf, typeInfo, hs, hz, at0, go_sem, Addr.add]
  intro h
  omega
theorem run_partG (ho : o.op = .slice t p (some q) (some q') none) (hx : ρ p = .slice (some ⟨b, 0, none⟩) len cap) (hy : ρ q = .int .i64 (i : Nat)) (hy' : ρ q' = .int .i64 (j : Nat)) (hi : i ≤ j) (hj : j ≤ cap) (ht : P.underlying t = some (.slice e)) (hs : P.info? e = some it) (hz : it.size = size) :
    (execOp ρ o).run P w = .ok (.value (.slice (some (at0 b cap i size)) (j - i) (cap - i))) w := by
  unfold execOp
  simp only [ho, hx]
  rw [show (Instr.sliceAt t (.slice (some ⟨b, 0, none⟩) len cap) (Option.map ρ (some q)) (Option.map ρ (some q')) (Option.map ρ none)) = Instr.sliceAt t (.slice (some ⟨b, 0, none⟩) len cap) (some (.int .i64 (i : Nat))) (some (.int .i64 (j : Nat))) none by simp [hy, hy']]
  have h1 : (0 : Int) ≤ ((j : Nat) : Int) ∧ ((j : Nat) : Int) ≤ (cap : Int) := by omega
  have h2 : (0 : Int) ≤ ((i : Nat) : Int) ∧ ((i : Nat) : Int) ≤ (j : Int) := by omega
  simp only [Instr.sliceAt, Instr.slice, Instr.sliceBounds, Instr.sliceBound, run_underlying ht, asIntOf, Sem.run_bind, Sem.run_pure, Result.andThen_ok, h1, if_true, h2, Int.toNat_natCast, and_self]
  simp [sizeOf, typeInfo, hs, hz, at0, go_sem, Addr.add]
  by_cases hci : cap = i
  · rw [if_pos hci, if_pos hci]
  · rw [if_neg hci, if_neg hci]
    split
    · rename_i h0; rw [h0]
    · rfl
end
theorem run_copyG {P : Program} {o : Oper} {ρ : Operand → Value} {X : World} {p q : Operand} {b1 b2 cap1 cap2 lo1 lo2 dl dc sl sc m k : Nat} {A1 A2 : List Value} {dT eT t1 t2 : TypeId} {it : TypeInfo}
    (ho : o.op = .call { callee := .builtin .copy, args := #[p, q], argTypes := #[dT, dT] }) (hx : ρ p = .slice (some (at0 b1 cap1 lo1 k)) dl dc) (hy : ρ q = .slice (some (at0 b2 cap2 lo2 k)) sl sc)
    (hm : Nat.min sl dl = m) (h1 : X.heap[b1]? = some (.cells A1.toArray t1 (0, 0))) (h2 : X.heap[b2]? = some (.cells A2.toArray t2 (0, 0))) (s1 : A1.length = cap1 * k) (s2 : A2.length = cap2 * k) (hd : lo1 + m ≤ cap1) (hs : lo2 + m ≤ cap2) (hone : ∀ v ∈ (A2.drop (lo2 * k)).take (m * k), v.oneCell' = true)
    (hu : P.underlying dT = some (.slice eT)) (hi : P.info? eT = some it) (hz : it.size = k) :
    (execOp ρ o).run P X = .ok (.value (.int .i64 (m : Nat))) (X.setRow b1 (spl A1 (lo1 * k) ((A2.drop (lo2 * k)).take (m * k))).toArray) := by
  have hml1 : (lo1 + m) * k ≤ cap1 * k := Nat.mul_le_mul_right k hd
  have hml2 : (lo2 + m) * k ≤ cap2 * k := Nat.mul_le_mul_right k hs
  rw [Nat.add_mul] at hml1 hml2
  have hcl : ((A2.drop (lo2 * k)).take (m * k)).length = m * k := seg_len (by omega)
  have key : ∀ off1 off2, (m = 0 ∨ (off1 = lo1 * k ∧ off2 = lo2 * k)) → off1 ≤ A1.length → (Builtin.copy_ #[dT, dT] o.type #[.slice (some ⟨b1, off1, none⟩) dl dc, .slice (some ⟨b2, off2, none⟩) sl sc]).run P X = .ok (.int .i64 (m : Nat)) (X.setRow b1 (spl A1 (lo1 * k) ((A2.drop (lo2 * k)).take (m * k))).toArray) := by
    intro off1 off2 hoff hle
    have hfit : off1 + m * k ≤ A1.length := by
      rcases hoff with h0 | ⟨rfl, -⟩
      · rw [h0, Nat.zero_mul]; omega
      · omega
    have h := run_copy_rowK (P := P) X dT dT o.type eT k b1 off1 dl dc ⟨b2, off2, none⟩ sl sc A1.toArray t1 ((A2.drop (lo2 * k)).take (m * k)) hu (by rw [hi, Option.map_some, hz]) h1 (by rw [hcl, hm]) (fun j v hj => by
      rw [run.add_none, blk_cell h2]
      rw [seg_get] at hj
      split at hj
      · rename_i hjm
        rcases hoff with h0 | ⟨-, rfl⟩
        · exfalso; rw [h0, Nat.zero_mul] at hjm; omega
        · simpa using hj
      · cases hj) (by rw [hcl]; simp only [List.size_toArray]; exact hfit) hone
    rw [hm] at h
    rw [h]
    congr 1
    rcases hoff with h0 | ⟨rfl, -⟩
    · rw [h0, Nat.zero_mul, List.take_zero]
      unfold spl
      simp only [List.append_nil, List.length_nil, Nat.add_zero, List.take_append_drop]
    · unfold spl
      rfl
  unfold execOp
  simp only [ho, resolve, invoke, builtin, Sem.run_bind, Sem.run_pure, Result.andThen_ok, List.map_toArray, List.map_cons, List.map_nil, hx, hy]
  unfold at0
  have hk := key (if cap1 = lo1 then 0 else lo1 * k) (if cap2 = lo2 then 0 else lo2 * k) (by
    by_cases h0 : m = 0
    · exact .inl h0
    · right; rw [if_neg (by omega), if_neg (by omega)]; exact ⟨rfl, rfl⟩) (by split <;> omega)
  rw [hk]
  rfl
theorem at0_zero (b cap k : Nat) : at0 b cap 0 k = ⟨b, 0, none⟩ := by
  unfold at0
  split
  · rfl
  · rw [Nat.zero_mul]
theorem run_makeG {P : Program} {o : Oper} {ρ : Operand → Value} {X : World} {p q : Operand} {t e : TypeId} {it : TypeInfo} {z : Value} {M : Nat} (ho : o.op = .makeSlice t p q) (hx : ρ p = .int .i64 (M : Nat)) (hy : ρ q = .int .i64 (M : Nat)) (ht : P.underlying t = some (.slice e)) (hi : P.info? e = some it) (hz : it.zero = some z) (hb : it.bytes * M ≤ 281474976710656) (hM : M ≤ 281474976710656) :
    (execOp ρ o).run P X = .ok (.value (.slice (some ⟨X.heap.size, 0, none⟩) M M)) (X.alloc (.cells (madeCells z.cells (M * it.size)) e)) := by
  have h := run_make (P := P) X t e it z ht hi hz .i64 .i64 (M : Nat) (M : Nat) (by omega) (Int.le_refl _) (by
    have : ((it.bytes * M : Nat) : Int) ≤ 281474976710656 := by omega
    rw [Int.natCast_mul] at this
    exact this) (by omega)
  rw [Int.toNat_natCast] at h
  unfold execOp
  simp only [ho, hx, hy, Sem.run_bind, h, Result.andThen_ok, Sem.run_pure]
theorem made_one {z : Array Value} (n : Nat) (h0 : 0 < z.size) (h : ∀ i, i < z.size → (z[i]!).oneCell' = true) : ∀ v ∈ (madeCells z n).toList, v.oneCell' = true := by
  intro v hv
  unfold madeCells at hv
  simp only [Array.toList_map, List.mem_map] at hv
  obtain ⟨i, -, rfl⟩ := hv
  exact h _ (Nat.mod_lt _ h0)
theorem run_copyG0 {P : Program} {o : Oper} {ρ : Operand → Value} {X : World} {p q : Operand} {b1 b2 cap1 cap2 lo2 dl dc sl sc m k : Nat} {A1 A2 : List Value} {dT eT t1 t2 : TypeId} {it : TypeInfo}
    (ho : o.op = .call { callee := .builtin .copy, args := #[p, q], argTypes := #[dT, dT] }) (hx : ρ p = .slice (some ⟨b1, 0, none⟩) dl dc) (hy : ρ q = .slice (some (at0 b2 cap2 lo2 k)) sl sc)
    (hm : Nat.min sl dl = m) (h1 : X.heap[b1]? = some (.cells A1.toArray t1 (0, 0))) (h2 : X.heap[b2]? = some (.cells A2.toArray t2 (0, 0))) (s1 : A1.length = cap1 * k) (s2 : A2.length = cap2 * k) (hd : m ≤ cap1) (hs : lo2 + m ≤ cap2) (hone : ∀ v ∈ (A2.drop (lo2 * k)).take (m * k), v.oneCell' = true)
    (hu : P.underlying dT = some (.slice eT)) (hi : P.info? eT = some it) (hz : it.size = k) :
    (execOp ρ o).run P X = .ok (.value (.int .i64 (m : Nat))) (X.setRow b1 (spl A1 (0 * k) ((A2.drop (lo2 * k)).take (m * k))).toArray) :=
  run_copyG (lo1 := 0) (cap1 := cap1) ho (by rw [at0_zero]; exact hx) hy hm h1 h2 s1 s2 (by omega) hs hone hu hi hz
/-- a row that is read: m elements, these cells -/
structure Src (k : Nat) (w : World) (a : Option Addr) (m c : Nat) (cs : List Value) : Prop where
  len : cs.length = m * k
  one : ∀ v ∈ cs, v.oneCell' = true
  at' : (a = none ∧ m = 0 ∧ c = 0) ∨ ∃ b off, a = some ⟨b, off, none⟩ ∧ b < w.heap.size ∧ ∀ j v, cs[j]? = some v → w.cell? ⟨b, off + j, none⟩ = some v
theorem Src.of {k : Nat} {w w' : World} {a : Option Addr} {m c : Nat} {cs : List Value} (h : Src k w a m c cs) (hs : w.heap.size ≤ w'.heap.size) (hb : ∀ b off, a = some ⟨b, off, none⟩ → b < w.heap.size → w'.heap[b]? = w.heap[b]?) : Src k w' a m c cs := by
  refine ⟨h.len, h.one, ?_⟩
  rcases h.at' with h1 | ⟨b, off, rfl, hlt, hc⟩
  · exact .inl h1
  · refine .inr ⟨b, off, rfl, by omega, fun j v hj => ?_⟩
    exact (World.cell?_of_block (a := ⟨b, off + j, none⟩) (hb b off rfl hlt)).trans (hc j v hj)
theorem Src.kept {S : Nat → Prop} {k : Nat} {w w' : World} {a : Option Addr} {m c : Nat} {cs : List Value} (h : Src k w a m c cs) (hk : Kept S w w') (hne : ∀ b off, a = some ⟨b, off, none⟩ → ¬ S b) : Src k w' a m c cs := h.of hk.size (fun b off e hlt => hk.block b hlt (hne b off e))
theorem run_copyS {P : Program} {o : Oper} {ρ : Operand → Value} {X : World} {p q : Operand} {b1 cap1 lo1 dl dc m c k : Nat} {a : Option Addr} {A1 cs : List Value} {dT eT t1 : TypeId} {it : TypeInfo}
    (ho : o.op = .call { callee := .builtin .copy, args := #[p, q], argTypes := #[dT, dT] }) (hx : ρ p = .slice (some (at0 b1 cap1 lo1 k)) dl dc) (hy : ρ q = .slice a m c) (hS : Src k X a m c cs)
    (hm : m ≤ dl) (h1 : X.heap[b1]? = some (.cells A1.toArray t1 (0, 0))) (s1 : A1.length = cap1 * k) (hd : lo1 + m ≤ cap1)
    (hu : P.underlying dT = some (.slice eT)) (hi : P.info? eT = some it) (hz : it.size = k) :
    (execOp ρ o).run P X = .ok (.value (.int .i64 (m : Nat))) (X.setRow b1 (spl A1 (lo1 * k) cs).toArray) := by
  have hml1 : (lo1 + m) * k ≤ cap1 * k := Nat.mul_le_mul_right k hd
  rw [Nat.add_mul] at hml1
  have hlen := hS.len
  have hself : X.setRow b1 A1.toArray = X := setRow_self _ _ _ _ _ h1
  have hz0 : m = 0 → spl A1 (lo1 * k) cs = A1 := fun h0 => by
    have : cs = [] := List.length_eq_zero_iff.1 (by rw [hlen, h0, Nat.zero_mul])
    subst this
    unfold spl
    simp only [List.append_nil, List.length_nil, Nat.add_zero, List.take_append_drop]
  have key : (Builtin.copy_ #[dT, dT] o.type #[.slice (some (at0 b1 cap1 lo1 k)) dl dc, .slice a m c]).run P X = .ok (.int .i64 (m : Nat)) (X.setRow b1 (spl A1 (lo1 * k) cs).toArray) := by
    rcases hS.at' with ⟨rfl, rfl, rfl⟩ | ⟨b, off, rfl, hlt, hc⟩
    · rw [hz0 rfl, hself]
      exact run_copy_nil P X dT dT o.type eT (at0 b1 cap1 lo1 k) dl dc hu (by rw [hi]; rfl)
    · unfold at0
      have hmin : Nat.min m dl = m := by show min m dl = m; omega
      have h := run_copy_rowK (P := P) X dT dT o.type eT k b1 (if cap1 = lo1 then 0 else lo1 * k) dl dc ⟨b, off, none⟩ m c A1.toArray t1 cs hu (by rw [hi, Option.map_some, hz]) h1 (by rw [hlen, hmin]) (fun j v hj => by rw [run.add_none]; exact hc j v hj) (by
        rw [hlen]
        simp only [List.size_toArray]
        split
        · have : m = 0 := by omega
          rw [this, Nat.zero_mul]; omega
        · omega) hS.one
      rw [hmin] at h
      rw [h]
      congr 1
      by_cases e : cap1 = lo1
      · have h0 : m = 0 := by omega
        have hcs : cs = [] := List.length_eq_zero_iff.1 (by rw [hlen, h0, Nat.zero_mul])
        rw [hz0 h0, hcs]
        simp only [List.append_nil, List.length_nil, Nat.add_zero, List.take_append_drop]
      · rw [if_neg e]
        unfold spl
        rfl
  unfold execOp
  simp only [ho, resolve, invoke, builtin, Sem.run_bind, Sem.run_pure, Result.andThen_ok, List.map_toArray, List.map_cons, List.map_nil, hx, hy]
  rw [key]
  rfl
theorem readsG {X : World} {b cap lo m c' k : Nat} {A : List Value} {t : TypeId} (h : X.heap[b]? = some (.cells A.toArray t (0, 0))) (hs : A.length = cap * k) (hm : lo + m ≤ cap) : run.ReadsN k X (.slice (some (at0 b cap lo k)) m c') m ((A.drop (lo * k)).take (m * k)) := by
  have hml : (lo + m) * k ≤ cap * k := Nat.mul_le_mul_right k hm
  rw [Nat.add_mul] at hml
  refine ⟨seg_len (by omega), _, _, rfl, fun hne => ?_, fun e => by cases e⟩
  have hm0 : m ≠ 0 := by
    rintro rfl
    rw [Nat.zero_mul, List.take_zero] at hne
    exact hne rfl
  unfold at0
  rw [if_neg (by omega)]
  refine ⟨b, lo * k, rfl, (Array.getElem?_eq_some_iff.1 h).1, fun i u hu => ?_⟩
  rw [blk_cell h]
  rw [seg_get] at hu
  split at hu
  · simpa using hu
  · cases hu
theorem own_empty {X : World} {B k : Nat} {e : TypeId} (hB : B ≤ X.heap.size) : (X.alloc (.cells #[] e)).ownsRow B e k (.slice (some ⟨X.heap.size, 0, none⟩) 0 0) 0 [] := by
  refine ⟨by simp, .inr ⟨_, 0, #[], rfl, hB, heap_alloc_new _ _, Nat.le_refl _, ?_, ?_⟩⟩
  · simp
  · simp
theorem own_base {X : World} {B B' n k : Nat} {e : TypeId} {v : Value} {xs : List Value} (h : X.ownsRow B e k v n xs) (hb : B' ≤ B) : X.ownsRow B' e k v n xs := by
  obtain ⟨h1, h2⟩ := h
  refine ⟨h1, ?_⟩
  rcases h2 with h2 | ⟨g, cap, cur, h3, h4, h5⟩
  · exact .inl h2
  · exact .inr ⟨g, cap, cur, h3, Nat.le_trans hb h4, h5⟩
theorem has_ahead {c f u i m : Nat} {L C : List Value} (h : HasC c f u L C) (hf : f ≤ L.length) (huc : u ≤ c) (hc : c ≤ L.length) (him : i + m ≤ f) : ∀ v ∈ (L.drop i).take m, v ∈ C := by
  intro v hv
  obtain ⟨j, hj⟩ := List.getElem?_of_mem hv
  rw [seg_get] at hj
  split at hj
  · refine List.mem_of_getElem? (i := i + j) ?_
    rw [has_get h hf huc hc, if_pos (by omega)]
    exact hj
  · cases hj
theorem has_behind {c f u i m : Nat} {L C : List Value} (h : HasC c f u L C) (hf : f ≤ L.length) (huc : u ≤ c) (hc : c ≤ L.length) (hu : u ≤ i) (him : i + m ≤ c) : ∀ v ∈ (L.drop i).take m, v ∈ C := by
  intro v hv
  obtain ⟨j, hj⟩ := List.getElem?_of_mem hv
  rw [seg_get] at hj
  split at hj
  · refine List.mem_of_getElem? (i := f + (i - u) + j) ?_
    rw [has_get h hf huc hc, if_neg (by omega), if_pos (by omega), ← hj]
    congr 1
    omega
  · cases hj
/-- the same memory -/
structure Same (w X : World) : Prop where
  heap : X.heap = w.heap
  os : X.os = w.os
  tape : X.tape = w.tape
  output : X.output = w.output
theorem Same.refl (w : World) : Same w w := ⟨rfl, rfl, rfl, rfl⟩
theorem Same.drew {w X : World} (h : Same w X) : Same w X.drew := ⟨h.heap, h.os, h.tape, h.output⟩
theorem Same.setCell {w X : World} (h : Same w X) (p : Addr) (v : Value) : Same (w.setCell p v) (X.setCell p v) := ⟨by simp only [World.setCell, h.heap], h.os, h.tape, h.output⟩
theorem Same.trans {w X Y : World} (h : Same w X) (h' : Same X Y) : Same w Y := ⟨h'.heap.trans h.heap, h'.os.trans h.os, h'.tape.trans h.tape, h'.output.trans h.output⟩
theorem Same.setRow {w X : World} (h : Same w X) (b : Nat) (cs : Array Value) : Same (w.setRow b cs) (X.setRow b cs) := ⟨by simp only [World.setRow, h.heap], h.os, h.tape, h.output⟩
theorem Same.alloc {w X : World} (h : Same w X) (o : Obj) : Same (w.alloc o) (X.alloc o) := ⟨by show X.heap.push o = w.heap.push o; rw [h.heap], h.os, h.tape, h.output⟩
theorem Same.kept {S : Nat → Prop} {w0 w X : World} (hk : Kept S w0 w) (h : Same w X) : Kept S w0 X := ⟨h.os.trans hk.os, h.tape.trans hk.tape, h.output.trans hk.output, by rw [h.heap]; exact hk.size, fun k h1 h2 => by rw [h.heap]; exact hk.block k h1 h2⟩
theorem Same.ga {gT eT : TypeId} {k g lb n cap F U : Nat} {A : List Value} {w X : World} (h : GA gT eT k g lb n cap F U A w) (hs : Same w X) : GA gT eT k g lb n cap F U A X := ⟨by rw [hs.heap]; exact h.hg, by rw [hs.heap]; exact h.hl, h.sz, h.fu, h.un, h.nc, h.ne⟩
theorem Same.blk {w X : World} {k : Nat} {o : Obj} (hs : Same w X) (h : w.heap[k]? = some o) : X.heap[k]? = some o := by rw [hs.heap]; exact h
theorem setRow_same {w : World} {b : Nat} {A : Array Value} {t : TypeId} (h : w.heap[b]? = some (.cells A t (0, 0))) (cs : Array Value) : (w.setRow b cs).heap[b]? = some (.cells cs t (0, 0)) := by
  have hlt := (Array.getElem?_eq_some_iff.1 h).1
  have hv := (Array.getElem?_eq_some_iff.1 h).2
  simp only [World.setRow]
  rw [Array.getElem?_eq_getElem (by simpa using hlt), Array.getElem_modify, if_pos rfl, hv]
theorem setRow_off {w : World} {b k : Nat} (hne : k ≠ b) (cs : Array Value) : (w.setRow b cs).heap[k]? = w.heap[k]? := setRow_other _ _ _ _ (by first | exact hne | exact hne.symm)
theorem set3 {w : World} {g : Nat} {a b c : Value} {t : TypeId} (h : w.heap[g]? = some (.cells #[a, b, c] t (0, 0))) (v : Value) :
    (w.setCell ⟨g, 0, none⟩ v).heap[g]? = some (.cells #[v, b, c] t (0, 0)) ∧ (w.setCell ⟨g, 1, none⟩ v).heap[g]? = some (.cells #[a, v, c] t (0, 0)) ∧ (w.setCell ⟨g, 2, none⟩ v).heap[g]? = some (.cells #[a, b, v] t (0, 0)) :=
  ⟨heap_setCell_same w g 0 _ t v h, heap_setCell_same w g 1 _ t v h, heap_setCell_same w g 2 _ t v h⟩
theorem Kept.setCell {S : Nat → Prop} {w w' : World} {b i : Nat} (h : Kept S w w') (hb : S b ∨ w.heap.size ≤ b) (v : Value) : Kept S w (w'.setCell ⟨b, i, none⟩ v) := by
  refine ⟨h.os, h.tape, h.output, by rw [show (w'.setCell ⟨b, i, none⟩ v).heap.size = w'.heap.size by simp [World.setCell]]; exact h.size, fun k hk hn => ?_⟩
  have hne : k ≠ b := by
    rintro rfl
    rcases hb with h1 | h1
    · exact hn h1
    · omega
  rw [Below.heap_setCell _ _ _ _ hne]
  exact h.block k hk hn
theorem spl_one {A cs : List Value} {o : Nat} (h : ∀ v ∈ A, v.oneCell' = true) (h2 : ∀ v ∈ cs, v.oneCell' = true) : ∀ v ∈ spl A o cs, v.oneCell' = true := by
  intro v hv
  unfold spl at hv
  simp only [List.mem_append] at hv
  rcases hv with (hv | hv) | hv
  · exact h v (List.mem_of_mem_take hv)
  · exact h2 v hv
  · exact h v (List.mem_of_mem_drop hv)
theorem seg_one {A : List Value} (h : ∀ v ∈ A, v.oneCell' = true) (a m : Nat) : ∀ v ∈ (A.drop a).take m, v.oneCell' = true := fun v hv => h v (List.mem_of_mem_drop (List.mem_of_mem_take hv))
end Go.Proofs.Ytgpgbbbcodnieaa.ed
