/-
  EditGap's arguments, opened: a list of numbers, a script of moves; its bounds.
-/
import Derived.Test.YtgpgbbbcodnieaaEdGapLS
import Derived.Test.YtgpgbbbcodnieaaWithin
import Derived.ProofKit
import Derived.OpenShut
import Derived.SizedLaws
import Derived.JoinedCond
import Derived.Deep.Slices
namespace Go.Proofs.Ytgpgbbbcodnieaa.ed
open Go.ChangeShapes Go.WideShapes Go.ChangeAt Go.RowKit Go.Proofs
set_option linter.unusedVariables false
section
variable {H : Type} {enc : TypeId × Value → H} {P : Program} {w : World} {base : Nat} {held : Bool}
set_option maxRecDepth 100000 in
theorem ints_within {fuel : Nat} {cs : List Value} {x : DataW H × List MemPlace} (hw : wth.Within Try.prog 22 x.1) (h : DataW.trod enc Try.prog w base (fun _ => true) held fuel 22 cs = some x) :
    ∃ (a : Option Addr) (cap : Nat) (l : List Int), cs = [.slice a l.length cap] ∧ run.ReadsN 1 w (.slice a l.length cap) l.length (iv l) ∧ l.length ≤ 17592186043904 := by
  rcases wth.slice_within Try.underlying22 hw h with rfl | ⟨a, len, cap, n, rfl, -, hl, hm, hby, hi⟩
  · exact ⟨none, 0, [], rfl, ⟨rfl, none, 0, rfl, fun h => absurd rfl h, fun _ => rfl⟩, by simp⟩
  · rw [show Try.prog.cellsOf 3 = 1 by kernel_rfl] at hi
    rw [show Try.prog.bytesOf 3 = 8 by kernel_rfl] at hby
    have hr : reachBytes = 140737488351232 := rfl
    have hcell : ∀ i, i < cap → ∃ z : Int, w.cell? ((a.add (i * 1)).add 0) = some (.int .i64 z) := by
      intro i hic
      obtain ⟨cs', y, h1, h2, h3⟩ := hi i hic
      obtain ⟨z, e, -, -⟩ := DataW.trod_int Try.underlying3 h2
      obtain ⟨-, hlen, hc⟩ := World.cells?_some h1
      refine ⟨z, (hc 0 (by omega)).trans ?_⟩
      rw [e]
      rfl
    obtain ⟨f, hf⟩ := Go.Deep.choose_lt (α := Int) hcell
    have hls : ((List.range len).map f).length = len := by simp
    refine ⟨some a, cap, (List.range len).map f, by rw [hls], ⟨by rw [iv_length, Nat.mul_one], some a, cap, rfl, fun hne => ?_, fun h => by cases h⟩, by rw [hls]; omega⟩
    have h0 : 0 < len := by
      rcases Nat.eq_zero_or_pos len with e | e
      · exfalso; apply hne; subst e; rfl
      · exact e
    obtain ⟨b, off, spot⟩ := a
    have h00 := hf 0 (by omega)
    have hspot : spot = none := by simpa [Addr.add] using World.cell?_spot h00
    subst hspot
    refine ⟨b, off, rfl, ?_, fun i u hu => ?_⟩
    · simp only [run.add_none] at h00
      exact run.lt_of_cell h00
    · have hil : i < len := by
        rcases Nat.lt_or_ge i len with h | h
        · exact h
        · rw [List.getElem?_eq_none (by rw [iv_length, hls]; exact h)] at hu; cases hu
      have g := hf i (by omega)
      simp only [run.add_none, Nat.mul_one, Nat.add_zero] at g
      rw [g, ← hu]
      unfold iv
      simp [hil]

/-- a move of a script -/
structure MV where
  d : Int
  k : Int
  i : Int
  m : Int
  a : Option Addr
  l : List Int
  c : Nat
def mv0 : MV := ⟨0, 0, 0, 0, none, [], 0⟩
def MV.cells (q : MV) : Array Value := #[.int .i64 q.d, .int .i64 q.k, .int .i64 q.i, .int .i64 q.m, .slice q.a q.l.length q.c]
def MV.fine (w : World) (q : MV) : Prop := run.ReadsN 1 w (.slice q.a q.l.length q.c) q.l.length (iv q.l) ∧ q.l.length ≤ 17592186043904
def CellM (w : World) (b o : Nat) (q : MV) : Prop :=
  w.cell? ⟨b, o, none⟩ = some (.int .i64 q.d) ∧ w.cell? ⟨b, o + 1, none⟩ = some (.int .i64 q.k) ∧ w.cell? ⟨b, o + 2, none⟩ = some (.int .i64 q.i) ∧ w.cell? ⟨b, o + 3, none⟩ = some (.int .i64 q.m) ∧ w.cell? ⟨b, o + 4, none⟩ = some (.slice q.a q.l.length q.c)
theorem CellM.of {w w' : World} {b o : Nat} {q : MV} (h : CellM w b o q) (hb : w'.heap[b]? = w.heap[b]?) : CellM w' b o q := by
  have e : ∀ k, w'.cell? ⟨b, k, none⟩ = w.cell? ⟨b, k, none⟩ := fun k => World.cell?_of_block (a := ⟨b, k, none⟩) hb
  unfold CellM at *
  simp only [e]
  exact h
def MScript (w : World) (a : Option Addr) (SL : List MV) : Prop := ∀ i, i < SL.length → ∃ b off, a = some ⟨b, off, none⟩ ∧ b < w.heap.size ∧ CellM w b (off + i * 5) (SL.getD i mv0) ∧ (SL.getD i mv0).fine w
theorem MScript.at {w w' : World} {a : Option Addr} {SL : List MV} (h : MScript w a SL) (hb : Below w.heap.size w w') (i : Nat) (hi : i < SL.length) : ∃ b off, a = some ⟨b, off, none⟩ ∧ b < w.heap.size ∧ CellM w' b (off + i * 5) (SL.getD i mv0) ∧ (SL.getD i mv0).fine w' := by
  obtain ⟨b, off, e, hlt, hc, h1, h2⟩ := h i hi
  exact ⟨b, off, e, hlt, hc.of (hb.block b hlt), h1.below hb, h2⟩
set_option maxRecDepth 100000 in
theorem move_within {fuel : Nat} {cs : List Value} {x : DataW H × List MemPlace} (hw : wth.Within Try.prog 37 x.1) (h : DataW.trod enc Try.prog w base (fun _ => true) held fuel 37 cs = some x) : ∃ q : MV, cs = q.cells.toList ∧ q.fine w := by
  obtain ⟨hl, n, hf⟩ := wth.fields_within Try.underlying37 hw h
  rw [show Try.prog.cellsOf 37 = 5 by kernel_rfl] at hl
  match cs, hl with
  | [c0, c1, c2, c3, c4], _ =>
    obtain ⟨y0, h0, g0⟩ := hf 0 _ rfl
    obtain ⟨y1, h1, g1⟩ := hf 1 _ rfl
    obtain ⟨y2, h2, g2⟩ := hf 2 _ rfl
    obtain ⟨y3, h3, g3⟩ := hf 3 _ rfl
    obtain ⟨y4, h4, g4⟩ := hf 4 _ rfl
    obtain ⟨n0, e0, -, w0⟩ := DataW.trod_int Try.underlying3 h0
    obtain ⟨n1, e1, -, w1⟩ := DataW.trod_int Try.underlying3 h1
    obtain ⟨n2, e2, -, w2⟩ := DataW.trod_int Try.underlying3 h2
    obtain ⟨n3, e3, -, w3⟩ := DataW.trod_int Try.underlying3 h3
    obtain ⟨a4, cap4, l4, e4, r4, m4⟩ := ints_within g4 h4
    change [c0] = _ at e0
    change [c1] = _ at e1
    change [c2] = _ at e2
    change [c3] = _ at e3
    change [c4] = _ at e4
    simp only [List.cons.injEq, and_true] at e0 e1 e2 e3 e4
    subst e0 e1 e2 e3 e4
    exact ⟨⟨n0, n1, n2, n3, a4, l4, cap4⟩, rfl, r4, m4⟩
set_option maxRecDepth 100000 in
theorem open_moves {v : Value} {d : DataW H} {p : List MemPlace} (hw : wth.Within Try.prog 23 d) (hv : Value.okWide Try.prog w .any base 23 v) (h : DataW.Trod enc Try.prog w 0 (fun _ => true) true 23 v d p) :
    ∃ (a : Option Addr) (cap : Nat) (SL : List MV), v = .slice a SL.length cap ∧ MScript w a SL ∧ SL.length ≤ 17592186043904 := by
  obtain ⟨a0, len0, cap0, rfl⟩ := okWide_slice Try.underlying23 hv
  obtain ⟨fuel, hf⟩ := h
  rcases wth.slice_within Try.underlying23 hw hf with hcs | ⟨a, len, cap, n, hcs, -, hl, hm, hby, hi⟩
  · simp only [Value.cells, List.cons.injEq, and_true, Value.slice.injEq] at hcs
    obtain ⟨rfl, rfl, rfl⟩ := hcs
    exact ⟨none, 0, [], rfl, fun i hi => by simp at hi, by simp⟩
  · simp [Value.cells] at hcs
    obtain ⟨rfl, rfl, rfl⟩ := hcs
    have hc5 : Try.prog.cellsOf 37 = 5 := by kernel_rfl
    rw [hc5] at hi
    rw [show Try.prog.bytesOf 37 = 56 by kernel_rfl] at hby
    have hr : reachBytes = 140737488351232 := rfl
    have hcell : ∀ i, i < cap0 → ∃ q : MV, q.fine w ∧ ∀ j, j < 5 → w.cell? ((a.add (i * 5)).add j) = q.cells.toList[j]? := by
      intro i hic
      obtain ⟨cs', y, h1, h2, h3⟩ := hi i hic
      obtain ⟨q, rfl, hok⟩ := move_within h3 h2
      obtain ⟨-, -, hc⟩ := World.cells?_some h1
      exact ⟨q, hok, fun j hj => hc j hj⟩
    haveI : Inhabited MV := ⟨mv0⟩
    obtain ⟨f, hf⟩ := Go.Deep.choose_lt (α := MV) hcell
    have hls : ((List.range len0).map f).length = len0 := by simp
    refine ⟨some a, cap0, (List.range len0).map f, by rw [hls], fun i hi' => ?_, by rw [hls]; omega⟩
    rw [hls] at hi'
    obtain ⟨hfine, hg⟩ := hf i (by omega)
    obtain ⟨b, off, spot⟩ := a
    have z0 := (hf 0 (by omega)).2 0 (by omega)
    have hspot : spot = none := by simpa [Addr.add] using World.cell?_spot (z0.trans rfl)
    subst hspot
    simp only [run.add_none] at hg
    have k0 := hg 0 (by omega)
    have hget : ((List.range len0).map f).getD i mv0 = f i := by simp [List.getD_eq_getElem?_getD, hi']
    rw [hget]
    exact ⟨b, off, rfl, run.lt_of_cell (k0.trans rfl), ⟨hg 0 (by omega), hg 1 (by omega), hg 2 (by omega), hg 3 (by omega), hg 4 (by omega)⟩, hfine⟩
set_option maxRecDepth 100000 in
theorem open_list {v : Value} {d : DataW H} {p : List MemPlace} (hw : wth.Within Try.prog 22 d) (hv : Value.okWide Try.prog w .any base 22 v) (h : DataW.Trod enc Try.prog w 0 (fun _ => true) true 22 v d p) :
    ∃ (a : Option Addr) (cap : Nat) (l : List Int), v = .slice a l.length cap ∧ run.ReadsN 1 w (.slice a l.length cap) l.length (iv l) ∧ l.length ≤ 17592186043904 := by
  obtain ⟨a0, len0, cap0, rfl⟩ := okWide_slice Try.underlying22 hv
  obtain ⟨fuel, hf⟩ := h
  obtain ⟨a, cap, l, hcs, hr⟩ := ints_within hw hf
  simp only [Value.cells, List.cons.injEq, and_true, Value.slice.injEq] at hcs
  obtain ⟨rfl, rfl, rfl⟩ := hcs
  exact ⟨_, _, l, rfl, hr⟩
end
end Go.Proofs.Ytgpgbbbcodnieaa.ed
