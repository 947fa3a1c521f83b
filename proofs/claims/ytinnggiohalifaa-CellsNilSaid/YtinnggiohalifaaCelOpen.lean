/-
  Arguments of the laws of layer cells, opened: styles, rectangles, cells, rows of cells.
-/
import Derived.Test.YtinnggiohalifaaCelRows
import Derived.Test.YtinnggiohalifaaCelRefStyle
import Derived.ProofKit
import Derived.OpenShut
import Derived.SizedLaws
import Derived.Deep.Slices
namespace Go.Proofs.Ytinnggiohalifaa.cel
open Go.ChangeShapes Go.WideShapes Go.ChangeAt Go.RowKit Go.Proofs
set_option linter.unusedVariables false

def SV.ok (s : SV) : Prop := s.wf ∧ 0 ≤ s.att ∧ s.att ≤ 255
def CV.ok (c : CV) : Prop := c.text.size ≤ maxLen ∧ (-128 ≤ c.wide ∧ c.wide ≤ 127) ∧ c.sty.ok
theorem wf_i32 {n : Int} (h : (Lit.int .i32 n).wf = true) : w32 n := by
  unfold w32
  simp only [Lit.wf, Bool.and_eq_true, decide_eq_true_eq] at h
  rw [show IntKind.i32.min = -2147483648 by decide, show IntKind.i32.max = 2147483647 by decide] at h
  omega
theorem wf_i64 {n : Int} (h : (Lit.int .i64 n).wf = true) : w64 n := by
  unfold w64
  simp only [Lit.wf, Bool.and_eq_true, decide_eq_true_eq] at h
  rw [show IntKind.i64.min = -9223372036854775808 by decide, show IntKind.i64.max = 9223372036854775807 by decide] at h
  omega
theorem wf_i8 {n : Int} (h : (Lit.int .i8 n).wf = true) : -128 ≤ n ∧ n ≤ 127 := by
  simp only [Lit.wf, Bool.and_eq_true, decide_eq_true_eq] at h
  rw [show IntKind.i8.min = -128 by decide, show IntKind.i8.max = 127 by decide] at h
  omega
theorem wf_u8 {n : Int} (h : (Lit.int .u8 n).wf = true) : 0 ≤ n ∧ n ≤ 255 := by
  simp only [Lit.wf, Bool.and_eq_true, decide_eq_true_eq] at h
  rw [show IntKind.u8.min = 0 by decide, show IntKind.u8.max = 255 by decide] at h
  omega
section
variable {H : Type} {enc : TypeId × Value → H} {w : World} {base : Nat} {spare : Nat → Bool} {held : Bool}

theorem trod_fields {P : Program} {t : TypeId} {fs : Array Field} {fuel : Nat} {cs : List Value} {x : DataW H × List MemPlace} (ht : P.underlying t = some (.struct fs)) (h : DataW.trod enc P w base spare held fuel t cs = some x) :
    cs.length = P.cellsOf t ∧ ∃ n, ∀ (i : Nat) (f : Field), fs[i]? = some f → ∃ y, DataW.trod enc P w base spare held n f.type ((cs.drop f.offset).take (P.cellsOf f.type)) = some y := by
  obtain ⟨xs, n, -, -, hl, hx, hf⟩ := DataW.trod_struct ht h
  refine ⟨hl, n, fun i f hi => ?_⟩
  have hlt := (Array.getElem?_eq_some_iff.1 hi).1
  rw [hf i f hi]
  exact ⟨xs[i], List.getElem?_eq_getElem (by omega)⟩

set_option maxRecDepth 100000 in
theorem trod_sty {fuel : Nat} {cs : List Value} {x : DataW H × List MemPlace} (h : DataW.trod enc Try.prog w base spare held fuel 24 cs = some x) : ∃ s : SV, cs = [.int .i32 s.fg, .int .i32 s.bg, .int .u8 s.att] ∧ s.ok := by
  obtain ⟨hl, n, hf⟩ := trod_fields Try.underlying24 h
  rw [show Try.prog.cellsOf 24 = 3 by kernel_rfl] at hl
  match cs, hl with
  | [a, b, c], _ =>
    obtain ⟨y0, h0⟩ := hf 0 _ rfl
    obtain ⟨y1, h1⟩ := hf 1 _ rfl
    obtain ⟨y2, h2⟩ := hf 2 _ rfl
    obtain ⟨n0, e0, -, w0⟩ := DataW.trod_int Try.underlying22 h0
    obtain ⟨n1, e1, -, w1⟩ := DataW.trod_int Try.underlying22 h1
    obtain ⟨n2, e2, -, w2⟩ := DataW.trod_int Try.underlying5 h2
    change [a] = _ at e0
    change [b] = _ at e1
    change [c] = _ at e2
    simp only [List.cons.injEq, and_true] at e0 e1 e2
    subst e0 e1 e2
    exact ⟨⟨n0, n1, n2⟩, rfl, ⟨wf_i32 w0, wf_i32 w1⟩, wf_u8 w2⟩

set_option maxRecDepth 100000 in
theorem trod_rect {fuel : Nat} {cs : List Value} {x : DataW H × List MemPlace} (h : DataW.trod enc Try.prog w base spare held fuel 58 cs = some x) : ∃ r : RT, cs = [.int .i64 r.x, .int .i64 r.y, .int .i64 r.w, .int .i64 r.h] ∧ r.wf := by
  obtain ⟨hl, n, hf⟩ := trod_fields Try.underlying58 h
  rw [show Try.prog.cellsOf 58 = 4 by kernel_rfl] at hl
  match cs, hl with
  | [a, b, c, d], _ =>
    obtain ⟨y0, h0⟩ := hf 0 _ rfl
    obtain ⟨y1, h1⟩ := hf 1 _ rfl
    obtain ⟨y2, h2⟩ := hf 2 _ rfl
    obtain ⟨y3, h3⟩ := hf 3 _ rfl
    obtain ⟨n0, e0, -, w0⟩ := DataW.trod_int Try.underlying3 h0
    obtain ⟨n1, e1, -, w1⟩ := DataW.trod_int Try.underlying3 h1
    obtain ⟨n2, e2, -, w2⟩ := DataW.trod_int Try.underlying3 h2
    obtain ⟨n3, e3, -, w3⟩ := DataW.trod_int Try.underlying3 h3
    change [a] = _ at e0
    change [b] = _ at e1
    change [c] = _ at e2
    change [d] = _ at e3
    simp only [List.cons.injEq, and_true] at e0 e1 e2 e3
    subst e0 e1 e2 e3
    exact ⟨⟨n0, n1, n2, n3⟩, rfl, wf_i64 w0, wf_i64 w1, wf_i64 w2, wf_i64 w3⟩

set_option maxRecDepth 100000 in
theorem trod_cell {fuel : Nat} {cs : List Value} {x : DataW H × List MemPlace} (h : DataW.trod enc Try.prog w base spare held fuel 44 cs = some x) : ∃ c : CV, cs = [.string c.text, .int .i8 c.wide, .int .i32 c.sty.fg, .int .i32 c.sty.bg, .int .u8 c.sty.att] ∧ c.ok := by
  obtain ⟨hl, n, hf⟩ := trod_fields Try.underlying44 h
  rw [show Try.prog.cellsOf 44 = 5 by kernel_rfl] at hl
  match cs, hl with
  | [a, b, c, d, e], _ =>
    obtain ⟨y0, h0⟩ := hf 0 _ rfl
    obtain ⟨y1, h1⟩ := hf 1 _ rfl
    obtain ⟨y2, h2⟩ := hf 2 _ rfl
    obtain ⟨s0, e0, -, w0⟩ := DataW.trod_string Try.underlying9 h0
    obtain ⟨n1, e1, -, w1⟩ := DataW.trod_int Try.underlying42 h1
    obtain ⟨s, e2, w2⟩ := trod_sty h2
    change [a] = _ at e0
    change [b] = _ at e1
    change [c, d, e] = _ at e2
    simp only [List.cons.injEq, and_true] at e0 e1 e2
    obtain ⟨rfl, rfl, rfl⟩ := e2
    subst e0 e1
    exact ⟨⟨s0, n1, s⟩, rfl, w0, wf_i8 w1, w2⟩

set_option maxRecDepth 100000 in
theorem trod_row {fuel : Nat} {cs : List Value} {x : DataW H × List MemPlace} (h : DataW.trod enc Try.prog w base (fun _ => true) held fuel 35 cs = some x) :
    ∃ (a : Option Addr) (cap : Nat) (L : List CV), cs = [.slice a L.length cap] ∧ Reads5 w (.slice a L.length cap) L ∧ L.length ≤ cap ∧ cap ≤ maxLen ∧ (∀ c ∈ L, c.ok) := by
  rcases Go.Deep.open_slice Try.underlying35 h with ⟨rfl, -⟩ | ⟨a, len, cap, m, n, D, Pl, rfl, -, hl, hm, hmm, -, hi⟩
  · exact ⟨none, 0, [], rfl, ⟨none, 0, rfl, fun i hi => by simp at hi⟩, Nat.le_refl _, Nat.zero_le _, by simp⟩
  · simp only [if_true] at hmm
    obtain rfl : cap = m := hmm.symm
    have hc5 : Try.prog.cellsOf 44 = 5 := by kernel_rfl
    rw [hc5] at hi
    have hcell : ∀ i, i < cap → ∃ c : CV, c.ok ∧ w.cell? ((a.add (i * 5)).add 0) = some (.string c.text) ∧ w.cell? ((a.add (i * 5)).add 1) = some (.int .i8 c.wide) ∧ w.cell? ((a.add (i * 5)).add 2) = some (.int .i32 c.sty.fg) ∧ w.cell? ((a.add (i * 5)).add 3) = some (.int .i32 c.sty.bg) ∧ w.cell? ((a.add (i * 5)).add 4) = some (.int .u8 c.sty.att) := by
      intro i hic
      obtain ⟨cs', h1, h2⟩ := hi i hic
      obtain ⟨c, rfl, hok⟩ := trod_cell h2
      obtain ⟨-, -, hc⟩ := World.cells?_some h1
      exact ⟨c, hok, hc 0 (by omega), hc 1 (by omega), hc 2 (by omega), hc 3 (by omega), hc 4 (by omega)⟩
    obtain ⟨f, hf⟩ := Go.Deep.choose_lt (α := CV) hcell
    have hls : ((List.range len).map f).length = len := by simp
    refine ⟨some a, cap, (List.range len).map f, by rw [hls], ⟨some a, cap, rfl, fun i hi' => ?_⟩, by rw [hls]; exact hl, hm, fun c hc => ?_⟩
    · rw [hls] at hi'
      obtain ⟨-, g0, g1, g2, g3, g4⟩ := hf i (by omega)
      obtain ⟨-, k0, -⟩ := hf 0 (by omega)
      obtain ⟨b, off, spot⟩ := a
      have hspot : spot = none := by simpa [Addr.add] using World.cell?_spot k0
      subst hspot
      simp only [run.add_none] at g0 g1 g2 g3 g4
      have hget : ((List.range len).map f).getD i z0 = f i := by simp [List.getD_eq_getElem?_getD, hi']
      rw [hget]
      exact ⟨b, off, rfl, run.lt_of_cell g0, g0, g1, g2, g3, g4⟩
    · obtain ⟨i, hi2, rfl⟩ := List.mem_map.1 hc
      exact (hf i (by have := List.mem_range.1 hi2; omega)).1
end
end Go.Proofs.Ytinnggiohalifaa.cel
