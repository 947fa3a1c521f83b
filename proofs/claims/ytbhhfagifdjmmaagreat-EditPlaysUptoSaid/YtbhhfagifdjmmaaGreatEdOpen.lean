/-
  A script of steps and two texts as they are handed in: what is read of them, their bounds; is too much typed?
-/
import Derived.Test.YtbhhfagifdjmmaaGreatEdD
import Derived.Test.YtbhhfagifdjmmaaGreatBulk
import Derived.ProofKit
import Derived.OpenShut
import Derived.SizedLaws
import Derived.JoinedCond
import Derived.Deep.Slices
namespace Go.Proofs.YtbhhfagifdjmmaaGreat.ed
open Go.ChangeShapes Go.WideShapes Go.ChangeAt Go.RowKit Go.Proofs
set_option linter.unusedVariables false
/-- a step of a script -/
structure SV where
  d : Int
  who : Int
  n : Int
  m : Bool
  t : ByteArray
def sv0 : SV := ⟨0, 0, 0, false, ⟨#[]⟩⟩
def SV.cells (q : SV) : Array Value := #[.int .i64 q.d, .int .i64 q.who, .int .i64 q.n, .bool q.m, .string q.t]
/-- a step as it lies in memory -/
def Cell5 (w : World) (b o : Nat) (q : SV) : Prop :=
  w.cell? ⟨b, o, none⟩ = some (.int .i64 q.d) ∧ w.cell? ⟨b, o + 1, none⟩ = some (.int .i64 q.who) ∧ w.cell? ⟨b, o + 2, none⟩ = some (.int .i64 q.n) ∧ w.cell? ⟨b, o + 3, none⟩ = some (.bool q.m) ∧ w.cell? ⟨b, o + 4, none⟩ = some (.string q.t)
theorem Cell5.of {w w' : World} {b o : Nat} {q : SV} (h : Cell5 w b o q) (hb : w'.heap[b]? = w.heap[b]?) : Cell5 w' b o q := by
  have e : ∀ k, w'.cell? ⟨b, k, none⟩ = w.cell? ⟨b, k, none⟩ := fun k => World.cell?_of_block (a := ⟨b, k, none⟩) hb
  unfold Cell5 at *
  simp only [e]
  exact h
def ScriptIn (w : World) (a : Option Addr) (SL : List SV) : Prop := ∀ i, i < SL.length → ∃ b off, a = some ⟨b, off, none⟩ ∧ b < w.heap.size ∧ Cell5 w b (off + i * 5) (SL.getD i sv0) ∧ (SL.getD i sv0).t.size ≤ 1048576
theorem ScriptIn.below {w w' : World} {a : Option Addr} {SL : List SV} (h : ScriptIn w a SL) (hb : Below w.heap.size w w') : ScriptIn w' a SL := by
  intro i hi
  obtain ⟨b, off, e, hlt, hc, ht⟩ := h i hi
  exact ⟨b, off, e, Nat.lt_of_lt_of_le hlt hb.size, hc.of (hb.block b hlt), ht⟩
/-- bulk within the bound -/
def Bulk {H : Type} (d : DataW H) : Prop := Rows.uptoBulk d ≤ 1048576
section
variable {H : Type} {enc : TypeId × Value → H} {P : Program} {w : World} {base : Nat} {held : Bool}
theorem fields_bulk {spare : Nat → Bool} {t : TypeId} {fs : Array Field} {fuel : Nat} {cs : List Value} {x : DataW H × List MemPlace} (ht : P.underlying t = some (.struct fs)) (hw : Bulk x.1) (h : DataW.trod enc P w base spare held fuel t cs = some x) :
    cs.length = P.cellsOf t ∧ ∃ n, ∀ (i : Nat) (f : Field), fs[i]? = some f → ∃ y, DataW.trod enc P w base spare held n f.type ((cs.drop f.offset).take (P.cellsOf f.type)) = some y ∧ Bulk y.1 := by
  obtain ⟨xs, n, -, rfl, hl, hx, hf⟩ := DataW.trod_struct ht h
  refine ⟨hl, n, fun i f hi => ?_⟩
  have hlt := (Array.getElem?_eq_some_iff.1 hi).1
  have hxi : xs[i]? = some xs[i] := List.getElem?_eq_getElem (by omega)
  rw [hf i f hi]
  refine ⟨xs[i], hxi, ?_⟩
  have h1 := bulks.part_le (d := xs[i].1) (l := xs.map (·.1)) (List.mem_map.2 ⟨_, List.getElem_mem _, rfl⟩)
  unfold Bulk at hw ⊢
  simp only [Rows.uptoBulk] at hw
  omega
theorem slice_bulk {t e : TypeId} {fuel : Nat} {cs : List Value} {x : DataW H × List MemPlace} (ht : P.underlying t = some (.slice e)) (hw : Bulk x.1) (h : DataW.trod enc P w base (fun _ => true) held fuel t cs = some x) :
    (cs = [.slice none 0 0]) ∨
    ∃ (a : Addr) (len cap n : Nat), cs = [.slice (some a) len cap] ∧ base ≤ a.block ∧ len ≤ cap ∧ cap ≤ 1048576 ∧
      ∀ i, i < cap → ∃ cs' y, w.cells? base (a.add (i * P.cellsOf e)) (P.cellsOf e) = some cs' ∧ DataW.trod enc P w base (fun _ => true) held n e cs' = some y ∧ Bulk y.1 := by
  rcases Go.Deep.open_slice ht h with ⟨rfl, -⟩ | ⟨a, len, cap, m, n, D, Pl, rfl, hb, hl, hm, hmm, rfl, hi⟩
  · exact .inl rfl
  · simp only [if_true] at hmm
    obtain rfl : cap = m := hmm.symm
    unfold Bulk at hw
    have hsl := bulks.slice_le ((List.range len).map D) ((List.range (cap - len)).map fun i => D (len + i))
    simp only [List.length_map, List.length_range] at hsl
    have hse : ∀ i, i < cap → Rows.uptoBulk (D i) ≤ 1048576 := by
      intro i hic
      simp only [Rows.uptoBulk] at hw
      by_cases hil : i < len
      · have := bulks.part_le (d := D i) (l := (List.range len).map D) (List.mem_map.2 ⟨i, by simpa using hil, rfl⟩)
        omega
      · have := bulks.part_le (d := D i) (l := (List.range (cap - len)).map fun i => D (len + i)) (List.mem_map.2 ⟨i - len, by simp; omega, by rw [show len + (i - len) = i by omega]⟩)
        omega
    refine .inr ⟨a, len, cap, n, rfl, hb, hl, by have : Rows.uptoBulk (DataW.slice ((List.range len).map D) ((List.range (cap - len)).map fun i => D (len + i))) ≤ 1048576 := hw; omega, fun i hic => ?_⟩
    obtain ⟨cs', h1, h2⟩ := hi i hic
    exact ⟨cs', _, h1, h2, hse i hic⟩
theorem string_bulk {spare : Nat → Bool} {t : TypeId} {fuel : Nat} {cs : List Value} {x : DataW H × List MemPlace} (ht : P.underlying t = some .string) (hw : Bulk x.1) (h : DataW.trod enc P w base spare held fuel t cs = some x) : ∃ s : ByteArray, cs = [.string s] ∧ s.size ≤ 1048576 := by
  obtain ⟨s, rfl, rfl, -⟩ := DataW.trod_string ht h
  refine ⟨s, rfl, ?_⟩
  unfold Bulk at hw
  have h1 := bulks.string_eq (H := H) s.data.toList
  have h2 : s.data.toList.length = s.size := rfl
  have h3 : Rows.uptoBulk (DataW.lit (H := H) (.string s.data.toList)) ≤ 1048576 := hw
  omega
set_option maxRecDepth 100000 in
theorem step_bulk {fuel : Nat} {cs : List Value} {x : DataW H × List MemPlace} (hw : Bulk x.1) (h : DataW.trod enc Tryz.prog w base (fun _ => true) held fuel 33 cs = some x) : ∃ q : SV, cs = q.cells.toList ∧ q.t.size ≤ 1048576 := by
  obtain ⟨hl, n, hf⟩ := fields_bulk Tryz.underlying33 hw h
  rw [show Tryz.prog.cellsOf 33 = 5 by kernel_rfl] at hl
  match cs, hl with
  | [c0, c1, c2, c3, c4], _ =>
    obtain ⟨y0, h0, g0⟩ := hf 0 _ rfl
    obtain ⟨y1, h1, g1⟩ := hf 1 _ rfl
    obtain ⟨y2, h2, g2⟩ := hf 2 _ rfl
    obtain ⟨y3, h3, g3⟩ := hf 3 _ rfl
    obtain ⟨y4, h4, g4⟩ := hf 4 _ rfl
    obtain ⟨n0, e0, -, w0⟩ := DataW.trod_int Tryz.underlying3 h0
    obtain ⟨n1, e1, -, w1⟩ := DataW.trod_int Tryz.underlying3 h1
    obtain ⟨n2, e2, -, w2⟩ := DataW.trod_int Tryz.underlying3 h2
    obtain ⟨m3, e3, -⟩ := DataW.trod_bool Tryz.underlying4 h3
    obtain ⟨s4, e4, w4⟩ := string_bulk Tryz.underlying9 g4 h4
    change [c0] = _ at e0
    change [c1] = _ at e1
    change [c2] = _ at e2
    change [c3] = _ at e3
    change [c4] = _ at e4
    simp only [List.cons.injEq, and_true] at e0 e1 e2 e3 e4
    subst e0 e1 e2 e3 e4
    exact ⟨⟨n0, n1, n2, m3, s4⟩, rfl, w4⟩
set_option maxRecDepth 100000 in
theorem open_script {v : Value} {d : DataW H} {p : List MemPlace} (hw : Bulk d) (hv : Value.okWide Tryz.prog w .any base 23 v) (h : DataW.Trod enc Tryz.prog w 0 (fun _ => true) true 23 v d p) :
    ∃ (a : Option Addr) (cap : Nat) (SL : List SV), v = .slice a SL.length cap ∧ ScriptIn w a SL ∧ SL.length ≤ 1048576 := by
  obtain ⟨a0, len0, cap0, rfl⟩ := okWide_slice Tryz.underlying23 hv
  obtain ⟨fuel, hf⟩ := h
  rcases slice_bulk Tryz.underlying23 hw hf with hcs | ⟨a, len, cap, n, hcs, -, hl, hm, hi⟩
  · simp only [Value.cells, List.cons.injEq, and_true, Value.slice.injEq] at hcs
    obtain ⟨rfl, rfl, rfl⟩ := hcs
    exact ⟨none, 0, [], rfl, fun i hi => by simp at hi, by simp⟩
  · simp [Value.cells] at hcs
    obtain ⟨rfl, rfl, rfl⟩ := hcs
    have hc5 : Tryz.prog.cellsOf 33 = 5 := by kernel_rfl
    rw [hc5] at hi
    have hcell : ∀ i, i < cap0 → ∃ q : SV, q.t.size ≤ 1048576 ∧ ∀ j, j < 5 → w.cell? ((a.add (i * 5)).add j) = q.cells.toList[j]? := by
      intro i hic
      obtain ⟨cs', y, h1, h2, h3⟩ := hi i hic
      obtain ⟨q, rfl, hok⟩ := step_bulk h3 h2
      obtain ⟨-, -, hc⟩ := World.cells?_some h1
      exact ⟨q, hok, fun j hj => hc j hj⟩
    haveI : Inhabited SV := ⟨sv0⟩
    obtain ⟨f, hf⟩ := Go.Deep.choose_lt (α := SV) hcell
    have hls : ((List.range len0).map f).length = len0 := by simp
    refine ⟨some a, cap0, (List.range len0).map f, by rw [hls], fun i hi' => ?_, by rw [hls]; omega⟩
    rw [hls] at hi'
    obtain ⟨hfine, hg⟩ := hf i (by omega)
    obtain ⟨b, off, spot⟩ := a
    have z0 := (hf 0 (by omega)).2 0 (by omega)
    have hspot : spot = none := by simpa [Addr.add] using World.cell?_spot (z0.trans rfl)
    subst hspot
    simp only [run.add_none] at hg
    have k0 := hg 0 (by omega)
    have hget : ((List.range len0).map f).getD i sv0 = f i := by simp [List.getD_eq_getElem?_getD, hi']
    rw [hget]
    exact ⟨b, off, rfl, run.lt_of_cell (k0.trans rfl), ⟨hg 0 (by omega), hg 1 (by omega), hg 2 (by omega), hg 3 (by omega), hg 4 (by omega)⟩, hfine⟩
end
end Go.Proofs.YtbhhfagifdjmmaaGreat.ed
namespace Go.Proofs.YtbhhfagifdjmmaaGreat.ed
open Go Go.RowKit Go.Proofs
set_option linter.unusedVariables false
set_option maxRecDepth 100000 in
set_option maxHeartbeats 2000000 in
theorem typed_any {a : Option Addr} {cap : Nat} {SL : List SV} {w : World} (h : ScriptIn w a SL) (hN : SL.length ≤ 1048576) :
    Calls Tryz.prog 4 #[.slice a SL.length cap] w fun e w' => (∃ t : Bool, e = .returned (.bool t)) ∧ Below w.heap.size w w' := by
  have HS := run.hid h
  clear h
  generalize hNN : SL.length = N at *
  have HN := run.hid hNN
  clear hNN
  go_enter Tryz.func4, Tryz.ntmps4
  go_wp2
  go_loopw [3, 4] (fun vn vi wr => ∃ n i : Nat, i ≤ N ∧ n ≤ 134217728 ∧ vn = .int .i64 n ∧ vi = .int .i64 i ∧ wr = w) (fun _ vi _ => ((N : Int) - intOf vi).toNat)
  case atStart => exact ⟨0, 0, Nat.zero_le _, Nat.zero_le _, rfl, rfl, rfl⟩
  case round =>
    obtain ⟨n, i, hi, hn, rfl, rfl, rfl⟩ := hrel
    by_cases hlt : i < N
    · obtain ⟨b, off, rfl, hb, ⟨c0, c1, c2, c3, c4⟩, ht⟩ := HS.out i (by rw [HN.out]; exact hlt)
      clear HS
      generalize (SL.getD i sv0).t = t at *
      clear c0 c1 c2 c3
      have hts : (n : Int) + 1 + (t.size : Int) ≤ 9223372036854775807 := by omega
      by_cases hbig : 134217728 < n + 1 + t.size
      · have hbI : (134217728 : Int) < (n : Int) + 1 + (t.size : Int) := by omega
        go_wp2
        go_ret
        exact ⟨⟨true, rfl⟩, Below.refl _ _⟩
      · have hbI : ¬ (134217728 : Int) < (n : Int) + 1 + (t.size : Int) := by omega
        go_wp2
        go_roundw
        case rel => exact ⟨n + 1 + t.size, i + 1, by omega, by omega, by go_num, by go_num, by first | rfl | trivial⟩
        case measure => simp [intOf]; omega
    · obtain rfl : i = N := by omega
      clear HS
      go_wp2
      go_ret
      exact ⟨⟨false, rfl⟩, Below.refl _ _⟩
end Go.Proofs.YtbhhfagifdjmmaaGreat.ed
namespace Go.Proofs.YtbhhfagifdjmmaaGreat.ed
open Go.ChangeShapes Go.WideShapes Go.ChangeAt Go.RowKit Go.Proofs
set_option linter.unusedVariables false
theorem okWide_arr2 {P : Program} {w : World} {r : Reach} {base : Nat} {t e : TypeId} {n : Nat} {v : Value} (ht : P.underlying t = some (.array n e)) (h : Value.okWide P w r base t v) : ∃ cs, v = .agg cs := by
  simp only [Value.okWide, ht] at h
  obtain ⟨cs, h1, h2, _⟩ := h
  exact ⟨cs, h1⟩
set_option maxRecDepth 100000 in
theorem open_two {H : Type} {enc : TypeId × Value → H} {W : World} {base : Nat} {v : Value} {d : DataW H} {p : List MemPlace} (hw : Bulk d) (hv : Value.okWide Tryz.prog W .any base 22 v) (h : DataW.Trod enc Tryz.prog W 0 (fun _ => true) true 22 v d p) :
    ∃ a b : ByteArray, v = .agg #[.string a, .string b] ∧ a.size ≤ 1048576 ∧ b.size ≤ 1048576 := by
  obtain ⟨cs, rfl⟩ := okWide_arr2 Tryz.underlying22 hv
  obtain ⟨fuel, hf⟩ := h
  obtain ⟨xs, m, -, hx, hl, hxl, hi⟩ := DataW.trod_array Tryz.underlying22 hf
  rw [show Tryz.prog.cellsOf 22 = 2 by kernel_rfl] at hl
  rw [show Tryz.prog.cellsOf 9 = 1 by kernel_rfl] at hi
  have hd : d = .agg (xs.map (·.1)) := congrArg Prod.fst hx
  have hi0 := hi 0 (by omega)
  have hi1 := hi 1 (by omega)
  have h0 := List.getElem?_eq_getElem (show 0 < xs.length by omega)
  have h1 := List.getElem?_eq_getElem (show 1 < xs.length by omega)
  rw [h0] at hi0
  rw [h1] at hi1
  have hb : ∀ x ∈ xs, Bulk x.1 := by
    intro x hxm
    have hp := bulks.part_le (d := x.1) (l := xs.map (·.1)) (List.mem_map.2 ⟨x, hxm, rfl⟩)
    subst hd
    unfold Bulk at hw ⊢
    simp only [Rows.uptoBulk] at hw
    omega
  obtain ⟨sa, ea, za⟩ := string_bulk Tryz.underlying9 (hb _ (List.getElem_mem _)) hi0
  obtain ⟨sb, eb, zb⟩ := string_bulk Tryz.underlying9 (hb _ (List.getElem_mem _)) hi1
  obtain ⟨L⟩ := cs
  change L.length = 2 at hl
  obtain ⟨c0, c1, rfl⟩ : ∃ c0 c1, L = [c0, c1] := by
    match L, hl with
    | [c0, c1], _ => exact ⟨_, _, rfl⟩
  change [c0] = _ at ea
  change [c1] = _ at eb
  simp only [List.cons.injEq, and_true] at ea eb
  subst ea eb
  exact ⟨sa, sb, rfl, za, zb⟩
end Go.Proofs.YtbhhfagifdjmmaaGreat.ed
