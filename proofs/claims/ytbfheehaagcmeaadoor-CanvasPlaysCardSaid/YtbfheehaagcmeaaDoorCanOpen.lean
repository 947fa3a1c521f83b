/-
  Arguments of the layer canvas, opened: floats, points, lists of both.
-/
import Derived.Test.YtbfheehaagcmeaaDoorCanPts
import Derived.ProofKit
import Derived.OpenShut
import Derived.SizedLaws
import Derived.Laws.Cover2
import Derived.Deep.SlicePairs
import Derived.Lib.SmallJoins
namespace Go.Proofs.YtbfheehaagcmeaaDoor.can
open Go.ChangeShapes Go.WideShapes Go.ChangeAt Go.RowKit Go.Proofs Go.Joins
set_option linter.unusedVariables false
section
variable {H : Type} {enc : TypeId × Value → H} {P : Program} {w : World} {base : Nat} {spare : Nat → Bool} {held : Bool}

theorem trod_float {t : TypeId} {k : FloatKind} {n : Nat} {v : Value} {y : DataW H × List MemPlace} (ht : P.underlying t = some (.float k)) (h : DataW.trod enc P w base spare held n t [v] = some y) : ∃ b, v = .float k b := by
  cases n with
  | zero => simp [DataW.trod] at h
  | succ n =>
    simp only [DataW.trod, ht] at h
    cases v <;> simp_all
theorem trod_float_wf {t : TypeId} {k : FloatKind} {n : Nat} {b : Nat} {y : DataW H × List MemPlace} (ht : P.underlying t = some (.float k)) (h : DataW.trod enc P w base spare held n t [.float k b] = some y) : (Lit.float k b).wf = true := by
  cases n with
  | zero => simp [DataW.trod] at h
  | succ n =>
    simp only [DataW.trod, ht] at h
    by_cases hw : (Lit.float k b).wf = true
    · exact hw
    · simp [hw] at h
theorem wf_f64 {b : Nat} (h : (Lit.float .f64 b).wf = true) : b < 18446744073709551616 := by simpa [Lit.wf] using h
end

set_option maxRecDepth 100000 in
theorem open_pt {H : Type} {enc : TypeId × Value → H} {W : World} {base : Nat} {v : Value} {d : DataW H} {p : List MemPlace} (hv : Value.okWide Tryd.prog W .any base 82 v)
    (h : DataW.Trod enc Tryd.prog W 0 (fun _ => true) true 82 v d p) : ∃ x y : Nat, v = .agg #[F x, F y] := by
  obtain ⟨v0, v1, y0, y1, n, rfl, -, -, h0, h1⟩ := open_agg2 Tryd.underlying82 (by kernel_rfl) (by kernel_rfl) hv h
  obtain ⟨b0, rfl⟩ := trod_float Tryd.underlying45 h0
  obtain ⟨b1, rfl⟩ := trod_float Tryd.underlying45 h1
  exact ⟨b0, b1, rfl⟩

theorem choose_nat {p : Nat → Nat → Prop} {n : Nat} (h : ∀ i, i < n → ∃ x, p i x) : ∃ f : Nat → Nat, ∀ i, i < n → p i (f i) := by
  induction n with
  | zero => exact ⟨fun _ => 0, fun i hi => by omega⟩
  | succ n ih =>
    obtain ⟨f, hf⟩ := ih fun i hi => h i (by omega)
    obtain ⟨x, hx⟩ := h n (by omega)
    refine ⟨fun i => if i = n then x else f i, fun i hi => ?_⟩
    by_cases e : i = n
    · subst e; simpa using hx
    · simp only [if_neg e]; exact hf i (by omega)

set_option maxRecDepth 100000 in
theorem open_points {H : Type} {enc : TypeId × Value → H} {W : World} {base : Nat} {v : Value} {d : DataW H} {p : List MemPlace} (hv : Value.okWide Tryd.prog W .any base 33 v)
    (h : DataW.Trod enc Tryd.prog W 0 (fun _ => true) true 33 v d p) (hs : ∀ n ∈ d.weights Tryd.prog 33, n ≤ reachBytes) :
    ∃ (a : Option Addr) (cap : Nat) (l : List (Nat × Nat)), v = .slice a l.length cap ∧ run.ReadsN 2 W v l.length (cellsP l) ∧ l.length * 16 ≤ 140737488351232 := by
  obtain ⟨a, len, cap, rfl⟩ := okWide_slice Tryd.underlying33 hv
  obtain ⟨fuel, hf⟩ := h
  rcases Go.Deep.open_slice_pairs Tryd.underlying33 Tryd.underlying82 (by kernel_rfl) rfl rfl (by kernel_rfl) (by kernel_rfl) hf with ⟨hcs, hx⟩ | ⟨x, l, c, m, n, V0, V1, D0, D1, P0, P1, hcs, -, hl, hm, hmm, hx, hi⟩
  · simp [Value.cells] at hcs
    obtain ⟨rfl, rfl, rfl⟩ := hcs
    exact ⟨none, 0, [], rfl, ⟨by simp [cellsP], none, 0, rfl, fun h => absurd rfl h, fun _ => rfl⟩, by simp⟩
  · simp [Value.cells] at hcs
    obtain ⟨rfl, rfl, rfl⟩ := hcs
    simp only [if_true] at hmm
    obtain rfl : cap = m := hmm.symm
    obtain ⟨f0, hf0⟩ := choose_nat fun i (h : i < cap) => trod_float Tryd.underlying45 (hi i h).2.2.1
    obtain ⟨f1, hf1⟩ := choose_nat fun i (h : i < cap) => trod_float Tryd.underlying45 (hi i h).2.2.2
    have hd : d = _ := congrArg Prod.fst hx
    have hw : cap * 16 ≤ 140737488351232 := by
      refine Nat.le_trans (hs _ ?_) (Nat.le_of_eq rfl)
      rw [hd]
      simp only [DataW.weights, Tryd.underlying33]
      apply List.mem_cons.2
      left
      have hb : Tryd.prog.bytesOf 82 = 16 := by kernel_rfl
      rw [hb]
      simp only [List.length_map, List.length_range]
      congr 1; omega
    let ls : List (Nat × Nat) := (List.range len).map fun i => (f0 i, f1 i)
    have hls : ls.length = len := by simp [ls]
    refine ⟨some x, cap, ls, by rw [hls], ⟨cellsP_len ls, some x, cap, by rw [hls], fun hne => ?_, fun h => by cases h⟩, by rw [hls]; have := Nat.mul_le_mul_right 16 hl; omega⟩
    have h0 : 0 < len := by
      rcases Nat.eq_zero_or_pos len with e | e
      · exfalso; apply hne; have : ls = [] := by simp [ls, e]
        rw [this]; rfl
      · exact e
    obtain ⟨b, off, spot⟩ := x
    have h00 := (hi 0 (by omega)).1
    have hspot : spot = none := by simpa [Addr.add] using World.cell?_spot h00
    subst hspot
    refine ⟨b, off, rfl, ?_, fun i u hu => ?_⟩
    · rw [run.add_none] at h00
      exact run.lt_of_cell h00
    · have hil : i < ls.length * 2 := by
        rw [← cellsP_len]
        rcases Nat.lt_or_ge i (cellsP ls).length with h | h
        · exact h
        · rw [List.getElem?_eq_none h] at hu; cases hu
      have hk : i / 2 < ls.length := by omega
      have hat := cellsP_at ls (i / 2) hk
      have hget : ls.getD (i / 2) (0, 0) = (f0 (i / 2), f1 (i / 2)) := by simp [ls, List.getD_eq_getElem?_getD, show i / 2 < len by omega]
      rw [hget] at hat
      obtain ⟨g1, g2, -, -⟩ := hi (i / 2) (by omega)
      rw [run.add_none] at g1 g2
      rw [hf0 (i / 2) (by omega)] at g1
      rw [hf1 (i / 2) (by omega)] at g2
      rcases (show i = i / 2 * 2 ∨ i = i / 2 * 2 + 1 by omega) with e | e
      · rw [e] at hu ⊢
        rw [hat.1] at hu
        rw [g1, ← hu]
      · rw [e] at hu ⊢
        rw [hat.2] at hu
        rw [← Nat.add_assoc, ← hu]
        rw [← Nat.add_assoc] at g2
        exact g2

set_option maxRecDepth 100000 in
theorem open_floats {H : Type} {enc : TypeId × Value → H} {W : World} {base : Nat} {v : Value} {d : DataW H} {p : List MemPlace} (hv : Value.okWide Tryd.prog W .any base 68 v)
    (h : DataW.Trod enc Tryd.prog W 0 (fun _ => true) true 68 v d p) (hs : ∀ n ∈ d.weights Tryd.prog 68, n ≤ reachBytes) :
    ∃ (a : Option Addr) (cap : Nat) (l : List Nat), v = .slice a l.length cap ∧ run.Reads W v (l.map F) ∧ l.length * 8 ≤ 140737488351232 ∧ l.length ≤ cap ∧ ∀ x ∈ l, x < 18446744073709551616 := by
  obtain ⟨a, len, cap, rfl⟩ := okWide_slice Tryd.underlying68 hv
  obtain ⟨fuel, hf⟩ := h
  rcases Go.Deep.open_slice1 Tryd.underlying68 (by kernel_rfl) hf with ⟨hcs, hx⟩ | ⟨x, l, c, m, n, V, D, Pl, hcs, -, hl, hm, hmm, hx, hi⟩
  · simp [Value.cells] at hcs
    obtain ⟨rfl, rfl, rfl⟩ := hcs
    exact ⟨none, 0, [], rfl, ⟨none, 0, rfl, fun h => absurd rfl h, fun _ => rfl⟩, by simp, by simp, by simp⟩
  · simp [Value.cells] at hcs
    obtain ⟨rfl, rfl, rfl⟩ := hcs
    simp only [if_true] at hmm
    obtain rfl : cap = m := hmm.symm
    obtain ⟨f0, hf0⟩ := choose_nat fun i (h : i < cap) => trod_float Tryd.underlying45 (hi i h).2
    have hd : d = _ := congrArg Prod.fst hx
    have hw : cap * 8 ≤ 140737488351232 := by
      refine Nat.le_trans (hs _ ?_) (Nat.le_of_eq rfl)
      rw [hd]
      simp only [DataW.weights, Tryd.underlying68]
      apply List.mem_cons.2
      left
      have hb : Tryd.prog.bytesOf 45 = 8 := by kernel_rfl
      rw [hb]
      simp only [List.length_map, List.length_range]
      congr 1; omega
    let ls : List Nat := (List.range len).map f0
    have hls : ls.length = len := by simp [ls]
    refine ⟨some x, cap, ls, by rw [hls], ⟨some x, cap, by rw [List.length_map, hls], fun hne => ?_, fun h => by cases h⟩, by rw [hls]; have := Nat.mul_le_mul_right 8 hl; omega, by rw [hls]; exact hl, ?_⟩
    rotate_left
    · intro x hx
      obtain ⟨i, hi2, rfl⟩ := List.mem_map.1 hx
      have hi3 : i < cap := by have := List.mem_range.1 hi2; omega
      have h3 := (hi i hi3).2
      rw [hf0 i hi3] at h3
      exact wf_f64 (trod_float_wf Tryd.underlying45 h3)
    have h0 : 0 < len := by
      rcases Nat.eq_zero_or_pos len with e | e
      · exfalso; apply hne; simp [ls, e]
      · exact e
    obtain ⟨b, off, spot⟩ := x
    have h00 := (hi 0 (by omega)).1
    have hspot : spot = none := by simpa [Addr.add] using World.cell?_spot h00
    subst hspot
    refine ⟨b, off, rfl, ?_, fun i u hu => ?_⟩
    · rw [run.add_none] at h00
      exact run.lt_of_cell h00
    · have hil : i < len := by
        rcases Nat.lt_or_ge i len with h | h
        · exact h
        · rw [List.getElem?_eq_none (by simp [ls]; omega)] at hu; cases hu
      have g := (hi i (by omega)).1
      rw [run.add_none, hf0 i (by omega)] at g
      rw [g, ← hu]
      simp [ls, hil]
end Go.Proofs.YtbfheehaagcmeaaDoor.can
