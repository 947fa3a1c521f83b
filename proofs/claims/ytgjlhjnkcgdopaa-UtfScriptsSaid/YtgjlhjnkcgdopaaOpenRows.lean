/-
  A slice of slices of bytes that came in, opened for a walk.
-/
import Derived.Test.YtgjlhjnkcgdopaaRows
import Derived.Test.YtgjlhjnkcgdopaaUtfLawPieces
import Derived.ProofKit
import Derived.OpenShut
import Derived.SizedLaws
import Derived.Deep.Matrix
namespace Go.Proofs.Ytgjlhjnkcgdopaa.utf
open Go.RowKit Go.Proofs Go.ChangeShapes
set_option linter.unusedVariables false

theorem weightsAll_mem {H : Type} {P : Program} {e : TypeId} {n : Nat} : ∀ {l : List (DataW H)} {d : DataW H}, d ∈ l → n ∈ d.weights P e → n ∈ DataW.weightsAll P e l
  | x :: l, d, h, hn => by
    simp only [DataW.weightsAll, List.mem_append]
    rcases List.mem_cons.1 h with rfl | h
    · exact .inl hn
    · exact .inr (weightsAll_mem h hn)

def natsOf (zs : List Int) : List Nat := zs.map Int.toNat
theorem bv_nats {zs : List Int} (h : ∀ n ∈ zs, (Lit.int .u8 n).wf = true) : bv (natsOf zs) = zs.map (Value.int .u8) ∧ ∀ c ∈ natsOf zs, c < 256 := by
  have hb : ∀ n ∈ zs, 0 ≤ n ∧ n ≤ 255 := fun n hn => by simpa [Lit.wf, IntKind.min, IntKind.max, IntKind.signed, IntKind.bits] using h n hn
  constructor
  · simp only [bv, natsOf, List.map_map]
    apply List.map_congr_left
    intro n hn
    have := hb n hn
    simp only [Function.comp_def]
    rw [Int.toNat_of_nonneg this.1]
  · intro c hc
    simp only [natsOf, List.mem_map] at hc
    obtain ⟨n, hn, rfl⟩ := hc
    have := hb n hn
    omega

theorem open_rows2 {H : Type} {enc : TypeId × Value → H} {W : World} {a : Option Addr} {len cap : Nat} {d : DataW H} {p : List MemPlace}
    (h : DataW.Trod enc Try.prog W 0 (fun _ => true) true 35 (.slice a len cap) d p) (hs : ∀ n ∈ d.weights Try.prog 35, n ≤ reachBytes) :
    ∃ ls : List (List Nat), Rows2 W (.slice a len cap) ls ∧ ls.length ≤ 140737488355328 := by
  obtain ⟨fuel, hf⟩ := h
  rcases Go.Deep.open_int_rows Try.underlying35 Try.underlying47 Try.underlying5 (by kernel_rfl) (by kernel_rfl) hf with ⟨hcs, hx⟩ | ⟨x, l, c, A, L, C, Z, hcs, -, hl, hm, hx, hrow⟩
  · simp [Value.cells] at hcs
    obtain ⟨rfl, rfl, rfl⟩ := hcs
    exact ⟨[], ⟨none, 0, rfl, fun i hi => by simp at hi⟩, by simp⟩
  · simp [Value.cells] at hcs
    obtain ⟨rfl, rfl, rfl⟩ := hcs
    simp only [Prod.mk.injEq] at hx
    have hd := hx.1
    have hw : ∀ n ∈ d.weights Try.prog 35, n ≤ 140737488351232 := fun n hn => Nat.le_trans (hs n hn) (Nat.le_of_eq rfl)
    have hcap24 : cap * 24 ≤ 140737488351232 := by
      apply hw
      rw [hd]
      simp only [DataW.weights, Try.underlying35]
      apply List.mem_cons.2
      left
      have hb : Try.prog.bytesOf 47 = 24 := by kernel_rfl
      rw [hb]
      simp only [List.length_map, List.length_range]
      congr 1; omega
    let ls : List (List Nat) := (List.range len).map fun r => natsOf ((Z r).take (L r))
    have hls : ls.length = len := by simp [ls]
    have hget : ∀ r, r < len → ls.getD r [] = natsOf ((Z r).take (L r)) := fun r hr => by simp [ls, List.getD_eq_getElem?_getD, hr]
    refine ⟨ls, ?_, by omega⟩
    refine ⟨some x, cap, by rw [hls], fun i hi => ?_⟩
    rw [hls] at hi
    obtain ⟨b, off, spot⟩ := x
    obtain ⟨hc, hLC, hCm, hZl, hwf, hnone, hcells⟩ := hrow i (by omega)
    have h0 := (hrow 0 (by omega)).1
    have hspot : spot = none := by simpa [Addr.add] using World.cell?_spot h0
    subst hspot
    rw [run.add_none] at hc
    have hlt := run.lt_of_cell hc
    rw [hget i hi]
    have hbn := bv_nats (zs := (Z i).take (L i)) (fun n hn => hwf n (List.mem_of_mem_take hn))
    have hlen : (natsOf ((Z i).take (L i))).length = L i := by simp [natsOf]; omega
    have hLbound : C i ≤ 140737488351232 := by
      by_cases hA : A i = none
      · have := hnone hA; omega
      · apply hw
        rw [hd]
        simp only [DataW.weights, Try.underlying35]
        apply List.mem_cons.2
        right
        rw [List.mem_append]
        left
        refine weightsAll_mem (d := Go.Deep.intRow .u8 (A i) (L i) (Z i)) (List.mem_map.2 ⟨i, by simpa using hi, rfl⟩) ?_
        obtain ⟨y, hy⟩ := Option.ne_none_iff_exists'.1 hA
        rw [hy]
        simp only [Go.Deep.intRow, DataW.weights, Try.underlying47]
        apply List.mem_cons.2
        left
        have hb : Try.prog.bytesOf 5 = 1 := by kernel_rfl
        rw [hb]
        simp only [lits, List.length_map, List.length_take, List.length_drop]
        omega
    refine ⟨b, off, A i, C i, rfl, hlt, by rw [hlen]; exact hc, ?_, hbn.2, by rw [hlen]; omega⟩
    rw [hbn.1]
    refine ⟨A i, C i, by rw [List.length_map, ← hlen]; simp [natsOf], fun hne => ?_, hnone⟩
    have hL0 : 0 < L i := by
      rcases Nat.eq_zero_or_pos (L i) with h | h
      · rw [h] at hne; simp at hne
      · exact h
    cases hA : A i with
    | none => have := hnone hA; omega
    | some y =>
      obtain ⟨-, hcy⟩ := hcells y hA
      obtain ⟨g, o, sp⟩ := y
      have h1 := hcy 0 (by omega)
      have hsp : sp = none := by simpa [Addr.add] using World.cell?_spot h1
      subst hsp
      have hcy2 : ∀ j, j < C i → W.cell? ⟨g, o + j, none⟩ = some (.int .u8 ((Z i).getD j 0)) := fun j hj => by have := hcy j hj; rwa [run.add_none] at this
      refine ⟨g, o, rfl, run.lt_of_cell (hcy2 0 (by omega)), ?_⟩
      intro j u hj
      have hj2 : j < L i := by
        rcases Nat.lt_or_ge j (L i) with h | h
        · exact h
        · rw [List.getElem?_eq_none (by simp; omega)] at hj; cases hj
      rw [List.getElem?_map, List.getElem?_take_of_lt hj2] at hj
      rw [hcy2 j (by omega)]
      simpa [List.getD_eq_getElem?_getD, List.getElem?_eq_getElem (show j < (Z i).length by omega)] using hj

end Go.Proofs.Ytgjlhjnkcgdopaa.utf
