/-
  Lines to be read; sameLines of two equal lists. (As in WrpSameL, for texts that do not import the document's rows.)
-/
import Derived.Test.YtgniobgadilpgaaWrpLines
import Derived.BigQuiet
namespace Go.Proofs.Ytgniobgadilpgaa.wrp
open Go.RowKit Go.Proofs
open Go.Proofs.Ytgniobgadilpgaa.wid Go.Proofs.Ytgniobgadilpgaa.utf Go.Proofs.Ytgniobgadilpgaa.clu
set_option linter.unusedVariables false

theorem cells4_gets {L : List LV} {i : Nat} (h : i < L.length) (x0 : LV) : (cells4 L)[i * 4]? = some (.string (L.getD i x0).text) ∧ (cells4 L)[i * 4 + 1]? = some (.int .i64 (L.getD i x0).width) ∧ (cells4 L)[i * 4 + 2]? = some (.int .i8 (L.getD i x0).fin) ∧ (cells4 L)[i * 4 + 3]? = some (.string (L.getD i x0).lost) := by
  have e : cells4 L = cells4 (L.take i) ++ (lcells (L.getD i x0) ++ cells4 (L.drop (i + 1))) := by
    have e2 : L = L.take i ++ (L.getD i x0 :: L.drop (i + 1)) := by
      conv => lhs; rw [← List.take_append_drop i L, List.drop_eq_getElem_cons h]
      simp [List.getD_eq_getElem?_getD, h]
    conv => lhs; rw [e2]
    rw [cells4_append]; rfl
  have hl : (cells4 (L.take i)).length = i * 4 := by rw [cells4_length, List.length_take]; congr 1; omega
  rw [e]
  refine ⟨?_, ?_, ?_, ?_⟩
  all_goals
    rw [List.getElem?_append_right (by omega)]
    simp [hl, lcells]
/-- lines to be read -/
def RLs (w : World) (v : Value) (L : List LV) : Prop :=
  ∃ a cap, v = .slice a L.length cap ∧ ∀ i, i < L.length → ∃ b off, a = some ⟨b, off, none⟩ ∧ b < w.heap.size ∧ w.cell? ⟨b, off + i * 4, none⟩ = some (.string (L.getD i ⟨e0, 0, 0, e0⟩).text) ∧ w.cell? ⟨b, off + i * 4 + 1, none⟩ = some (.int .i64 (L.getD i ⟨e0, 0, 0, e0⟩).width) ∧
    w.cell? ⟨b, off + i * 4 + 2, none⟩ = some (.int .i8 (L.getD i ⟨e0, 0, 0, e0⟩).fin) ∧ w.cell? ⟨b, off + i * 4 + 3, none⟩ = some (.string (L.getD i ⟨e0, 0, 0, e0⟩).lost)
theorem rls_own {w : World} {base : Nat} {v : Value} {L : List LV} (h : w.ownsRow base 43 4 v L.length (cells4 L)) : RLs w v L := by
  obtain ⟨a, cap, rfl⟩ := run.own_value h
  refine ⟨a, cap, rfl, fun i hi => ?_⟩
  rcases h.2 with ⟨h1, h2⟩ | ⟨g, cap', cur, h1, -, hg, -, -, -, -⟩
  · omega
  simp only [Value.slice.injEq] at h1
  obtain ⟨rfl, -, rfl⟩ := h1
  obtain ⟨c0, c1, c2, c3⟩ := cells4_gets hi ⟨e0, 0, 0, e0⟩
  have hlt := (Array.getElem?_eq_some_iff.1 hg).1
  have hl : (cells4 L).length = L.length * 4 := cells4_length L
  refine ⟨g, 0, rfl, hlt, ?_, ?_, ?_, ?_⟩
  · rw [show 0 + i * 4 = i * 4 by omega]; exact (h.cellAt (i * 4) (by omega)).trans c0
  · rw [show 0 + i * 4 + 1 = i * 4 + 1 by omega]; exact (h.cellAt (i * 4 + 1) (by omega)).trans c1
  · rw [show 0 + i * 4 + 2 = i * 4 + 2 by omega]; exact (h.cellAt (i * 4 + 2) (by omega)).trans c2
  · rw [show 0 + i * 4 + 3 = i * 4 + 3 by omega]; exact (h.cellAt (i * 4 + 3) (by omega)).trans c3
theorem RLs.below {w w' : World} {v : Value} {L : List LV} (h : RLs w v L) (hb : Below w.heap.size w w') : RLs w' v L := by
  obtain ⟨a, cap, rfl, h⟩ := h
  refine ⟨a, cap, rfl, fun i hi => ?_⟩
  obtain ⟨b, off, ha, hlt, h0, h1, h2, h3⟩ := h i hi
  exact ⟨b, off, ha, Nat.lt_of_lt_of_le hlt hb.size, (hb.cell (p := ⟨b, off + i * 4, none⟩) hlt).trans h0, (hb.cell (p := ⟨b, off + i * 4 + 1, none⟩) hlt).trans h1, (hb.cell (p := ⟨b, off + i * 4 + 2, none⟩) hlt).trans h2, (hb.cell (p := ⟨b, off + i * 4 + 3, none⟩) hlt).trans h3⟩

set_option maxRecDepth 100000 in
set_option maxHeartbeats 4000000 in
theorem sameLines_eq (u v : Value) (L : List LV) (w : World) (hu : RLs w u L) (hv : RLs w v L) (hL : L.length ≤ 1099511627776) : Calls Try.prog 28 #[u, v] w fun e w' => e = .returned (.bool true) ∧ Below w.heap.size w w' := by
  obtain ⟨a1, k1, rfl, h1⟩ := hu
  obtain ⟨a2, k2, rfl, h2⟩ := hv
  have R1 := run.hid h1
  have R2 := run.hid h2
  clear h1 h2
  generalize hN : L.length = N at *
  go_enter Try.func28, Try.ntmps28
  go_wp2
  go_loopw [5] (fun vi wr => ∃ i : Nat, i ≤ N ∧ vi = .int .i64 i ∧ Below w.heap.size w wr) (fun vi _ => ((N : Int) - intOf vi).toNat)
  case atStart => exact ⟨0, by omega, rfl, Below.refl _ _⟩
  case round =>
    obtain ⟨i, hi, rfl, hbel⟩ := hrel
    by_cases hlt : i < N
    · obtain ⟨b1, o1, rfl, hlb1, x0, x1, x2, x3⟩ := R1.out i hlt
      obtain ⟨b2, o2, rfl, hlb2, y0, y1, y2, y3⟩ := R2.out i hlt
      replace x0 := (hbel.cell (p := ⟨b1, o1 + i * 4, none⟩) hlb1).trans x0
      replace x1 := (hbel.cell (p := ⟨b1, o1 + i * 4 + 1, none⟩) hlb1).trans x1
      replace x2 := (hbel.cell (p := ⟨b1, o1 + i * 4 + 2, none⟩) hlb1).trans x2
      replace x3 := (hbel.cell (p := ⟨b1, o1 + i * 4 + 3, none⟩) hlb1).trans x3
      replace y0 := (hbel.cell (p := ⟨b2, o2 + i * 4, none⟩) hlb2).trans y0
      replace y1 := (hbel.cell (p := ⟨b2, o2 + i * 4 + 1, none⟩) hlb2).trans y1
      replace y2 := (hbel.cell (p := ⟨b2, o2 + i * 4 + 2, none⟩) hlb2).trans y2
      replace y3 := (hbel.cell (p := ⟨b2, o2 + i * 4 + 3, none⟩) hlb2).trans y3
      generalize L.getD i ⟨e0, 0, 0, e0⟩ = ln at *
      obtain ⟨tt, tw, tf, tl⟩ := ln
      dsimp only at x0 x1 x2 x3 y0 y1 y2 y3
      clear R1 R2 hN
      go_upto_region 6 with fail
      go_quiet (fail)
      go_wp2
      go_roundw
      case rel => exact ⟨i + 1, by omega, by go_num, below_drewN hbel _⟩
      case measure => simp [intOf]; omega
    · obtain rfl : i = N := by omega
      clear R1 R2 hN
      go_wp2
      go_ret
      exact ⟨rfl, hbel⟩

end Go.Proofs.Ytgniobgadilpgaa.wrp
