/-
  EditGap: every move; the state of the law: two pairs of gaps and one of texts, apart.
-/
import Derived.Test.YtgpgbbbcodnieaaEdMoveI
import Derived.Test.YtgpgbbbcodnieaaEdGapX
namespace Go.Proofs.Ytgpgbbbcodnieaa.ed
open Go Go.RowKit Go.Proofs
set_option linter.unusedVariables false
theorem Moved.more {n g lb r : Nat} {v : Value} {zs : List Int} {L L' : Nat} {w w' : World} (h : Moved n g lb r v zs L w w') (hl : L ≤ L') : Moved n g lb r v zs L' w w' := by
  obtain ⟨lb', v', zs', h1, h2, h3, h4⟩ := h
  exact ⟨lb', v', zs', h1, h2, by omega, h4⟩
theorem moves_any (n g lb r : Nat) (v : Value) (zs ys : List Int) (d k i m : Int) (a : Option Addr) (c : Nat) (w : World) (h : PG n g lb r v zs w) (hz : zs.length ≤ 536870912) (hy : ys.length ≤ 536870912)
    (hR : ∀ w', Below n w w' → run.ReadsN 1 w' (.slice a ys.length c) ys.length (iv ys)) :
    Calls Try.prog 9 #[.pointer (some ⟨g, 0, none⟩), .pointer (some ⟨r, 0, none⟩), moveV d k i m (.slice a ys.length c)] w fun e w' => e = .returned (.bool true) ∧ Moved n g lb r v zs ys.length w w' := by
  by_cases q0 : d = 0
  · subst q0
    exact move_ins n g lb r v zs ys k i m a c w h hz hy hR
  by_cases q1 : d = 1
  · subst q1
    exact (move_del n g lb r v zs k i m _ w h hz).mono fun e w' ⟨he, hm⟩ => ⟨he, hm.more (Nat.zero_le _)⟩
  by_cases q2 : d = 2
  · subst q2
    exact (move_at n g lb r v zs k i m _ w h).mono fun e w' ⟨he, hb⟩ => ⟨he, .same h hb⟩
  by_cases q3 : d = 3
  · subst q3
    exact (move_all n g lb r v zs k i m _ w h (by omega)).mono fun e w' ⟨he, hb⟩ => ⟨he, .same h hb⟩
  by_cases q4 : d = 4
  · subst q4
    exact (move_len n g lb r v zs k i m _ w h).mono fun e w' ⟨he, hb⟩ => ⟨he, .same h hb⟩
  exact (move_other g r d k i m _ w (by omega)).mono fun e w' ⟨he, hb⟩ => ⟨he, .same h hb⟩

/-- two pairs of gaps, one of texts, rows of both: all apart -/
structure LS (n q1 q2 g0 r0 g1 r1 gt i T lb0 : Nat) (v0 : Value) (zs0 : List Int) (lb1 : Nat) (v1 : Value) (zs1 : List Int) (lbt : Nat) (w : World) : Prop where
  p0 : PG n g0 lb0 r0 v0 zs0 w
  p1 : PG n g1 lb1 r1 v1 zs1 w
  tx : GapX gt lbt i w
  d01 : ∀ k, OwnP g0 lb0 r0 v0 k → ¬ OwnP g1 lb1 r1 v1 k
  t0 : ∀ k, OwnP g0 lb0 r0 v0 k → k ≠ gt ∧ k ≠ lbt
  t1 : ∀ k, OwnP g1 lb1 r1 v1 k → k ≠ gt ∧ k ≠ lbt
  tl : n ≤ gt ∧ n ≤ lbt
  a0 : w.cell? ⟨q1, 0, none⟩ = some (.pointer (some ⟨g0, 0, none⟩))
  a1 : w.cell? ⟨q1, 1, none⟩ = some (.pointer (some ⟨g1, 0, none⟩))
  b0 : w.cell? ⟨q2, 0, none⟩ = some (.pointer (some ⟨r0, 0, none⟩))
  b1 : w.cell? ⟨q2, 1, none⟩ = some (.pointer (some ⟨r1, 0, none⟩))
  e0 : ∀ k, OwnP g0 lb0 r0 v0 k → k ≠ q1 ∧ k ≠ q2
  e1 : ∀ k, OwnP g1 lb1 r1 v1 k → k ≠ q1 ∧ k ≠ q2
  et : (gt ≠ q1 ∧ gt ≠ q2) ∧ lbt ≠ q1 ∧ lbt ≠ q2
  len : zs0.length + zs1.length ≤ T
section
variable {n q1 q2 g0 r0 g1 r1 gt i T lb0 lb1 lbt : Nat} {v0 v1 : Value} {zs0 zs1 : List Int} {w w' : World}
theorem LS.below (h : LS n q1 q2 g0 r0 g1 r1 gt i T lb0 v0 zs0 lb1 v1 zs1 lbt w) (hb : Below w.heap.size w w') : LS n q1 q2 g0 r0 g1 r1 gt i T lb0 v0 zs0 lb1 v1 zs1 lbt w' := by
  have hk : Kept (fun _ => False) w w' := Kept.of_below hb
  exact ⟨h.p0.below hb, h.p1.below hb, h.tx.kept hk (fun h => h) (fun h => h), h.d01, h.t0, h.t1, h.tl, hk.cellK h.a0 (fun h => h), hk.cellK h.a1 (fun h => h), hk.cellK h.b0 (fun h => h), hk.cellK h.b1 (fun h => h), h.e0, h.e1, h.et, h.len⟩
theorem LS.sizes (h : LS n q1 q2 g0 r0 g1 r1 gt i T lb0 v0 zs0 lb1 v1 zs1 lbt w) : q1 < w.heap.size ∧ q2 < w.heap.size ∧ gt < w.heap.size ∧ lbt < w.heap.size :=
  ⟨run.lt_of_cell h.a0, run.lt_of_cell h.b0, h.tx.lt.1, h.tx.lt.2.1⟩
theorem LS.move0 (h : LS n q1 q2 g0 r0 g1 r1 gt i T lb0 v0 zs0 lb1 v1 zs1 lbt w) {L : Nat} (hm : Moved n g0 lb0 r0 v0 zs0 L w w') : Below n w w' ∧ ∃ lb0' v0' zs0', LS n q1 q2 g0 r0 g1 r1 gt i (T + L) lb0' v0' zs0' lb1 v1 zs1 lbt w' := by
  obtain ⟨lb', v', zs', hpg, hsub, hlen, hk⟩ := hm
  obtain ⟨s1, s2, s3, s4⟩ := h.sizes
  have hl := h.len
  have hnew : ∀ k, OwnP g0 lb' r0 v' k → OwnP g0 lb0 r0 v0 k ∨ w.heap.size ≤ k := hsub
  refine ⟨hk.below h.p0.le (fun k _ hk => h.p0.low k hk), lb', v', zs', hpg, h.p1.kept hk (fun k h1 h0 => h.d01 k h0 h1), h.tx.kept hk (fun e => (h.t0 _ e).1 rfl) (fun e => (h.t0 _ e).2 rfl), ?_, ?_, h.t1, h.tl,
    hk.cellK h.a0 (fun e => (h.e0 _ e).1 rfl), hk.cellK h.a1 (fun e => (h.e0 _ e).1 rfl), hk.cellK h.b0 (fun e => (h.e0 _ e).2 rfl), hk.cellK h.b1 (fun e => (h.e0 _ e).2 rfl), ?_, h.e1, h.et, by omega⟩
  · intro k h0 h1
    rcases hnew k h0 with h2 | h2
    · exact h.d01 k h2 h1
    · have := h.p1.lt k h1
      omega
  · intro k h0
    rcases hnew k h0 with h2 | h2
    · exact h.t0 k h2
    · omega
  · intro k h0
    rcases hnew k h0 with h2 | h2
    · exact h.e0 k h2
    · omega
theorem LS.move1 (h : LS n q1 q2 g0 r0 g1 r1 gt i T lb0 v0 zs0 lb1 v1 zs1 lbt w) {L : Nat} (hm : Moved n g1 lb1 r1 v1 zs1 L w w') : Below n w w' ∧ ∃ lb1' v1' zs1', LS n q1 q2 g0 r0 g1 r1 gt i (T + L) lb0 v0 zs0 lb1' v1' zs1' lbt w' := by
  obtain ⟨lb', v', zs', hpg, hsub, hlen, hk⟩ := hm
  obtain ⟨s1, s2, s3, s4⟩ := h.sizes
  have hl := h.len
  have hnew : ∀ k, OwnP g1 lb' r1 v' k → OwnP g1 lb1 r1 v1 k ∨ w.heap.size ≤ k := hsub
  refine ⟨hk.below h.p1.le (fun k _ hk => h.p1.low k hk), lb', v', zs', h.p0.kept hk (fun k h0 h1 => h.d01 k h0 h1), hpg, h.tx.kept hk (fun e => (h.t1 _ e).1 rfl) (fun e => (h.t1 _ e).2 rfl), ?_, h.t0, ?_, h.tl,
    hk.cellK h.a0 (fun e => (h.e1 _ e).1 rfl), hk.cellK h.a1 (fun e => (h.e1 _ e).1 rfl), hk.cellK h.b0 (fun e => (h.e1 _ e).2 rfl), hk.cellK h.b1 (fun e => (h.e1 _ e).2 rfl), h.e0, ?_, h.et, by omega⟩
  · intro k h0 h1
    rcases hnew k h1 with h2 | h2
    · exact h.d01 k h0 h2
    · have := h.p0.lt k h0
      omega
  · intro k h0
    rcases hnew k h0 with h2 | h2
    · exact h.t1 k h2
    · omega
  · intro k h0
    rcases hnew k h0 with h2 | h2
    · exact h.e1 k h2
    · omega
theorem LS.text (h : LS n q1 q2 g0 r0 g1 r1 gt i T lb0 v0 zs0 lb1 v1 zs1 lbt w) {lbt' : Nat} (hx : GapX gt lbt' (i + 1) w') (hl : lbt' = lbt ∨ w.heap.size ≤ lbt') (hk : Kept (fun b => b = gt ∨ b = lbt) w w') : Below n w w' ∧ LS n q1 q2 g0 r0 g1 r1 gt (i + 1) T lb0 v0 zs0 lb1 v1 zs1 lbt' w' := by
  obtain ⟨s1, s2, s3, s4⟩ := h.sizes
  have hnl := h.p0.le
  refine ⟨hk.below hnl (fun k _ hk => by rcases hk with rfl | rfl; exact h.tl.1; exact h.tl.2), h.p0.kept hk (fun k h0 e => by rcases e with e | e; exact (h.t0 k h0).1 e; exact (h.t0 k h0).2 e), h.p1.kept hk (fun k h0 e => by rcases e with e | e; exact (h.t1 k h0).1 e; exact (h.t1 k h0).2 e), hx, h.d01, ?_, ?_, ⟨h.tl.1, ?_⟩,
    hk.cellK h.a0 ?_, hk.cellK h.a1 ?_, hk.cellK h.b0 ?_, hk.cellK h.b1 ?_, h.e0, h.e1, ⟨h.et.1, ?_⟩, h.len⟩
  · intro k h0
    have h1 := h.p0.lt k h0
    refine ⟨(h.t0 k h0).1, ?_⟩
    rcases hl with rfl | e
    · exact (h.t0 k h0).2
    · omega
  · intro k h0
    have h1 := h.p1.lt k h0
    refine ⟨(h.t1 k h0).1, ?_⟩
    rcases hl with rfl | e
    · exact (h.t1 k h0).2
    · omega
  · rcases hl with rfl | e
    · exact h.tl.2
    · omega
  · intro e; rcases e with e | e; exact h.et.1.1 e.symm; exact h.et.2.1 e.symm
  · intro e; rcases e with e | e; exact h.et.1.1 e.symm; exact h.et.2.1 e.symm
  · intro e; rcases e with e | e; exact h.et.1.2 e.symm; exact h.et.2.2 e.symm
  · intro e; rcases e with e | e; exact h.et.1.2 e.symm; exact h.et.2.2 e.symm
  · rcases hl with rfl | e
    · exact h.et.2
    · omega
end
end Go.Proofs.Ytgpgbbbcodnieaa.ed
