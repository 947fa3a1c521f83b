/-
  The walks of the layers tint and style, as far as the layer cells asks them: colours as they count.
-/
import Derived.Test.YtinnggiohalifaaCelPlain
import Derived.Test.YtinnggiohalifaaProg
import Derived.KernelRfl
import Derived.WalkSpells
import Derived.WalkLawsBesides
import Derived.BigQuiet
import Derived.Deep.QuietTactic
import Derived.IntWalk
import Derived.StillTailTactics
import Derived.Deep.OwnRows
import Derived.Deep.DeepCutAuto
namespace Go.Proofs.Ytinnggiohalifaa.cel
open Go Go.RowKit Go.Proofs
set_option linter.unusedVariables false

theorem drewB {B : Nat} {w w' : World} (h : Below B w w') : Below B w w'.drew := h.trans ⟨rfl, rfl, rfl, Nat.le_refl _, fun _ _ => rfl⟩
theorem blk_set {w : World} {n i : Nat} {cs : Array Value} {t : TypeId} {u : Value} (h : w.heap[n]? = some (.cells cs t (0, 0))) : (w.setCell ⟨n, i, none⟩ u).heap[n]? = some (.cells (cs.setIfInBounds i u) t (0, 0)) := by
  obtain ⟨hlt, hk⟩ := Array.getElem?_eq_some_iff.1 h
  show (w.heap.modify n _)[n]? = _
  rw [Array.getElem?_eq_getElem (by rw [Array.size_modify]; exact hlt), Array.getElem_modify_self, hk]
  rfl
theorem blk_other {w : World} {a : Addr} {n : Nat} (v : Value) (h : n ≠ a.block) : (w.setCell a v).heap[n]? = w.heap[n]? := by
  show (w.heap.modify a.block _)[n]? = _
  rw [Array.getElem?_modify, if_neg (fun e => h e.symm)]
theorem blk_cell {w : World} {n : Nat} {cs : Array Value} {t : TypeId} (h : w.heap[n]? = some (.cells cs t (0, 0))) (i : Nat) : w.cell? ⟨n, i, none⟩ = cs[i]? := by simp [World.cell?, h]
theorem blk_free {w : World} {n : Nat} {cs : Array Value} {t : TypeId} (h : w.heap[n]? = some (.cells cs t (0, 0))) (i : Nat) : w.frozen? ⟨n, i, none⟩ = false := by simp [World.frozen?, h]
theorem blk3 {w : World} {n : Nat} {a b c : Value} {t : TypeId} (h : w.heap[n]? = some (.cells #[a, b, c] t (0, 0))) : (w.cell? ⟨n, 0, none⟩ = some a ∧ w.cell? ⟨n, 1, none⟩ = some b ∧ w.cell? ⟨n, 2, none⟩ = some c) ∧ w.frozen? ⟨n, 0, none⟩ = false ∧ w.frozen? ⟨n, 1, none⟩ = false ∧ w.frozen? ⟨n, 2, none⟩ = false :=
  ⟨⟨blk_cell h 0, blk_cell h 1, blk_cell h 2⟩, blk_free h 0, blk_free h 1, blk_free h 2⟩
theorem blk4 {w : World} {n : Nat} {a b c d : Value} {t : TypeId} (h : w.heap[n]? = some (.cells #[a, b, c, d] t (0, 0))) : (w.cell? ⟨n, 0, none⟩ = some a ∧ w.cell? ⟨n, 1, none⟩ = some b ∧ w.cell? ⟨n, 2, none⟩ = some c ∧ w.cell? ⟨n, 3, none⟩ = some d) ∧ w.frozen? ⟨n, 0, none⟩ = false ∧ w.frozen? ⟨n, 1, none⟩ = false ∧ w.frozen? ⟨n, 2, none⟩ = false ∧ w.frozen? ⟨n, 3, none⟩ = false :=
  ⟨⟨blk_cell h 0, blk_cell h 1, blk_cell h 2, blk_cell h 3⟩, blk_free h 0, blk_free h 1, blk_free h 2, blk_free h 3⟩
theorem blk5 {w : World} {n : Nat} {a b c d e : Value} {t : TypeId} (h : w.heap[n]? = some (.cells #[a, b, c, d, e] t (0, 0))) : (w.cell? ⟨n, 0, none⟩ = some a ∧ w.cell? ⟨n, 1, none⟩ = some b ∧ w.cell? ⟨n, 2, none⟩ = some c ∧ w.cell? ⟨n, 3, none⟩ = some d ∧ w.cell? ⟨n, 4, none⟩ = some e) ∧ w.frozen? ⟨n, 0, none⟩ = false ∧ w.frozen? ⟨n, 1, none⟩ = false ∧ w.frozen? ⟨n, 2, none⟩ = false ∧ w.frozen? ⟨n, 3, none⟩ = false ∧ w.frozen? ⟨n, 4, none⟩ = false :=
  ⟨⟨blk_cell h 0, blk_cell h 1, blk_cell h 2, blk_cell h 3, blk_cell h 4⟩, blk_free h 0, blk_free h 1, blk_free h 2, blk_free h 3, blk_free h 4⟩
theorem set3 {w : World} {n : Nat} {a b c a' b' c' : Value} {t : TypeId} (h : w.heap[n]? = some (.cells #[a, b, c] t (0, 0))) : (((w.setCell ⟨n, 0, none⟩ a').setCell ⟨n, 1, none⟩ b').setCell ⟨n, 2, none⟩ c').heap[n]? = some (.cells #[a', b', c'] t (0, 0)) := blk_set (blk_set (blk_set h))
theorem set4 {w : World} {n : Nat} {a b c d a' b' c' d' : Value} {t : TypeId} (h : w.heap[n]? = some (.cells #[a, b, c, d] t (0, 0))) : ((((w.setCell ⟨n, 0, none⟩ a').setCell ⟨n, 1, none⟩ b').setCell ⟨n, 2, none⟩ c').setCell ⟨n, 3, none⟩ d').heap[n]? = some (.cells #[a', b', c', d'] t (0, 0)) := blk_set (blk_set (blk_set (blk_set h)))
theorem set5 {w : World} {n : Nat} {a b c d e a' b' c' d' e' : Value} {t : TypeId} (h : w.heap[n]? = some (.cells #[a, b, c, d, e] t (0, 0))) : (((((w.setCell ⟨n, 0, none⟩ a').setCell ⟨n, 1, none⟩ b').setCell ⟨n, 2, none⟩ c').setCell ⟨n, 3, none⟩ d').setCell ⟨n, 4, none⟩ e').heap[n]? = some (.cells #[a', b', c', d', e'] t (0, 0)) := blk_set (blk_set (blk_set (blk_set (blk_set h))))
theorem below3 {B : Nat} {w w1 : World} {n : Nat} (u v x : Value) (h : Below B w w1) (hn : B ≤ n) : Below B w (((w1.setCell ⟨n, 0, none⟩ u).setCell ⟨n, 1, none⟩ v).setCell ⟨n, 2, none⟩ x) :=
  ((h.setCell (p := ⟨n, 0, none⟩) hn _).setCell (p := ⟨n, 1, none⟩) hn _).setCell (p := ⟨n, 2, none⟩) hn _
theorem below4 {B : Nat} {w w1 : World} {n : Nat} (u v x y : Value) (h : Below B w w1) (hn : B ≤ n) : Below B w ((((w1.setCell ⟨n, 0, none⟩ u).setCell ⟨n, 1, none⟩ v).setCell ⟨n, 2, none⟩ x).setCell ⟨n, 3, none⟩ y) :=
  (below3 u v x h hn).setCell (p := ⟨n, 3, none⟩) hn _
theorem below5 {B : Nat} {w w1 : World} {n : Nat} (u v x y z : Value) (h : Below B w w1) (hn : B ≤ n) : Below B w (((((w1.setCell ⟨n, 0, none⟩ u).setCell ⟨n, 1, none⟩ v).setCell ⟨n, 2, none⟩ x).setCell ⟨n, 3, none⟩ y).setCell ⟨n, 4, none⟩ z) :=
  (below4 u v x y h hn).setCell (p := ⟨n, 4, none⟩) hn _

set_option maxHeartbeats 1000000 in
theorem right_any (c : Int) (w : World) : Calls Try.prog 80 #[.int .i32 c] w fun e w' => e = .returned (.bool (rightC c)) ∧ w = w' := by
  by_cases h0 : c = 0
  · subst h0
    go_enter Try.func80, Try.ntmps80
    go_wp2
    go_ret
    exact ⟨rfl, rfl⟩
  by_cases h1 : c = 1
  · subst h1
    go_enter Try.func80, Try.ntmps80
    go_wp2
    go_ret
    exact ⟨rfl, rfl⟩
  by_cases h2 : 16777216 ≤ c
  · have hr : rightC c = decide (c < 33554432) := by unfold rightC; simp [h0, h1, h2]
    rw [hr]
    clear hr
    go_enter Try.func80, Try.ntmps80
    go_wp2
    go_ret
    exact ⟨rfl, rfl⟩
  · have hr : rightC c = (decide (256 ≤ c) && decide (c < 512)) := by unfold rightC; simp [h0, h1, h2]
    rw [hr]
    clear hr
    by_cases h3 : 256 ≤ c
    · go_enter Try.func80, Try.ntmps80
      go_wp2
      go_ret
      exact ⟨by simp, rfl⟩
    · go_enter Try.func80, Try.ntmps80
      go_wp2
      go_ret
      exact ⟨by simp; omega, rfl⟩

theorem plain_any (c : Int) (w : World) : Calls Try.prog 62 #[.int .i32 c] w fun e w' => e = .returned (.int .i32 (plainC c)) ∧ w = w' := by
  by_cases h1 : c = 1
  · subst h1
    go_enter Try.func62, Try.ntmps62
    go_wp2
    go_ret
    exact ⟨rfl, rfl⟩
  · have HR := run.hid (right_any c w)
    have hp : plainC c = if rightC c then c else 0 := by unfold plainC; rw [if_neg h1]
    rw [hp]
    clear hp
    generalize rightC c = b at *
    go_enter Try.func62, Try.ntmps62
    go_wp2_with fail
    refine HR.out.mono ?_
    rintro e w' ⟨rfl, rfl⟩
    cases b with
    | true =>
      go_wp2
      go_ret
      exact ⟨rfl, rfl⟩
    | false =>
      go_wp2
      go_ret
      exact ⟨rfl, rfl⟩

set_option maxRecDepth 100000 in
set_option maxHeartbeats 2000000 in
theorem counts_any (s : SV) (w : World) : Calls Try.prog 60 #[s.val] w fun e w' => e = .returned (overS s).val ∧ Below w.heap.size w w' := by
  obtain ⟨fg, bg, at'⟩ := s
  have H1 := run.hid (fun w => plain_any fg w)
  have H2 := run.hid (fun w => plain_any bg w)
  show Calls _ _ #[.agg #[.int .i32 fg, .int .i32 bg, .int .u8 at']] _ fun e w' => e = .returned (.agg #[.int .i32 (plainC fg), .int .i32 (plainC bg), .int .u8 at']) ∧ _
  generalize plainC fg = f2 at *
  generalize plainC bg = b2 at *
  go_enter Try.func60, Try.ntmps60
  go_upto_region 1 with fail
  refine wp_region_still_tail 9 (by kernel_rfl) (by kernel_rfl) ?_
  simp only [List.take_succ_cons, List.take_zero, List.drop_succ_cons, List.drop_zero]
  change wpStill _ _ (World.drew _) (fun a' => wpList _ _ _ _ a' (World.drew _)) _ _
  repeat still_step
  still_call (((H1.out _)).mono fun _ _ h => ⟨h.1, h.2.symm⟩)
  repeat still_step
  still_call (((H2.out _)).mono fun _ _ h => ⟨h.1, h.2.symm⟩)
  repeat still_step
  refine wpStill_nil ?_
  go_wp2
  refine bodyPost_ret (v := .agg #[.int .i32 f2, .int .i32 b2, .int .u8 at']) (results_cell_row rfl _ _ (w.heap.size + 1) _ _ _ _ rfl (heap_alloc2_new _ _ _) Try.underlying24 rfl (by kernel_rfl)) rfl ?_
  exact ⟨rfl, drewB (run.below_two w _ _)⟩

set_option maxRecDepth 100000 in
set_option maxHeartbeats 2000000 in
theorem over_any (s : SV) (w : World) : Calls Try.prog 30 #[s.val, .slice none 0 0] w fun e w' => e = .returned (overS s).val ∧ Below w.heap.size w w' := by
  have H1 := run.hid (fun w => counts_any s w)
  generalize (overS s) = t at *
  obtain ⟨tf, tb, ta⟩ := t
  obtain ⟨fg, bg, at'⟩ := s
  change Hid (∀ w, Calls _ _ #[.agg #[.int .i32 fg, .int .i32 bg, .int .u8 at']] w fun e w' => e = .returned (.agg #[.int .i32 tf, .int .i32 tb, .int .u8 ta]) ∧ _) at H1
  show Calls _ _ #[.agg #[.int .i32 fg, .int .i32 bg, .int .u8 at'], _] _ fun e w' => e = .returned (.agg #[.int .i32 tf, .int .i32 tb, .int .u8 ta]) ∧ _
  have hbx := run.below_two w (.cells #[.int .i32 fg, .int .i32 bg, .int .u8 at'] 24) (.cells #[.int .i32 0, .int .i32 0, .int .u8 0] 24)
  go_enter Try.func30, Try.ntmps30
  go_wp2_with fail
  refine (H1.out _).mono ?_
  rintro e w' ⟨rfl, hb⟩
  have hb2 := hbx.trans (hb.mono (by simp <;> omega))
  have k0 := (hb.block w.heap.size (by simp <;> omega)).trans (heap_alloc2_old w _ _)
  have k1 := (hb.block (w.heap.size + 1) (by simp <;> omega)).trans (heap_alloc2_new w _ _)
  obtain ⟨⟨c0, c1, c2⟩, f0, f1, f2⟩ := blk3 k0
  obtain ⟨⟨d0, d1, d2⟩, g0, g1, g2⟩ := blk3 k1
  have KZ := run.hid (set3 (a' := .int .i32 tf) (b' := .int .i32 tb) (c' := .int .u8 ta) k0)
  have KY := run.hid (show ((((w'.setCell ⟨w.heap.size, 0, none⟩ (.int .i32 tf)).setCell ⟨w.heap.size, 1, none⟩ (.int .i32 tb)).setCell ⟨w.heap.size, 2, none⟩ (.int .u8 ta))).heap[w.heap.size + 1]? = _ from by
    exact (blk_other _ (by simp)).trans ((blk_other _ (by simp)).trans ((blk_other _ (by simp)).trans k1)))
  have HB2 := run.hid (below3 (.int .i32 tf) (.int .i32 tb) (.int .u8 ta) hb2 (Nat.le_refl _))
  clear hb hb2 k0 k1 hbx H1
  go_wp2
  clear c0 c1 c2 f0 f1 f2 d0 d1 d2 g0 g1 g2
  generalize ((w'.setCell ⟨w.heap.size, 0, none⟩ (.int .i32 tf)).setCell ⟨w.heap.size, 1, none⟩ (.int .i32 tb)).setCell ⟨w.heap.size, 2, none⟩ (.int .u8 ta) = wz at *
  go_loopw [13] (fun v wr => v = .int .i64 0 ∧ wr = wz) (fun _ _ => 0)
  case atStart => exact ⟨rfl, rfl⟩
  case round =>
    obtain ⟨rfl, rfl⟩ := hrel
    obtain ⟨⟨c0, c1, c2⟩, f0, f1, f2⟩ := blk3 KZ.out
    obtain ⟨⟨d0, d1, d2⟩, g0, g1, g2⟩ := blk3 KY.out
    have K9 := run.hid (set3 (a' := .int .i32 tf) (b' := .int .i32 tb) (c' := .int .u8 ta) KY.out)
    have HB9 := run.hid (below3 (.int .i32 tf) (.int .i32 tb) (.int .u8 ta) HB2.out (show w.heap.size ≤ w.heap.size + 1 by omega))
    go_wp2
    refine bodyPost_ret (v := .agg #[.int .i32 tf, .int .i32 tb, .int .u8 ta]) (results_cell_row rfl _ _ (w.heap.size + 1) _ _ _ _ rfl K9.out Try.underlying24 rfl (by kernel_rfl)) rfl ?_
    exact ⟨rfl, HB9.out⟩

set_option maxRecDepth 100000 in
set_option maxHeartbeats 2000000 in
theorem blank_any (s : SV) (w : World) : Calls Try.prog 24 #[s.val] w fun e w' => e = .returned (blankT s).val ∧ Below w.heap.size w w' := by
  have H1 := run.hid (fun w => over_any s w)
  unfold blankT
  generalize (overS s) = t at *
  obtain ⟨tf, tb, ta⟩ := t
  obtain ⟨fg, bg, at'⟩ := s
  change Hid (∀ w, Calls _ _ #[.agg #[.int .i32 fg, .int .i32 bg, .int .u8 at'], _] w fun e w' => e = .returned (.agg #[.int .i32 tf, .int .i32 tb, .int .u8 ta]) ∧ _) at H1
  show Calls _ _ #[.agg #[.int .i32 fg, .int .i32 bg, .int .u8 at']] _ fun e w' => e = .returned (.agg #[.string ⟨#[32]⟩, .int .i8 1, .int .i32 tf, .int .i32 tb, .int .u8 ta]) ∧ _
  have hbx := run.below_two w (.cells #[.int .i32 fg, .int .i32 bg, .int .u8 at'] 24) (.cells #[.string ⟨#[]⟩, .int .i8 0, .int .i32 0, .int .i32 0, .int .u8 0] 44)
  go_enter Try.func24, Try.ntmps24
  go_wp2_with fail
  refine (H1.out _).mono ?_
  rintro e w' ⟨rfl, hb⟩
  have hb2 := hbx.trans (hb.mono (by simp <;> omega))
  have k1 := (hb.block (w.heap.size + 1) (by simp <;> omega)).trans (heap_alloc2_new w _ _)
  obtain ⟨⟨d0, d1, d2, d3, d4⟩, g0, g1, g2, g3, g4⟩ := blk5 k1
  have K9 := run.hid (set5 (a' := .string ⟨#[32]⟩) (b' := .int .i8 1) (c' := .int .i32 tf) (d' := .int .i32 tb) (e' := .int .u8 ta) k1)
  have HB9 := run.hid (below5 (.string ⟨#[32]⟩) (.int .i8 1) (.int .i32 tf) (.int .i32 tb) (.int .u8 ta) hb2 (show w.heap.size ≤ w.heap.size + 1 by omega))
  clear hb hb2 k1 hbx H1
  go_wp2
  refine bodyPost_ret (v := .agg #[.string ⟨#[32]⟩, .int .i8 1, .int .i32 tf, .int .i32 tb, .int .u8 ta]) (results_cell_row rfl _ _ (w.heap.size + 1) _ _ _ _ rfl K9.out Try.underlying44 rfl (by kernel_rfl)) rfl ?_
  exact ⟨rfl, HB9.out⟩
end Go.Proofs.Ytinnggiohalifaa.cel
