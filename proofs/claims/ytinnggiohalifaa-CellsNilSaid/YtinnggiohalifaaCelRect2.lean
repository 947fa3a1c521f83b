/-
  The walks of the layer rect: Has, Meet.
-/
import Derived.Test.YtinnggiohalifaaCelRect
namespace Go.Proofs.Ytinnggiohalifaa.cel
open Go Go.RowKit Go.Proofs
set_option linter.unusedVariables false

set_option maxRecDepth 100000 in
set_option maxHeartbeats 4000000 in
theorem has_any (r : RT) (x y : Int) (w : World) (hr : r.wf) : Calls Try.prog 40 #[r.val, .int .i64 x, .int .i64 y] w fun e w' => e = .returned (.bool (hasT r x y)) ∧ Below w.heap.size w w' := by
  have H1 := run.hid (fun w => ends_any r w hr)
  unfold hasT
  generalize okB (endsT r) = ok at *
  generalize endsT r = b at *
  clear hr
  obtain ⟨x0, y0, x1, y1⟩ := b
  obtain ⟨rx, ry, rw', rh⟩ := r
  change Hid (∀ w, Calls _ _ #[.agg #[.int .i64 rx, .int .i64 ry, .int .i64 rw', .int .i64 rh]] w fun e w' => e = .returned (.tuple #[.agg #[.int .i64 x0, .int .i64 y0, .int .i64 x1, .int .i64 y1], .bool ok]) ∧ _) at H1
  show Calls _ _ #[.agg #[.int .i64 rx, .int .i64 ry, .int .i64 rw', .int .i64 rh], _, _] _ fun e w' => e = .returned (.bool (ok && (decide (x0 ≤ x) && (decide (x < x1) && (decide (y0 ≤ y) && decide (y < y1)))))) ∧ _
  have HB := run.hid (run.below_one w (.cells #[.int .i64 rx, .int .i64 ry, .int .i64 rw', .int .i64 rh] 58))
  go_enter Try.func40, Try.ntmps40
  go_wp2_with fail
  refine (H1.out _).mono ?_
  rintro e w' ⟨rfl, hb⟩
  have HB2 := run.hid ((HB.out.trans (hb.mono (by simp))).alloc ((HB.out.trans (hb.mono (by simp))).size) (.cells #[.int .i64 x0, .int .i64 y0, .int .i64 x1, .int .i64 y1] 105))
  clear hb HB H1
  cases ok with
  | false =>
    go_wp2
    go_ret
    exact ⟨rfl, HB2.out⟩
  | true =>
    by_cases h1 : x0 ≤ x
    · by_cases h2 : x < x1
      · by_cases h3 : y0 ≤ y
        · go_wp2
          go_ret
          exact ⟨by simp [h1, h2, h3], HB2.out⟩
        · go_wp2
          go_ret
          exact ⟨by simp; omega, HB2.out⟩
      · go_wp2
        go_ret
        exact ⟨by simp; omega, HB2.out⟩
    · go_wp2
      go_ret
      exact ⟨by simp; omega, HB2.out⟩

set_option maxRecDepth 100000 in
set_option maxHeartbeats 4000000 in
theorem boxrect_any (b : BT) (w : World) (hb : w64 b.x0 ∧ w64 b.y0 ∧ w64 b.x1 ∧ w64 b.y1) : Calls Try.prog 92 #[b.val] w fun e w' => e = .returned (rectB b).val ∧ Below w.heap.size w w' := by
  obtain ⟨x0, y0, x1, y1⟩ := b
  have hR : (rectB ⟨x0, y0, x1, y1⟩).val = if min x1 1048576 ≤ max x0 (-1048576) ∨ min y1 1048576 ≤ max y0 (-1048576) then .agg #[.int .i64 0, .int .i64 0, .int .i64 0, .int .i64 0] else .agg #[.int .i64 (max x0 (-1048576)), .int .i64 (max y0 (-1048576)), .int .i64 (min x1 1048576 - max x0 (-1048576)), .int .i64 (min y1 1048576 - max y0 (-1048576))] := by
    unfold rectB cutB
    simp only
    split <;> rfl
  rw [hR]
  show Calls _ _ #[.agg #[.int .i64 x0, .int .i64 y0, .int .i64 x1, .int .i64 y1]] _ _
  unfold w64 at hb
  obtain ⟨h1, h2, h3, h4⟩ := hb
  simp only at h1 h2 h3 h4
  obtain ⟨a0, ha0⟩ : ∃ e, max x0 (-1048576) = e := ⟨_, rfl⟩
  obtain ⟨c0, hc0⟩ : ∃ e, max y0 (-1048576) = e := ⟨_, rfl⟩
  obtain ⟨a1, ha1⟩ : ∃ e, min x1 1048576 = e := ⟨_, rfl⟩
  obtain ⟨c1, hc1⟩ : ∃ e, min y1 1048576 = e := ⟨_, rfl⟩
  rw [ha0, hc0, ha1, hc1]
  have b1 : -1048576 ≤ a0 ∧ a0 ≤ 9223372036854775807 := by omega
  have b2 : -1048576 ≤ c0 ∧ c0 ≤ 9223372036854775807 := by omega
  have b3 : -9223372036854775808 ≤ a1 ∧ a1 ≤ 1048576 := by omega
  have b4 : -9223372036854775808 ≤ c1 ∧ c1 ≤ 1048576 := by omega
  clear h1 h2 h3 h4 hR
  by_cases k1 : a1 ≤ a0
  · rw [if_pos (.inl k1)]
    go_enter Try.func92, Try.ntmps92
    go_wp2
    refine bodyPost_ret (v := .agg #[.int .i64 0, .int .i64 0, .int .i64 0, .int .i64 0]) (results_cell_row rfl _ _ (w.heap.size + 1) _ _ _ _ rfl (heap_alloc2_new _ _ _) Try.underlying58 rfl (by kernel_rfl)) rfl ?_
    exact ⟨rfl, run.below_two w _ _⟩
  · by_cases k2 : c1 ≤ c0
    · rw [if_pos (.inr k2)]
      go_enter Try.func92, Try.ntmps92
      go_wp2
      refine bodyPost_ret (v := .agg #[.int .i64 0, .int .i64 0, .int .i64 0, .int .i64 0]) (results_cell_row rfl _ _ (w.heap.size + 1) _ _ _ _ rfl (heap_alloc2_new _ _ _) Try.underlying58 rfl (by kernel_rfl)) rfl ?_
      exact ⟨rfl, run.below_two w _ _⟩
    · rw [if_neg (by omega)]
      go_enter Try.func92, Try.ntmps92
      go_wp2
      refine bodyPost_ret (v := .agg #[.int .i64 a0, .int .i64 c0, .int .i64 (a1 - a0), .int .i64 (c1 - c0)]) (results_cell_row rfl _ _ (w.heap.size + 1) _ _ _ _ rfl (heap_alloc2_new _ _ _) Try.underlying58 rfl (by kernel_rfl)) rfl ?_
      exact ⟨rfl, run.below_two w _ _⟩

theorem ends_in {r : RT} (h : r.wf) : w64 (endsT r).x0 ∧ w64 (endsT r).y0 ∧ w64 (endsT r).x1 ∧ w64 (endsT r).y1 := by
  obtain ⟨h1, h2, h3, h4⟩ := h
  have e1 := end_in h1 h3
  have e2 := end_in h2 h4
  unfold w64 endsT at *
  simp only
  omega

set_option maxRecDepth 100000 in
set_option maxHeartbeats 4000000 in
theorem meet_any (a b : RT) (w : World) (ha : a.wf) (hb : b.wf) : Calls Try.prog 81 #[a.val, b.val] w fun e w' => e = .returned (meetT a b).val ∧ Below w.heap.size w w' := by
  have H1 := run.hid (fun w => ends_any a w ha)
  have H2 := run.hid (fun w => ends_any b w hb)
  obtain ⟨i1, i2, i3, i4⟩ := ends_in ha
  obtain ⟨j1, j2, j3, j4⟩ := ends_in hb
  have H3 := run.hid (fun w => boxrect_any (meetB (endsT a) (endsT b)) w (by unfold w64 meetB at *; simp only; omega))
  unfold meetT
  clear ha hb i1 i2 i3 i4 j1 j2 j3 j4
  generalize rectB (meetB (endsT a) (endsT b)) = R at *
  unfold meetB at H3
  generalize okB (endsT a) = o1 at *
  generalize okB (endsT b) = o2 at *
  generalize endsT a = p at *
  generalize endsT b = q at *
  obtain ⟨x0, y0, x1, y1⟩ := p
  obtain ⟨u0, v0, u1, v1⟩ := q
  obtain ⟨ax, ay, aw, ah⟩ := a
  obtain ⟨bx, by', bw, bh⟩ := b
  obtain ⟨rx, ry, rw', rh⟩ := R
  change Hid (∀ w, Calls _ _ #[.agg #[.int .i64 ax, .int .i64 ay, .int .i64 aw, .int .i64 ah]] w fun e w' => e = .returned (.tuple #[.agg #[.int .i64 x0, .int .i64 y0, .int .i64 x1, .int .i64 y1], .bool o1]) ∧ _) at H1
  change Hid (∀ w, Calls _ _ #[.agg #[.int .i64 bx, .int .i64 by', .int .i64 bw, .int .i64 bh]] w fun e w' => e = .returned (.tuple #[.agg #[.int .i64 u0, .int .i64 v0, .int .i64 u1, .int .i64 v1], .bool o2]) ∧ _) at H2
  change Hid (∀ w, Calls _ _ #[.agg #[.int .i64 (max x0 u0), .int .i64 (max y0 v0), .int .i64 (min x1 u1), .int .i64 (min y1 v1)]] w fun e w' => e = .returned (.agg #[.int .i64 rx, .int .i64 ry, .int .i64 rw', .int .i64 rh]) ∧ _) at H3
  show Calls _ _ #[.agg #[.int .i64 ax, .int .i64 ay, .int .i64 aw, .int .i64 ah], .agg #[.int .i64 bx, .int .i64 by', .int .i64 bw, .int .i64 bh]] _ fun e w' => e = .returned (RT.val (if (o1 && o2) = true then ⟨rx, ry, rw', rh⟩ else ⟨0, 0, 0, 0⟩)) ∧ _
  have HV : Hid (RT.val (if (o1 && o2) = true then ⟨rx, ry, rw', rh⟩ else ⟨0, 0, 0, 0⟩) = if (o1 && o2) = true then .agg #[.int .i64 rx, .int .i64 ry, .int .i64 rw', .int .i64 rh] else .agg #[.int .i64 0, .int .i64 0, .int .i64 0, .int .i64 0]) := by
    show _ = _
    split <;> rfl
  rw [HV.out]
  go_enter Try.func81, Try.ntmps81
  go_wp2_with fail
  refine (H1.out _).mono ?_
  rintro e w1 ⟨rfl, hb1⟩
  have hB1 := (((Below.refl w.heap.size w).alloc (Nat.le_refl _) (.cells #[.int .i64 ax, .int .i64 ay, .int .i64 aw, .int .i64 ah] 58)).alloc (by simp) (.cells #[.int .i64 bx, .int .i64 by', .int .i64 bw, .int .i64 bh] 58)).alloc (by simp <;> omega) (.cells #[.int .i64 0, .int .i64 0, .int .i64 0, .int .i64 0] 58)
  have hB := hB1.trans (hb1.mono hB1.size)
  have s1 := hb1.size
  simp only [World.size_alloc] at s1
  have k1 : w1.heap[w.heap.size + 1]? = some (.cells #[.int .i64 bx, .int .i64 by', .int .i64 bw, .int .i64 bh] 58 (0, 0)) := (hb1.block _ (by simp <;> omega)).trans ((blk_old _ (by simp)).trans (heap_alloc2_new w _ _))
  have k2 : w1.heap[w.heap.size + 1 + 1]? = some (.cells #[.int .i64 0, .int .i64 0, .int .i64 0, .int .i64 0] 58 (0, 0)) := (hb1.block _ (by simp)).trans (by simpa using heap_alloc_new (((w.alloc (.cells #[.int .i64 ax, .int .i64 ay, .int .i64 aw, .int .i64 ah] 58)).alloc (.cells #[.int .i64 bx, .int .i64 by', .int .i64 bw, .int .i64 bh] 58))) (.cells #[.int .i64 0, .int .i64 0, .int .i64 0, .int .i64 0] 58))
  clear hB1 hb1 H1
  obtain ⟨⟨c0, c1, c2, c3⟩, -⟩ := blk4 ((blk_old (.cells #[.int .i64 x0, .int .i64 y0, .int .i64 x1, .int .i64 y1] 105) (by omega)).trans k1)
  go_wp2_with fail
  refine (H2.out _).mono ?_
  rintro e w2 ⟨rfl, hb2⟩
  clear c0 c1 c2 c3 k1
  have s2 := hb2.size
  simp only [World.size_alloc] at s2
  have hBp := hB.alloc hB.size (.cells #[.int .i64 x0, .int .i64 y0, .int .i64 x1, .int .i64 y1] 105)
  have hB2 := hBp.trans (hb2.mono hBp.size)
  have kp : w2.heap[w1.heap.size]? = some (.cells #[.int .i64 x0, .int .i64 y0, .int .i64 x1, .int .i64 y1] 105 (0, 0)) := (hb2.block _ (by simp)).trans (heap_alloc_new _ _)
  have kr : w2.heap[w.heap.size + 1 + 1]? = some (.cells #[.int .i64 0, .int .i64 0, .int .i64 0, .int .i64 0] 58 (0, 0)) := (hb2.block _ (by simp <;> omega)).trans ((blk_old _ (by omega)).trans k2)
  clear hb2 hB hBp k2 H2
  have hBq := hB2.alloc hB2.size (.cells #[.int .i64 u0, .int .i64 v0, .int .i64 u1, .int .i64 v1] 105)
  have kr2 : (w2.alloc (.cells #[.int .i64 u0, .int .i64 v0, .int .i64 u1, .int .i64 v1] 105)).heap[w.heap.size + 1 + 1]? = some (.cells #[.int .i64 0, .int .i64 0, .int .i64 0, .int .i64 0] 58 (0, 0)) := (blk_old _ (by omega)).trans kr
  obtain ⟨⟨d0, d1, d2, d3⟩, g0, g1, g2, g3⟩ := blk4 kr2
  obtain ⟨⟨c0, c1, c2, c3⟩, -⟩ := blk4 ((blk_old (.cells #[.int .i64 u0, .int .i64 v0, .int .i64 u1, .int .i64 v1] 105) (by omega)).trans kp)
  by_cases ho : (o1 && o2) = true
  · rw [Bool.and_eq_true] at ho
    obtain ⟨rfl, rfl⟩ := ho
    clear HV
    go_wp2_with fail
    refine (H3.out _).mono ?_
    rintro e w3 ⟨rfl, hb3⟩
    have kr3 := (hb3.block _ (by simp; omega)).trans kr2
    have hB3 := hBq.trans (hb3.mono hBq.size)
    clear d0 d1 d2 d3 g0 g1 g2 g3 c0 c1 c2 c3 hBq kr2 hb3 H3 hB2 kr kp
    obtain ⟨⟨d0, d1, d2, d3⟩, g0, g1, g2, g3⟩ := blk4 kr3
    have K9 := run.hid (set4 (a' := .int .i64 rx) (b' := .int .i64 ry) (c' := .int .i64 rw') (d' := .int .i64 rh) kr3)
    have HB9 := run.hid (below4 (.int .i64 rx) (.int .i64 ry) (.int .i64 rw') (.int .i64 rh) hB3 (show w.heap.size ≤ w.heap.size + 1 + 1 by omega))
    clear kr3 hB3
    go_wp2
    refine bodyPost_ret (v := .agg #[.int .i64 rx, .int .i64 ry, .int .i64 rw', .int .i64 rh]) (results_cell_row rfl _ _ (w.heap.size + 1 + 1) _ _ _ _ rfl K9.out Try.underlying58 rfl (by kernel_rfl)) rfl ?_
    exact ⟨rfl, HB9.out⟩
  · have K9 := run.hid (set4 (a' := .int .i64 0) (b' := .int .i64 0) (c' := .int .i64 0) (d' := .int .i64 0) kr2)
    have HB9 := run.hid (below4 (.int .i64 0) (.int .i64 0) (.int .i64 0) (.int .i64 0) hBq (show w.heap.size ≤ w.heap.size + 1 + 1 by omega))
    have HO := run.hid ho
    clear kr2 kr kp hBq hB2 H3
    cases o1 with
    | false =>
      clear ho
      go_wp2
      refine bodyPost_ret (v := .agg #[.int .i64 0, .int .i64 0, .int .i64 0, .int .i64 0]) (results_cell_row rfl _ _ (w.heap.size + 1 + 1) _ _ _ _ rfl K9.out Try.underlying58 rfl (by kernel_rfl)) rfl ?_
      exact ⟨rfl, HB9.out⟩
    | true =>
      cases o2 with
      | true => exact absurd rfl HO.out
      | false =>
        clear ho
        go_wp2
        refine bodyPost_ret (v := .agg #[.int .i64 0, .int .i64 0, .int .i64 0, .int .i64 0]) (results_cell_row rfl _ _ (w.heap.size + 1 + 1) _ _ _ _ rfl K9.out Try.underlying58 rfl (by kernel_rfl)) rfl ?_
        exact ⟨rfl, HB9.out⟩
end Go.Proofs.Ytinnggiohalifaa.cel
