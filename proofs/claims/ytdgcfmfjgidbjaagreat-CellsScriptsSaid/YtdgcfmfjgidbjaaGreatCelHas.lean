/-
  The walks of the document's layer rect: side, Ends, Has.
-/
import Derived.Test.YtdgcfmfjgidbjaaGreatCelC
import Derived.Lib.MinMax
namespace Go.Proofs.YtdgcfmfjgidbjaaGreat.cel
open Go Go.RowKit Go.Proofs
set_option linter.unusedVariables false
/-- a side's cells, as the document says it -/
def sdT (x z : Int) : Int × Int := if z ≤ 0 ∨ 1048576 ≤ x then (0, 0) else if x < -1048576 then (-1048576, min (x + z) 1048576) else (x, x + min z (1048576 - x))
theorem refside_any (x z : Int) (w : World) (hx : w64 x) (hz : w64 z) : Calls Tryz.prog 88 #[.int .i64 x, .int .i64 z] w fun e w' => e = .returned (.tuple #[.int .i64 (sdT x z).1, .int .i64 (sdT x z).2]) ∧ w = w' := by
  unfold w64 at hx hz
  unfold sdT
  by_cases h1 : z ≤ 0
  · rw [if_pos (.inl h1)]
    go_enter Tryz.func88, Tryz.ntmps88
    go_wp2
    go_ret2
    exact ⟨rfl, rfl⟩
  · by_cases h2 : 1048576 ≤ x
    · rw [if_pos (.inr h2)]
      go_enter Tryz.func88, Tryz.ntmps88
      go_wp2
      go_ret2
      exact ⟨rfl, rfl⟩
    · rw [if_neg (by omega)]
      by_cases h3 : x < -1048576
      · rw [if_pos h3]
        obtain ⟨m, hm⟩ : ∃ m, m = min (x + z) 1048576 := ⟨_, rfl⟩
        dsimp only
        rw [← hm]
        have hm2 := hm.symm
        clear hm
        go_enter Tryz.func88, Tryz.ntmps88
        go_wp2
        go_ret2
        exact ⟨rfl, rfl⟩
      · rw [if_neg h3]
        obtain ⟨m, hm⟩ : ∃ m, m = min z (1048576 - x) := ⟨_, rfl⟩
        have hb : 1 ≤ m ∧ x + m ≤ 1048576 := by omega
        dsimp only
        rw [← hm]
        have hm2 := hm.symm
        clear hm
        go_enter Tryz.func88, Tryz.ntmps88
        go_wp2
        go_ret2
        exact ⟨rfl, rfl⟩
theorem sd_ends (x z p : Int) (hx : w64 x) (hz : w64 z) : (decide ((sdT x z).1 < (sdT x z).2) = decide (max x (-1048576) < min (endT x z) 1048576)) ∧ ((sdT x z).1 < (sdT x z).2 → (sdT x z).1 = max x (-1048576) ∧ (sdT x z).2 = min (endT x z) 1048576) := by
  have hbr := bring_in x
  unfold w64 at hx hz
  unfold sdT endT
  by_cases h1 : z ≤ 0
  · rw [if_pos (.inl h1), if_pos h1]
    dsimp only
    refine ⟨?_, fun h => by omega⟩
    rw [decide_eq_false (by omega), decide_eq_false (by omega)]
  · rw [if_neg h1]
    by_cases h2 : 1048576 ≤ x
    · rw [if_pos (.inr h2)]
      dsimp only
      refine ⟨?_, fun h => by omega⟩
      rw [decide_eq_false (by omega)]
      split
      · rw [decide_eq_false (by omega)]
      · rw [decide_eq_false (by omega)]
    · rw [if_neg (by omega)]
      by_cases h3 : x < -1048576
      · rw [if_pos h3, if_neg (by omega)]
        dsimp only
        refine ⟨?_, fun _ => by omega⟩
        congr 1
        rw [eq_iff_iff]
        omega
      · rw [if_neg h3]
        dsimp only
        split
        · refine ⟨?_, fun _ => by omega⟩
          congr 1
          rw [eq_iff_iff]
          omega
        · refine ⟨?_, fun _ => by omega⟩
          congr 1
          rw [eq_iff_iff]
          omega
def refHasT (r : RT) (x y : Int) : Bool := (decide ((sdT r.x r.w).1 < (sdT r.x r.w).2) && decide ((sdT r.y r.h).1 < (sdT r.y r.h).2)) && (decide ((sdT r.x r.w).1 ≤ x) && (decide (x < (sdT r.x r.w).2) && (decide ((sdT r.y r.h).1 ≤ y) && decide (y < (sdT r.y r.h).2))))
theorem refhas_is (r : RT) (x y : Int) (hr : r.wf) : refHasT r x y = hasT r x y := by
  obtain ⟨h1, h2, h3, h4⟩ := hr
  obtain ⟨a1, a2⟩ := sd_ends r.x r.w 0 h1 h3
  obtain ⟨b1, b2⟩ := sd_ends r.y r.h 0 h2 h4
  unfold refHasT hasT okB
  show _ = ((decide (max r.x (-1048576) < min (endT r.x r.w) 1048576) && decide (max r.y (-1048576) < min (endT r.y r.h) 1048576)) && (decide (max r.x (-1048576) ≤ x) && (decide (x < min (endT r.x r.w) 1048576) && (decide (max r.y (-1048576) ≤ y) && decide (y < min (endT r.y r.h) 1048576)))))
  rw [← a1, ← b1]
  by_cases ha : (sdT r.x r.w).1 < (sdT r.x r.w).2
  · by_cases hb : (sdT r.y r.h).1 < (sdT r.y r.h).2
    · obtain ⟨e1, e2⟩ := a2 ha
      obtain ⟨e3, e4⟩ := b2 hb
      rw [← e1, ← e2, ← e3, ← e4]
    · rw [decide_eq_false hb, Bool.and_false]
      rfl
  · rw [decide_eq_false ha]
    rfl
theorem sd_in (x z : Int) (hx : w64 x) (hz : w64 z) : w64 (sdT x z).1 ∧ w64 (sdT x z).2 := by
  unfold w64 at *
  unfold sdT
  split
  · dsimp only; omega
  · split
    · dsimp only; omega
    · dsimp only; omega
theorem results_tmp5 {fn : Func} {t u v x y : Tmp} (h : fn.results = #[.tmp t, .tmp u, .tmp v, .tmp x, .tmp y]) (tmps : Array Value) (P : Program) (w : World) :
    (results fn tmps).run P w = .ok (.tuple #[tmps.getD t undef, tmps.getD u undef, tmps.getD v undef, tmps.getD x undef, tmps.getD y undef]) w := by simp [results, h, go_sem]
set_option maxRecDepth 100000 in
set_option maxHeartbeats 2000000 in
theorem refends_any (r : RT) (w : World) (hr : r.wf) : Calls Tryz.prog 68 #[r.val] w fun e w' => e = .returned (.tuple #[.int .i64 (sdT r.x r.w).1, .int .i64 (sdT r.y r.h).1, .int .i64 (sdT r.x r.w).2, .int .i64 (sdT r.y r.h).2, .bool (decide ((sdT r.x r.w).1 < (sdT r.x r.w).2) && decide ((sdT r.y r.h).1 < (sdT r.y r.h).2))]) ∧ Below w.heap.size w w' := by
  obtain ⟨x, y, z, h⟩ := r
  obtain ⟨h1, h2, h3, h4⟩ := hr
  dsimp only at h1 h2 h3 h4 ⊢
  have HX := run.hid (fun w => refside_any x z w h1 h3)
  have HY := run.hid (fun w => refside_any y h w h2 h4)
  clear h1 h2 h3 h4
  generalize (sdT x z).1 = p at *
  generalize (sdT x z).2 = q at *
  generalize (sdT y h).1 = p2 at *
  generalize (sdT y h).2 = q2 at *
  show Calls _ _ #[.agg #[.int .i64 x, .int .i64 y, .int .i64 z, .int .i64 h]] _ _
  have hb := run.below_one w (.cells #[.int .i64 x, .int .i64 y, .int .i64 z, .int .i64 h] 34)
  by_cases k1 : p < q
  · by_cases k2 : p2 < q2
    · go_enter Tryz.func68, Tryz.ntmps68
      go_wp2_with fail
      refine (HX.out _).mono ?_
      rintro e w2 ⟨rfl, rfl⟩
      go_wp2_with fail
      refine (HY.out _).mono ?_
      rintro e w2 ⟨rfl, rfl⟩
      go_wp2
      ((try simp only [Exit.inBlock, Exit.then]); refine bodyPost_ret (results_tmp5 rfl _ _ _) rfl ?_)
      exact ⟨by first | (simp; done) | (simp; omega) | (simp only [*]; rfl) | (simp [*]; done) | (simp [*]; omega), hb⟩
    · go_enter Tryz.func68, Tryz.ntmps68
      go_wp2_with fail
      refine (HX.out _).mono ?_
      rintro e w2 ⟨rfl, rfl⟩
      go_wp2_with fail
      refine (HY.out _).mono ?_
      rintro e w2 ⟨rfl, rfl⟩
      go_wp2
      ((try simp only [Exit.inBlock, Exit.then]); refine bodyPost_ret (results_tmp5 rfl _ _ _) rfl ?_)
      exact ⟨by first | (simp; done) | (simp; omega) | (simp only [*]; rfl) | (simp [*]; done) | (simp [*]; omega), hb⟩
  · go_enter Tryz.func68, Tryz.ntmps68
    go_wp2_with fail
    refine (HX.out _).mono ?_
    rintro e w2 ⟨rfl, rfl⟩
    go_wp2_with fail
    refine (HY.out _).mono ?_
    rintro e w2 ⟨rfl, rfl⟩
    go_wp2
    ((try simp only [Exit.inBlock, Exit.then]); refine bodyPost_ret (results_tmp5 rfl _ _ _) rfl ?_)
    exact ⟨by first | (simp; done) | (simp; omega) | (simp only [*]; rfl) | (simp [*]; done) | (simp [*]; omega), hb⟩
set_option maxRecDepth 100000 in
set_option maxHeartbeats 2000000 in
theorem refhas_any (r : RT) (x y : Int) (w : World) (hr : r.wf) : Calls Tryz.prog 45 #[r.val, .int .i64 x, .int .i64 y] w fun e w' => e = .returned (.bool (hasT r x y)) ∧ Below w.heap.size w w' := by
  rw [← refhas_is r x y hr]
  unfold refHasT
  obtain ⟨x0, y0, z, h⟩ := r
  have hE : Hid (∀ w, Calls Tryz.prog 68 #[.agg #[.int .i64 x0, .int .i64 y0, .int .i64 z, .int .i64 h]] w fun e w' => e = .returned (.tuple #[.int .i64 (sdT x0 z).1, .int .i64 (sdT y0 h).1, .int .i64 (sdT x0 z).2, .int .i64 (sdT y0 h).2, .bool (decide ((sdT x0 z).1 < (sdT x0 z).2) && decide ((sdT y0 h).1 < (sdT y0 h).2))]) ∧ Below w.heap.size w w') := fun w => refends_any ⟨x0, y0, z, h⟩ w hr
  clear hr
  dsimp only
  generalize (sdT x0 z).1 = p at *
  generalize (sdT x0 z).2 = q at *
  generalize (sdT y0 h).1 = p2 at *
  generalize (sdT y0 h).2 = q2 at *
  show Calls _ _ #[.agg #[.int .i64 x0, .int .i64 y0, .int .i64 z, .int .i64 h], _, _] _ _
  have hb := run.below_one w (.cells #[.int .i64 x0, .int .i64 y0, .int .i64 z, .int .i64 h] 34)
  generalize (decide (p < q) && decide (p2 < q2)) = ok at *
  go_enter Tryz.func45, Tryz.ntmps45
  go_wp2_with fail
  refine (hE.out _).mono ?_
  rintro e w2 ⟨rfl, hb2⟩
  have HB := run.hid (hb.trans (hb2.mono hb.size))
  clear hb hb2 hE
  by_cases h1 : p ≤ x
  · by_cases h2 : x < q
    · by_cases h3 : p2 ≤ y
      · by_cases h4 : y < q2
        · cases ok <;> go_wp2 <;> go_ret <;> exact ⟨by first | (simp; done) | (simp; omega) | (simp only [*]; rfl) | (simp [*]; done) | (simp [*]; omega), HB.out⟩
        · cases ok <;> go_wp2 <;> go_ret <;> exact ⟨by first | (simp; done) | (simp; omega) | (simp only [*]; rfl) | (simp [*]; done) | (simp [*]; omega), HB.out⟩
      · cases ok <;> go_wp2 <;> go_ret <;> exact ⟨by first | (simp; done) | (simp; omega) | (simp only [*]; rfl) | (simp [*]; done) | (simp [*]; omega), HB.out⟩
    · cases ok <;> go_wp2 <;> go_ret <;> exact ⟨by first | (simp; done) | (simp; omega) | (simp only [*]; rfl) | (simp [*]; done) | (simp [*]; omega), HB.out⟩
  · cases ok <;> go_wp2 <;> go_ret <;> exact ⟨by first | (simp; done) | (simp; omega) | (simp only [*]; rfl) | (simp [*]; done) | (simp [*]; omega), HB.out⟩
end Go.Proofs.YtdgcfmfjgidbjaaGreat.cel
