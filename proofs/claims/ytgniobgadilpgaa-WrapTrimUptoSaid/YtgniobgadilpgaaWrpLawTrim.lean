/-
  The walk of the law WrapTrim.
-/
import Derived.Test.YtgniobgadilpgaaWrpLawWakes
import Derived.Test.YtgniobgadilpgaaWrpRefTrim
namespace Go.Proofs.Ytgniobgadilpgaa.wrp
open Go.RowKit Go.Proofs
set_option linter.unusedVariables false

theorem keepCut {w W w1 : World} {a b c : Value} (h : W.cell? ⟨w.heap.size, 0, none⟩ = some a ∧ W.cell? ⟨w.heap.size, 1, none⟩ = some b ∧ W.cell? ⟨w.heap.size, 2, none⟩ = some c ∧ Below w.heap.size w W) (hb : Below W.heap.size W w1) :
    w1.cell? ⟨w.heap.size, 0, none⟩ = some a ∧ w1.cell? ⟨w.heap.size, 1, none⟩ = some b ∧ w1.cell? ⟨w.heap.size, 2, none⟩ = some c ∧ Below w.heap.size w w1 :=
  ⟨(hb.cell (p := ⟨w.heap.size, 0, none⟩) (run.lt_of_cell h.1)).trans h.1, (hb.cell (p := ⟨w.heap.size, 1, none⟩) (run.lt_of_cell h.1)).trans h.2.1, (hb.cell (p := ⟨w.heap.size, 2, none⟩) (run.lt_of_cell h.1)).trans h.2.2.1, h.2.2.2.trans (hb.mono h.2.2.2.size)⟩
set_option maxRecDepth 100000 in
set_option maxHeartbeats 2000000 in
theorem lawTrim_any (s : ByteArray) (wd : Int) (mark : ByteArray) (how : Int) (w : World) (hs : s.size ≤ 1048576) (hm : mark.size ≤ 1048576) : Calls Try.prog 6 #[.string s, .agg #[.int .i64 wd, .string mark, .int .i8 how]] w fun e w' => e = .returned (.bool true) ∧ Below w.heap.size w w' := by
  have HK := run.hid (fun w => wakes_any w)
  have H1 := run.hid (fun w => trim_any s wd mark how w (by omega) (by omega))
  have H2 := run.hid (fun w => refTrim_any s wd mark how w (by omega) (by omega))
  generalize trimT s wd mark how = a at *
  have hbel := run.below_one w (.cells #[.int .i64 wd, .string mark, .int .i8 how] 36)
  have hnew := run.heap_new w (.cells #[.int .i64 wd, .string mark, .int .i8 how] 36)
  have hc0 : (w.alloc (.cells #[.int .i64 wd, .string mark, .int .i8 how] 36)).cell? ⟨w.heap.size, 0, none⟩ = some (.int .i64 wd) := by simp only [World.cell?]; rw [hnew]; rfl
  have hc1 : (w.alloc (.cells #[.int .i64 wd, .string mark, .int .i8 how] 36)).cell? ⟨w.heap.size, 1, none⟩ = some (.string mark) := by simp only [World.cell?]; rw [hnew]; rfl
  have hc2 : (w.alloc (.cells #[.int .i64 wd, .string mark, .int .i8 how] 36)).cell? ⟨w.heap.size, 2, none⟩ = some (.int .i8 how) := by simp only [World.cell?]; rw [hnew]; rfl
  clear hnew
  go_enter Try.func6, Try.ntmps6
  go_wp2_with fail
  go_region_held3 (fun w' => w'.cell? ⟨w.heap.size, 0, none⟩ = some (.int .i64 wd) ∧ w'.cell? ⟨w.heap.size, 1, none⟩ = some (.string mark) ∧ w'.cell? ⟨w.heap.size, 2, none⟩ = some (.int .i8 how) ∧ Below w.heap.size w w')
    (first
      | exact ⟨by assumption, by assumption, by assumption, by assumption⟩
      | exact ⟨hc0, hc1, hc2, hbel.drew⟩
      | exact keepCut (by assumption) hb1
      | exact keepCut (by assumption) hb2
      | exact keepCut (by assumption) hb3
      | go_keep
      | (trace_state; fail))
    (first
      | (go_at_call 23; refine (H1.out _).mono ?_; rintro e w1 ⟨rfl, hb1⟩)
      | (go_at_call 24; refine (H2.out _).mono ?_; rintro e w2 ⟨rfl, hb2⟩)
      | (go_at_call 16; refine (HK.out _).mono ?_; rintro e w3 ⟨rfl, hb3⟩))
  rename_i hH
  have hb := hH.2.2.2
  go_wp2
  go_ret
  exact ⟨rfl, hb⟩

end Go.Proofs.Ytgniobgadilpgaa.wrp
