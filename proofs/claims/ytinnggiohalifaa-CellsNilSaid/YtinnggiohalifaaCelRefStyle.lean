/-
  The walks of the document's styles, as far as the layer cells asks them: colours as they count.
-/
import Derived.Test.YtinnggiohalifaaCelStyle
namespace Go.Proofs.Ytinnggiohalifaa.cel
open Go Go.RowKit Go.Proofs
set_option linter.unusedVariables false

def w32 (n : Int) : Prop := -2147483648 ≤ n ∧ n ≤ 2147483647
def SV.wf (s : SV) : Prop := w32 s.fg ∧ w32 s.bg

def sortK (c : Int) : Int := if c = 1 then 1 else if 256 ≤ c ∧ c ≤ 511 then 2 else if 16777216 ≤ c ∧ c ≤ 33554431 then 3 else 0
def sortN (c : Int) : Int := if c = 1 then 0 else if 256 ≤ c ∧ c ≤ 511 then c - 256 else if 16777216 ≤ c ∧ c ≤ 33554431 then c - 16777216 else 0
theorem sort_right (c : Int) : rightC c = (sortK c != 0 || c == 0) := by
  unfold rightC sortK
  rw [Bool.eq_iff_iff]
  split <;> split <;> (try split) <;> (try split) <;> simp <;> omega
set_option maxHeartbeats 1000000 in
theorem sort_any (c : Int) (hc : w32 c) (w : World) : Calls Try.prog 84 #[.int .i32 c] w fun e w' => e = .returned (.tuple #[.int .i64 (sortK c), .int .i64 (sortN c)]) ∧ w = w' := by
  unfold w32 at hc
  have hw : IntKind.i64.wrap c = c := IntWalk.i64_in _ (by omega)
  by_cases h1 : c = 1
  · subst h1
    go_enter Try.func84, Try.ntmps84
    go_wp2
    go_ret2
    exact ⟨rfl, rfl⟩
  by_cases h2 : 256 ≤ c
  · by_cases h3 : c ≤ 511
    · have hk : sortK c = 2 := by unfold sortK; rw [if_neg h1, if_pos ⟨h2, h3⟩]
      have hn : sortN c = c - 256 := by unfold sortN; rw [if_neg h1, if_pos ⟨h2, h3⟩]
      rw [hk, hn]
      clear hk hn
      go_enter Try.func84, Try.ntmps84
      go_wp2
      go_ret2
      exact ⟨rfl, rfl⟩
    · by_cases h4 : 16777216 ≤ c
      · by_cases h5 : c ≤ 33554431
        · have hk : sortK c = 3 := by unfold sortK; rw [if_neg h1, if_neg (by omega), if_pos ⟨h4, h5⟩]
          have hn : sortN c = c - 16777216 := by unfold sortN; rw [if_neg h1, if_neg (by omega), if_pos ⟨h4, h5⟩]
          rw [hk, hn]
          clear hk hn
          go_enter Try.func84, Try.ntmps84
          go_wp2
          go_ret2
          exact ⟨rfl, rfl⟩
        · have hk : sortK c = 0 := by unfold sortK; rw [if_neg h1, if_neg (by omega), if_neg (by omega)]
          have hn : sortN c = 0 := by unfold sortN; rw [if_neg h1, if_neg (by omega), if_neg (by omega)]
          rw [hk, hn]
          clear hk hn
          go_enter Try.func84, Try.ntmps84
          go_wp2
          go_ret2
          exact ⟨rfl, rfl⟩
      · have hk : sortK c = 0 := by unfold sortK; rw [if_neg h1, if_neg (by omega), if_neg (by omega)]
        have hn : sortN c = 0 := by unfold sortN; rw [if_neg h1, if_neg (by omega), if_neg (by omega)]
        rw [hk, hn]
        clear hk hn
        go_enter Try.func84, Try.ntmps84
        go_wp2
        go_ret2
        exact ⟨rfl, rfl⟩
  · have hk : sortK c = 0 := by unfold sortK; rw [if_neg h1, if_neg (by omega), if_neg (by omega)]
    have hn : sortN c = 0 := by unfold sortN; rw [if_neg h1, if_neg (by omega), if_neg (by omega)]
    rw [hk, hn]
    clear hk hn
    go_enter Try.func84, Try.ntmps84
    go_wp2
    go_ret2
    exact ⟨rfl, rfl⟩

theorem refright_any (c : Int) (hc : w32 c) (w : World) : Calls Try.prog 68 #[.int .i32 c] w fun e w' => e = .returned (.bool (rightC c)) ∧ w = w' := by
  have H := run.hid (sort_any c hc w)
  rw [sort_right]
  generalize sortK c = k at *
  generalize sortN c = n at *
  by_cases h0 : k = 0
  · subst h0
    go_enter Try.func68, Try.ntmps68
    go_wp2_with fail
    refine H.out.mono ?_
    rintro e w' ⟨rfl, rfl⟩
    go_wp2
    go_ret
    exact ⟨rfl, rfl⟩
  · have hr : (k != 0 || c == 0) = true := by simp [h0]
    rw [hr]
    clear hr
    go_enter Try.func68, Try.ntmps68
    go_wp2_with fail
    refine H.out.mono ?_
    rintro e w' ⟨rfl, rfl⟩
    go_wp2
    go_ret
    exact ⟨by simp, rfl⟩

theorem refcolor_any (c : Int) (hc : w32 c) (w : World) : Calls Try.prog 43 #[.int .i32 c] w fun e w' => e = .returned (.int .i32 (plainC c)) ∧ w = w' := by
  have H := run.hid (refright_any c hc w)
  have hp : plainC c = if c = 1 then 0 else if rightC c then c else 0 := rfl
  rw [hp]
  clear hp
  generalize rightC c = r at *
  cases r with
  | false =>
    rw [show (if c = 1 then 0 else if false = true then c else 0) = (0 : Int) by split <;> rfl]
    go_enter Try.func43, Try.ntmps43
    go_wp2_with fail
    refine H.out.mono ?_
    rintro e w' ⟨rfl, rfl⟩
    go_wp2
    go_ret
    exact ⟨rfl, rfl⟩
  | true =>
    by_cases h1 : c = 1
    · subst h1
      go_enter Try.func43, Try.ntmps43
      go_wp2_with fail
      refine H.out.mono ?_
      rintro e w' ⟨rfl, rfl⟩
      go_wp2
      go_ret
      exact ⟨rfl, rfl⟩
    · rw [if_neg h1, if_pos rfl]
      go_enter Try.func43, Try.ntmps43
      go_wp2_with fail
      refine H.out.mono ?_
      rintro e w' ⟨rfl, rfl⟩
      go_wp2
      go_ret
      exact ⟨rfl, rfl⟩

set_option maxRecDepth 100000 in
set_option maxHeartbeats 2000000 in
theorem refcounts_any (s : SV) (hs : s.wf) (w : World) : Calls Try.prog 12 #[s.val] w fun e w' => e = .returned (overS s).val ∧ Below w.heap.size w w' := by
  have H1 := run.hid (fun w => refcolor_any s.fg hs.1 w)
  have H2 := run.hid (fun w => refcolor_any s.bg hs.2 w)
  obtain ⟨fg, bg, at'⟩ := s
  clear hs
  dsimp only at H1 H2
  show Calls _ _ #[.agg #[.int .i32 fg, .int .i32 bg, .int .u8 at']] _ fun e w' => e = .returned (.agg #[.int .i32 (plainC fg), .int .i32 (plainC bg), .int .u8 at']) ∧ _
  generalize plainC fg = f2 at *
  generalize plainC bg = b2 at *
  go_enter Try.func12, Try.ntmps12
  go_wp2_with fail
  refine (H1.out _).mono ?_
  rintro e w1 ⟨rfl, rfl⟩
  go_wp2_with fail
  refine (H2.out _).mono ?_
  rintro e w2 ⟨rfl, rfl⟩
  have HK := run.hid (heap_alloc2_new w (.cells #[.int .i32 fg, .int .i32 bg, .int .u8 at'] 24) (.cells #[.int .i32 f2, .int .i32 b2, .int .u8 at'] 24))
  go_wp2
  refine bodyPost_ret (v := .agg #[.int .i32 f2, .int .i32 b2, .int .u8 at']) (results_cell_row rfl _ _ (w.heap.size + 1) _ _ _ _ rfl HK.out Try.underlying24 rfl (by kernel_rfl)) rfl ?_
  exact ⟨rfl, run.below_two w _ _⟩
end Go.Proofs.Ytinnggiohalifaa.cel
