/-
  The walks of the layer utf: a decoder made, asked, ended.
-/
import Derived.Test.YtgjlhjnkcgdopaaUtfDecoder
namespace Go.Proofs.Ytgjlhjnkcgdopaa.utf
open Go.RowKit Go.Proofs
set_option linter.unusedVariables false

theorem new_run (w : World) : Calls Try.prog 21 #[] w fun e w' => e = .returned (.pointer (some ⟨w.heap.size, 0, none⟩)) ∧ w' = w.alloc (.cells #[.int .u8 0, .int .u8 0, .int .u8 0, .int .u8 0, .int .i64 0] 60) := run.calls (by kernel_rfl)
theorem new_any (w : World) : Calls Try.prog 21 #[] w fun e w' => e = .returned (.pointer (some ⟨w.heap.size, 0, none⟩)) ∧ HasDec w' w.heap.size [] ∧ w.heap.size < w'.heap.size ∧ Below w.heap.size w w' :=
  (new_run w).mono fun _ _ ⟨he, hw⟩ => ⟨he, by
    subst hw
    exact ⟨[.int .u8 0, .int .u8 0, .int .u8 0, .int .u8 0], rfl, by simp [Value.oneCell'], run.heap_new _ _, by simp, by simp, by simp [bv]⟩, by rw [hw]; simp, by rw [hw]; exact run.below_one _ _⟩

set_option maxHeartbeats 400000 in
theorem held_any (d : Nat) (held : List Nat) (w : World) (hd : HasDec w d held) : Calls Try.prog 23 #[.pointer (some ⟨d, 0, none⟩)] w fun e w' => e = .returned (.int .i64 held.length) ∧ w' = w := by
  have hn := (dec_n hd).1
  go_enter Try.func23, Try.ntmps23
  go_wp2
  go_ret
  exact ⟨rfl, rfl⟩

def endOf (held : List Nat) : List Int := if held = [] then [] else [0xfffd]
def Ended (d : Nat) (held : List Nat) (w : World) (e : Ending) (w' : World) : Prop :=
  ∃ v, e = .returned v ∧ w'.ownsRow w.heap.size 21 1 v (endOf held).length (rv (endOf held)) ∧ HasDec w' d [] ∧ w.grownBy w' (some d)
theorem dec_zeroed {w : World} {d : Nat} {held : List Nat} (h : HasDec w d held) : HasDec (w.setCell ⟨d, 4, none⟩ (.int .i64 0)) d [] := by
  obtain ⟨cs, hl, h1, hh, _⟩ := h
  refine ⟨cs, hl, h1, ?_, by simp, by simp, by simp [bv]⟩
  simp only [World.setCell, Array.getElem?_modify, if_true, hh, Option.map_some, Option.some.injEq, Obj.cells.injEq, and_true, List.setIfInBounds_toArray]
  match cs, hl with
  | [a, b, c, d], _ => rfl
theorem grown_cell (w : World) (d i : Nat) (u : Value) : w.grownBy (w.setCell ⟨d, i, none⟩ u) (some d) :=
  ⟨rfl, rfl, rfl, by simp [World.setCell], fun j _ hne => Below.heap_setCell _ _ _ _ (by intro e; exact hne (by rw [e]))⟩

set_option maxHeartbeats 400000 in
theorem end_any (d : Nat) (held : List Nat) (w : World) (hd : HasDec w d held) : Calls Try.prog 27 #[.pointer (some ⟨d, 0, none⟩)] w (Ended d held w) := by
  have hn := (dec_n hd).1
  have hf := (dec_n hd).2
  have hlt := run.lt_of_cell hn
  have HD := run.hid hd
  clear hd
  by_cases h0 : held = []
  · subst h0
    go_enter Try.func27, Try.ntmps27
    go_wp2
    try go_quiet (fail)
    try go_wp2
    go_ret
    exact ⟨_, rfl, World.ownsRow_nil _ _ _ _, HD.out, World.grownBy.refl w _⟩
  · have hl : ((held.length : Int) == 0) = false := by
      have : held.length ≠ 0 := fun e => h0 (List.length_eq_zero_iff.1 e)
      simp; exact h0
    have hz := run.hid (dec_zeroed HD.out)
    have hg := run.hid (grown_cell w d 4 (.int .i64 0))
    have he := run.hid (show endOf held = [0xfffd] by unfold endOf; rw [if_neg h0])
    clear h0
    go_enter Try.func27, Try.ntmps27
    go_wp2
    try go_quiet (fail)
    try go_wp2
    go_ret
    refine ⟨_, rfl, ?_, ?_, ?_⟩
    · rw [he.out]
      have hsz : (w.setCell ⟨d, 4, none⟩ (.int .i64 0)).heap.size = w.heap.size := by simp [World.setCell]
      have h := World.ownsRow_lit (base := w.heap.size) (e := 21) (size := 1) (w.setCell ⟨d, 4, none⟩ (.int .i64 0)) #[.int .i32 65533] 1 (by omega) (by unfold maxLen; omega) rfl
      rw [hsz] at h
      exact h
    · exact hz.out.kept (run.heap_old _ _ (by simp [World.setCell]; exact hlt))
    · exact run.grown_trans hg.out (World.grownBy_alloc _ _ none) (.inr (by intro k hk; cases hk))

end Go.Proofs.Ytgjlhjnkcgdopaa.utf
