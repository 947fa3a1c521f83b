/-
  The editor's ways: Len, leads, Marked, Go.
-/
import Derived.Test.YtgfjaegjkklcpaaEdPast
import Derived.Test.YtgfjaegjkklcpaaEdSteps
import Derived.Lib.MinMax
import Derived.Lib.QuietBelow
namespace Go.Proofs.Ytgfjaegjkklcpaa.ed
open Go Go.RowKit Go.Proofs
set_option linter.unusedVariables false
/-- where a way leads -/
def leadsT (F : List TV) (ca : Nat) (way : Int) : Option Nat :=
  if way = 0 then some (ca - 1) else if way = 1 then some (min (ca + 1) F.length)
  else if way = 2 then some (pastL F false (pastL F true ca))
  else if way = 3 then some (pastR F false (F.length - pastR F true (F.length - ca) ca) (pastR F true (F.length - ca) ca))
  else if way = 4 then some 0 else if way = 5 then some F.length else none
theorem leads_le {F : List TV} {ca : Nat} {way : Int} {tt : Nat} (h : leadsT F ca way = some tt) (hc : ca ≤ F.length) : tt ≤ F.length := by
  unfold leadsT at h
  split at h
  · simp only [Option.some.injEq] at h; omega
  · split at h
    · simp only [Option.some.injEq] at h; omega
    · split at h
      · simp only [Option.some.injEq] at h
        have := pastL_le F true ca
        have := pastL_le F false (pastL F true ca)
        omega
      · split at h
        · simp only [Option.some.injEq] at h
          have := pastR_le F true (F.length - ca) ca
          have := pastR_le F false (F.length - pastR F true (F.length - ca) ca) (pastR F true (F.length - ca) ca)
          omega
        · split at h
          · simp only [Option.some.injEq] at h; omega
          · split at h
            · simp only [Option.some.injEq] at h; omega
            · cases h
theorem gapLen_any {g lb : Nat} {F : List TV} {w : World} (h : GapOf g lb F w) : Calls Try.prog 69 #[.pointer (some ⟨g, 0, none⟩)] w fun e w' => e = .returned (.int .i64 (F.length : Nat)) ∧ Same w w' := by
  obtain ⟨n, cap, f, u, A, hG, hc, hn, hl⟩ := h
  have := edC.len_any hG (by omega)
  rw [hl] at this
  exact this
theorem Same.below {w w' : World} (h : Same w w') : Below w.heap.size w w' := ⟨h.os, h.tape, h.output, by rw [h.heap]; exact Nat.le_refl _, fun k _ => by rw [h.heap]⟩
def LeadsIs (F : List TV) (ca : Nat) (way : Int) (w : World) (e : Ending) (w' : World) : Prop :=
  Below w.heap.size w w' ∧ ((∃ tt, leadsT F ca way = some tt ∧ e = .returned (.tuple #[.int .i64 (tt : Nat), .bool true])) ∨ (leadsT F ca way = none ∧ e = .returned (.tuple #[.int .i64 0, .bool false])))
set_option maxRecDepth 100000 in
set_option maxHeartbeats 4000000 in
theorem leads_any {b g lb : Nat} {F : List TV} {ca : Nat} {an : Int} {sv : Value} {dn : Int} {w : World} (h : Ed b g lb F ca an sv dn w) (way : Int) (hc : ca ≤ F.length) (hF : F.length ≤ 1048576) :
    Calls Try.prog 57 #[.pointer (some ⟨b, 0, none⟩), .int .i64 way] w (LeadsIs F ca way w) := by
  have HLE := run.hid (fun (X : World) (hX : Below w.heap.size w X) => gapLen_any (h.below hX).gap)
  have HPL := run.hid (fun (X : World) (hX : Below w.heap.size w X) (bl : Bool) (c : Nat) (hc : c ≤ F.length) => past_left (h.below hX) bl c hc hF)
  have HPR := run.hid (fun (X : World) (hX : Below w.heap.size w X) (bl : Bool) (c : Nat) (hc : c ≤ F.length) => past_right (h.below hX) bl c hc hF)
  have hblt := (Array.getElem?_eq_some_iff.1 h.box).1
  have c0 := blk_cell h.box 0
  have c1 := blk_cell h.box 1
  change w.cell? _ = some (.pointer (some ⟨g, 0, none⟩)) at c0
  change w.cell? _ = some (.int .i64 (ca : Nat)) at c1
  have H1 := run.hid (pastL_le F true ca)
  have H2 := run.hid (pastR_le F true (F.length - ca) ca)
  have hd : ∀ v, leadsT F ca way = v → (LeadsIs F ca way w = fun e w' => Below w.heap.size w w' ∧ ((∃ tt, v = some tt ∧ e = .returned (.tuple #[.int .i64 (tt : Nat), .bool true])) ∨ (v = none ∧ e = .returned (.tuple #[.int .i64 0, .bool false])))) := by rintro v rfl; rfl
  clear h
  by_cases w0 : way = 0
  · subst w0
    rw [hd (some (ca - 1)) rfl]
    have hmx : max ((ca : Int) - 1) 0 = ((ca - 1 : Nat) : Int) := by omega
    clear hd HLE HPL HPR H1 H2
    have hcb : ca ≤ 1048576 := by omega
    generalize ca - 1 = r at *
    go_enter Try.func57, Try.ntmps57
    go_wp2
    go_ret2
    exact ⟨Below.refl _ _, .inl ⟨_, rfl, by rw [← hmx]; rfl⟩⟩
  by_cases w1 : way = 1
  · subst w1
    rw [hd (some (min (ca + 1) F.length)) rfl]
    have HLQ : ∀ d os, Calls Try.prog 69 #[.pointer (some ⟨g, 0, none⟩)] (Sort.grow (redrawn w d) os) fun e w'' => e = .returned (.int .i64 (F.length : Nat)) ∧ ∃ p : Regrown, w'' = Sort.grow (redrawn w p.d) p.os := fun d os => Calls.regrown_of ((HLE.out _ (below_regrown w d os)).mono (fun e w' h => ⟨h.1, h.2.below⟩))
    have hmx : min (IntKind.i64.wrap ((ca : Int) + 1)) (F.length : Int) = ((min (ca + 1) F.length : Nat) : Int) := by rw [IntWalk.i64_in _ (by omega)]; omega
    have hcb : ca ≤ 1048576 := by omega
    have q0 := fun d os => cell_regrown c0 d os
    have q1 := fun d os => cell_regrown c1 d os
    have HL := run.hid HLQ
    clear hd HLE HPL HPR H1 H2 HLQ
    generalize min (ca + 1) F.length = r at *
    generalize F.length = N at *
    go_enter Try.func57, Try.ntmps57
    go_upto_region 5 with fail
    refine wp_region_quiet_below (by kernel_rfl) (by kernel_rfl) ?_
    repeat (quiet_step (exact HL.out _ _))
    refine wpQuiet_nil ?_
    intro _ hw'
    obtain ⟨⟨dq, osq⟩, hw''⟩ := hw'
    subst hw''
    go_wp2
    go_ret2
    exact ⟨below_regrown _ _ _, .inl ⟨_, rfl, by rw [← hmx]; rfl⟩⟩
  by_cases w2 : way = 2
  · subst w2
    rw [hd (some (pastL F false (pastL F true ca))) rfl]
    have HA := run.hid (HPL.out w (Below.refl _ _) true ca hc)
    have HB := run.hid (fun X hX => HPL.out X hX false (pastL F true ca) (by have := H1.out; omega))
    clear hd HLE HPL HPR H1 H2
    generalize pastL F false (pastL F true ca) = r at *
    generalize pastL F true ca = r1 at *
    go_enter Try.func57, Try.ntmps57
    go_wp2_with fail
    refine HA.out.mono ?_
    rintro e w3 ⟨rfl, hb3⟩
    have HB3 := run.hid (HB.out w3 hb3)
    have HBL := run.hid hb3
    clear HA HB hb3
    go_wp2_with fail
    refine HB3.out.mono ?_
    rintro e w4 ⟨rfl, hb4⟩
    have HF := run.hid (HBL.out.trans (hb4.mono HBL.out.size))
    clear HB3 hb4
    go_wp2
    go_ret2
    exact ⟨HF.out, .inl ⟨_, rfl, rfl⟩⟩
  by_cases w3 : way = 3
  · subst w3
    rw [hd (some (pastR F false (F.length - pastR F true (F.length - ca) ca) (pastR F true (F.length - ca) ca))) rfl]
    have HA := run.hid (HPR.out w (Below.refl _ _) true ca hc)
    have HB := run.hid (fun X hX => HPR.out X hX false (pastR F true (F.length - ca) ca) (by have := H2.out; omega))
    clear hd HLE HPL HPR H1 H2
    generalize pastR F false (F.length - pastR F true (F.length - ca) ca) (pastR F true (F.length - ca) ca) = r at *
    generalize pastR F true (F.length - ca) ca = r1 at *
    go_enter Try.func57, Try.ntmps57
    go_wp2_with fail
    refine HA.out.mono ?_
    rintro e w3 ⟨rfl, hb3⟩
    have HB3 := run.hid (HB.out w3 hb3)
    have HBL := run.hid hb3
    clear HA HB hb3
    go_wp2_with fail
    refine HB3.out.mono ?_
    rintro e w4 ⟨rfl, hb4⟩
    have HF := run.hid (HBL.out.trans (hb4.mono HBL.out.size))
    clear HB3 hb4
    go_wp2
    go_ret2
    exact ⟨HF.out, .inl ⟨_, rfl, rfl⟩⟩
  by_cases w4 : way = 4
  · subst w4
    rw [hd (some 0) rfl]
    clear hd HLE HPL HPR H1 H2
    go_enter Try.func57, Try.ntmps57
    go_wp2
    go_ret2
    exact ⟨Below.refl _ _, .inl ⟨_, rfl, rfl⟩⟩
  by_cases w5 : way = 5
  · subst w5
    rw [hd (some F.length) rfl]
    have HA := run.hid (HLE.out w (Below.refl _ _))
    clear hd HLE HPL HPR H1 H2
    generalize F.length = N at *
    go_enter Try.func57, Try.ntmps57
    go_wp2_with fail
    refine HA.out.mono ?_
    rintro e w3 ⟨rfl, hs3⟩
    have HF := run.hid hs3.below
    clear HA hs3
    go_wp2
    go_ret2
    exact ⟨HF.out, .inl ⟨_, rfl, rfl⟩⟩
  · rw [hd none (by unfold leadsT; simp [w0, w1, w2, w3, w4, w5])]
    clear hd HLE HPL HPR H1 H2
    go_enter Try.func57, Try.ntmps57
    go_wp2
    go_ret2
    exact ⟨Below.refl _ _, .inr ⟨trivial, rfl⟩⟩
end Go.Proofs.Ytgfjaegjkklcpaa.ed
