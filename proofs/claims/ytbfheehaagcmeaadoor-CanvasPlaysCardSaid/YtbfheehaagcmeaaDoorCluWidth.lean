/-
  The walks of the layer cluster: Width.
-/
import Derived.Test.YtbfheehaagcmeaaDoorCluAll
namespace Go.Proofs.YtbfheehaagcmeaaDoor.clu
open Go.RowKit Go.Proofs Go.Shelf
open Go.Proofs.YtbfheehaagcmeaaDoor.wid Go.Proofs.YtbfheehaagcmeaaDoor.utf
set_option linter.unusedVariables false
attribute [local go_sem] Oper.semAt_some

/-- how wide clusters are together -/
def wsum (l : List (List Int)) : Nat := (l.map wide).sum
theorem wsum_append (a b : List (List Int)) : wsum (a ++ b) = wsum a + wsum b := by simp [wsum]
theorem wsum_le : ∀ l : List (List Int), wsum l ≤ 2 * l.length
  | [] => by simp [wsum]
  | p :: t => by
    have h1 := wsum_le t
    have h2 := wide_le p
    have e : wsum (p :: t) = wide p + wsum t := by simp [wsum]
    rw [e, List.length_cons]; omega
theorem wsum_snoc (pre : List (Nat × List Int)) (x : Nat × List Int) : wsum (ends (pre ++ [x])) = wsum (ends pre) + wide x.2 := by simp [wsum, ends]
theorem wsum_ends (pre : List (Nat × List Int)) : wsum (ends pre) ≤ 2 * pre.length := by have := wsum_le (ends pre); simpa [ends] using this
def width (s : ByteArray) : Nat := wsum (cl (runes (bs s)))

set_option maxRecDepth 100000 in
set_option maxHeartbeats 4000000 in
theorem width_any (s : ByteArray) (w : World) (hs : s.size ≤ 1099511627776) : Calls Tryd.prog 15 #[.string s] w fun e w' => e = .returned (.int .i64 (width s)) ∧ Below w.heap.size w w' := by
  have hl := runes_len s
  refine (callsIn_wide (n := 3)).1 ?_
  refine callsIn_of_wp_marks Tryd.func15 rfl trivial ?_ rfl
  simp only [Tryd.ntmps15, List.size_toArray, List.length_cons, List.length_nil, Nat.reduceAdd, Nat.reduceSub, Array.replicate_succ, Array.replicate_zero, List.push_toArray, List.append_toArray, List.nil_append, List.cons_append]
  have hbox := Boxed.new w 3 (.int .i64 0)
  have hbel := run.below_one w (.cells #[.int .i64 0] 3)
  gi_wp2_with (refine ⟨trivial, ?_⟩; gi_at_call 41; refine (callsIn_wide.2 (all_any s _ hs)).mono ?_; rintro e w1 ⟨B, b, v, rfl, hcv, hB1, hB2, hb1, hb2, hrow, hbel1⟩)
  have hO : Boxed w1 w.heap.size 3 (.int .i64 0) := (hbel1.block _ (by simp)).trans hbox
  have hw1 : Below w.heap.size w w1 := hbel.trans (hbel1.mono (by simp))
  have hOb : w.heap.size < b := by rw [World.size_alloc] at hb1; omega
  have hOw : w.heap.size < w1.heap.size := by omega
  have hRL : (runes (bs s)).length ≤ 1099511627776 := by omega
  have hcl := cl_length _ (runes (bs s)) (Nat.le_refl _)
  have HW : Hid (width s = wsum (cl (runes (bs s)))) := run.hid rfl
  clear hbox hbel hbel1 hb1
  generalize runes (bs s) = L at *
  refine wpIn_rangeFunc_ownH rfl (by decide) (gf := 56) (lb := #[.pointer (some ⟨B, 0, none⟩)]) rfl trivial (enters_of Tryd.func56 (by kernel_rfl) rfl)
    (all_stops 2 (by decide) B b L v w1 hB2 hb2 hcv hrow hRL) KeepsB.trans (keepsB_b hb2) (Below.refl _ _) (fun _ => rfl)
    (fun pre W => Boxed W w.heap.size 3 (.int .i64 (wsum (ends pre) : Nat)) ∧ (Below w.heap.size w W ∧ w1.heap.size ≤ W.heap.size))
    (fun _ _ _ => False)
    (OwnFrom.and (Own.from (boxed_own w.heap.size 3 (fun pre : List (Nat × List Int) => .int .i64 (wsum (ends pre) : Nat))) _) (OwnFrom.and (ownFrom_below (Nat.le_refl _) (by omega)) (fun _ X Y row hs hg _ => Nat.le_trans hs hg.size)))
    (fun _ _ _ _ _ hs _ _ => hs)
    ⟨hO, hw1, Nat.le_refl _⟩
    (fun x a' W => ∃ Bx, w1.heap.size ≤ Bx ∧ Boxed2 W Bx 92 (.string (str (text x.2))) (.int .i64 (wide x.2)) ∧ a' = { tmps := #[.string s, undef, .int .i64 0, .pointer (some ⟨w.heap.size, 0, none⟩), undef, .pointer (some ⟨Bx, 0, none⟩), .string s, .func (.func 56) #[] #[.pointer (some ⟨B, 0, none⟩)], .int .i64 (x.1 : Nat), cv x.2, undef, undef, undef, undef, undef], defers := [] })
    (fun x a' _ X Y row ⟨Bx, h1, h2, h3⟩ hg hr => ⟨Bx, h1, boxed2_own (β := Unit) Bx _ (fun _ => _) (fun _ => _) () X Y row h2 hg (fun r e => (hr r e).2), h3⟩) ?assign ?body ?done ?stop
  case assign =>
    rintro l pre x W K ⟨hv, hB, hW⟩ hK
    dsimp only [encs, cv] at hK ⊢
    gi_wp2
    exact hK _ _ ((KeepsOthers.alloc W _).from _) ⟨by simp, run.heap_old W _ (Nat.lt_of_lt_of_le hb2 hW)⟩ ⟨hv.alloc _, hB.alloc hB.size _, by simp; omega⟩ ⟨W.heap.size, hW, run.heap_new W _, rfl⟩
  case body =>
    rintro l pre x a' W hl' hr' ⟨hv, hB, hW⟩ ⟨Bx, hBx, hx, rfl⟩ hlt
    rw [placed_length] at hlt
    have hc := hv.cell
    have hf := hv.frozen
    have hx1 : W.cell? ⟨Bx, 1, none⟩ = some (.int .i64 (wide x.2)) := by simp [World.cell?, show W.heap[Bx]? = _ from hx]
    have HE := run.hid (wsum_snoc pre x)
    have hs1 := wsum_ends pre
    have hs2 := wide_le x.2
    obtain ⟨at_, p⟩ := x
    dsimp only at hx1 HE hs2
    clear hx
    generalize wide p = wd at *
    have hbW : b < W.heap.size := Nat.lt_of_lt_of_le hb2 hW
    generalize hpl : pre.length = pl at *
    clear hpl
    generalize hsm : wsum (ends pre) = sm at *
    clear hsm
    gi_wp2
    have e1 : ((sm : Int) + (wd : Int)) = ((sm + wd : Nat) : Int) := by omega
    refine ⟨(KeepsOthers.setCell _ _ _).from _, ⟨by simp, (Below.heap_setCell W ⟨w.heap.size, 0, none⟩ _ b (by show b ≠ w.heap.size; omega))⟩, ⟨?_, hB.setCell (p := ⟨w.heap.size, 0, none⟩) (Nat.le_refl _) _, by simpa using hW⟩⟩
    show Boxed _ _ _ (.int .i64 (wsum (ends (pre ++ [(at_, p)])) : Nat))
    rw [HE.out, ← e1]
    exact hv.set _
  case done =>
    rintro D ys W hD rfl ⟨hv, hB, hW⟩ hK
    have hc := hv.cell
    rw [ends_placed] at hc
    gi_wp2
    refine ⟨by simp, .inl ⟨_, _, rfl, run_takeDeferred hK, ?_⟩⟩
    exact ⟨_, results_tmp rfl _ _ _, by rw [HW.out]; rfl, hB.trans (belowK_b (w := w) (Nat.le_refl _) W D _ _ (by omega) hK rfl rfl)⟩
  case stop =>
    rintro D c pre W _ _ h _
    exact h.elim

end Go.Proofs.YtbfheehaagcmeaaDoor.clu
