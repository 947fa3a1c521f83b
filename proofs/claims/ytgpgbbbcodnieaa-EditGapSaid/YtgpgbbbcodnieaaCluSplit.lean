/-
  The walks of the layer cluster: Split.
-/
import Derived.Test.YtgpgbbbcodnieaaCluAll
namespace Go.Proofs.Ytgpgbbbcodnieaa.clu
open Go.RowKit Go.Proofs Go.Shelf
open Go.Proofs.Ytgpgbbbcodnieaa.wid Go.Proofs.Ytgpgbbbcodnieaa.utf
set_option linter.unusedVariables false
attribute [local go_sem] Oper.semAt_some

/-- what Split hands back: a row of its own -/
def Splits (s : ByteArray) (w : World) (e : Ending) (w' : World) : Prop :=
  ∃ v, e = .returned v ∧ w'.ownsRow w.heap.size 74 2 v (cl (runes (bs s))).length (cc (cl (runes (bs s)))) ∧ Below w.heap.size w w'

set_option maxRecDepth 100000 in
set_option maxHeartbeats 4000000 in
theorem split_any (s : ByteArray) (w : World) (hs : s.size ≤ 1099511627776) : Calls Try.prog 63 #[.string s] w (Splits s w) := by
  obtain ⟨i0, hi, hz0, hz1, hz2⟩ := info_parts info_clu
  have hl := runes_len s
  refine (callsIn_wide (n := 3)).1 ?_
  refine callsIn_of_wp_marks Try.func63 rfl trivial ?_ rfl
  simp only [Try.ntmps63, List.size_toArray, List.length_cons, List.length_nil, Nat.reduceAdd, Nat.reduceSub, Array.replicate_succ, Array.replicate_zero, List.push_toArray, List.append_toArray, List.nil_append, List.cons_append]
  have hbox := Boxed.new w 86 (.slice none 0 0)
  have hbel := run.below_one w (.cells #[.slice none 0 0] 86)
  gi_wp2_with (refine ⟨trivial, ?_⟩; gi_at_call 71; refine (callsIn_wide.2 (all_any s _ hs)).mono ?_; rintro e w1 ⟨B, b, v, rfl, hcv, hB1, hB2, hb1, hb2, hrow, hbel1⟩)
  have hO : Boxed w1 w.heap.size 86 (.slice none 0 0) := (hbel1.block _ (by simp)).trans hbox
  have hw1 : Below w.heap.size w w1 := hbel.trans (hbel1.mono (by simp))
  have hOb : w.heap.size < b := by rw [World.size_alloc] at hb1; omega
  have hOw : w.heap.size < w1.heap.size := by omega
  have hRL : (runes (bs s)).length ≤ 1099511627776 := by omega
  have hcl := cl_length _ (runes (bs s)) (Nat.le_refl _)
  clear hbox hbel hbel1 hb1
  generalize hL : runes (bs s) = L at *
  have HL := run.hid hL
  clear hL
  refine wpIn_rangeFunc_ownH rfl (by decide) (gf := 75) (lb := #[.pointer (some ⟨B, 0, none⟩)]) rfl trivial (enters_of Try.func75 (by kernel_rfl) rfl)
    (all_stops 2 (by decide) B b L v w1 hB2 hb2 hcv hrow hRL) KeepsB.trans (keepsB_b hb2) (Below.refl _ _) (fun _ => rfl)
    (fun pre W => (∃ v, Boxed W w.heap.size 86 v ∧ W.ownsRow w1.heap.size 74 2 v pre.length (cc (ends pre)) ∧ True) ∧ (Below w.heap.size w W ∧ w1.heap.size ≤ W.heap.size))
    (fun _ _ _ => False)
    (OwnFrom.and (Own.from (holdsRow_own w1.heap.size w.heap.size 86 74 2 (fun pre : List (Nat × List Int) => pre.length) (fun pre => cc (ends pre)) (fun _ _ => True)) _) (OwnFrom.and (ownFrom_below (Nat.le_refl _) (by omega)) (fun _ X Y row hs hg _ => Nat.le_trans hs hg.size)))
    (fun _ _ _ _ _ hs _ _ => hs)
    ⟨⟨_, hO, World.ownsRow_nil _ _ _ _, trivial⟩, hw1, Nat.le_refl _⟩
    (fun x a' W => ∃ Bx, Boxed2 W Bx 74 (.string (str (text x.2))) (.int .i64 (wide x.2)) ∧ a' = { tmps := #[.string s, undef, .slice none 0 0, .pointer (some ⟨w.heap.size, 0, none⟩), undef, .pointer (some ⟨Bx, 0, none⟩), .string s, .func (.func 75) #[] #[.pointer (some ⟨B, 0, none⟩)], .int .i64 (x.1 : Nat), cv x.2, undef, undef, undef, undef, undef], defers := [] })
    (fun x a' _ X Y row ⟨Bx, h2, h3⟩ hg hr => ⟨Bx, boxed2_own (β := Unit) Bx _ (fun _ => _) (fun _ => _) () X Y row h2 hg (fun r e => (hr r e).2), h3⟩) ?assign ?body ?done ?stop
  case assign =>
    rintro l pre x W K ⟨⟨v2, hv, hrw, -⟩, hB, hW⟩ hK
    dsimp only [encs, cv] at hK ⊢
    gi_wp2
    exact hK _ _ ((KeepsOthers.alloc W _).from _) ⟨by simp, run.heap_old W _ (Nat.lt_of_lt_of_le hb2 hW)⟩ ⟨⟨v2, hv.alloc _, hrw.alloc _, trivial⟩, hB.alloc hB.size _, by simp; omega⟩ ⟨W.heap.size, run.heap_new W _, rfl⟩
  case body =>
    rintro l pre x a' W hl' hr' ⟨⟨v2, hv, hrw, -⟩, hB, hW⟩ ⟨Bx, hx, rfl⟩ hlt
    rw [placed_length] at hlt
    have hc := hv.cell
    have hf := hv.frozen
    have hx0 : W.cell? ⟨Bx, 0, none⟩ = some (.string (str (text x.2))) := by simp [World.cell?, show W.heap[Bx]? = _ from hx]
    have hx1 : W.cell? ⟨Bx, 1, none⟩ = some (.int .i64 (wide x.2)) := by simp [World.cell?, show W.heap[Bx]? = _ from hx]
    have HE := run.hid (cc_snoc pre x)
    obtain ⟨at_, p⟩ := x
    dsimp only at hx0 hx1 HE
    clear hx
    generalize str (text p) = st at *
    generalize wide p = wd at *
    dsimp only [cv]
    gi_wp2_with (gi_at_builtin; refine wpListIn_append_own _ rfl _ _ 86 rfl w1.heap.size 74 i0 (.agg #[.string ByteArray.empty, .int .i64 0]) 2 24 Try.underlying86 hi hz0 hz1 hz2 rfl (by decide) _ _ _ rfl (hrw.alloc _) ⟨W.heap.size, 0, none⟩ 1 1 [.string st, .int .i64 wd] rfl rfl (news_two _ _ _ _) (one_two _ _) (by unfold maxLen; omega) (by omega) (by simp; omega) ?_; intro v' w4 hown' hgrow _; obtain ⟨g', cap', rfl⟩ := ownsRow_succ hown'; obtain ⟨hv1, hv2, hr2, hk2, hb2'⟩ := hv.appended (by decide) (run.own_mono hrw (Nat.le_of_lt hOw)) hB.size (Nat.le_refl _) (run.own_mono hown' (Nat.le_of_lt hOw)) hgrow; have hc1 := hv1.cell; have hf1 := hv1.frozen)
    have hg2 : (W.alloc (.cells #[.string st, .int .i64 wd] 74)).grownBy w4 v2.ownBlock := hgrow
    have hbW : b < W.heap.size := Nat.lt_of_lt_of_le hb2 hW
    have hnb : some b ≠ v2.ownBlock := fun e => by have := (hrw.lt b e.symm).1; omega
    have hs4 := hg2.size
    rw [World.size_alloc] at hs4
    have hbb : w4.heap[b]? = W.heap[b]? := (hg2.block b (by simp; omega) hnb).trans (run.heap_old W _ hbW)
    have hsb := (grownBy_setCell' w4 w.heap.size (.slice (some ⟨g', 0, none⟩) (pre.length + 1) cap')).block b (by omega) (by simp; omega)
    have hr3 := hown'.kept (grownBy_setCell' w4 w.heap.size (.slice (some ⟨g', 0, none⟩) (pre.length + 1) cap')) (.inr (hv1.not_row (by decide) hown').symm)
    exact ⟨hk2.from _, ⟨hk2.size, hsb.trans hbb⟩, ⟨⟨_, hv2, by rw [List.length_append, HE.out]; exact hr3, trivial⟩, hB.trans hb2', Nat.le_trans hW hk2.size⟩⟩
  case done =>
    rintro D ys W hD rfl ⟨⟨v2, hv, hrw, -⟩, hB, hW⟩ hK
    have hc := hv.cell
    gi_wp2
    refine ⟨by simp, .inl ⟨_, _, rfl, run_takeDeferred hK, ?_⟩⟩
    rw [ends_placed, placed_length] at hrw
    exact ⟨_, results_tmp rfl _ _ _, v2, rfl, by rw [HL.out]; exact ownsRow_putObj (run.own_mono hrw (Nat.le_of_lt hOw)) _ hK rfl, hB.trans (belowK_b (w := w) (Nat.le_refl _) W D _ _ (by omega) hK rfl rfl)⟩
  case stop =>
    rintro D c pre W _ _ h _
    exact h.elim

end Go.Proofs.Ytgpgbbbcodnieaa.clu
