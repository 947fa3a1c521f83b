/-
  The walks of the layer cluster: All, Split.
-/
import Derived.Test.YtfncneedpnikbaaCluEach
namespace Go.Proofs.Ytfncneedpnikbaa.clu
open Go.RowKit Go.Proofs Go.Shelf
open Go.Proofs.Ytfncneedpnikbaa.wid Go.Proofs.Ytfncneedpnikbaa.utf
set_option linter.unusedVariables false
attribute [local go_sem] Oper.semAt_some

theorem all_stops (n : Nat) (hn : 1 ≤ n) (B b : Nat) (L : List Int) (v : Value) (w : World) (hBw : B < w.heap.size) (hbw : b < w.heap.size) (hc : w.cell? ⟨B, 0, none⟩ = some v) (hR : RowIn b w v L) (hL : L.length ≤ 1099511627776) :
    SeqStopsK Fence.wide n Try.prog 11 #[.pointer (some ⟨B, 0, none⟩)] encs (KeepsB b) (fun ys => ys = placed 0 (cl L)) (fun pre => pre <+: placed 0 (cl L)) (placed 0 (cl L)).length w :=
  fun l J Jx W hW hJ _ hY h0 => each_in n hn l B b L v hL J Jx W hJ ((hW.cell (p := ⟨B, 0, none⟩) hBw).trans hc) (hR.keeps (KeepsB.below hW hbw)) (Nat.lt_of_lt_of_le hbw hW.size) (fun pre x W1 h hp => hY pre x W1 h (by have := hp.length_le; rw [List.length_append, List.length_singleton] at this; omega)) h0

/-- what All hands back -/
def Each (s : ByteArray) (w : World) (e : Ending) (w' : World) : Prop :=
  ∃ B b v, e = .returned (.func (.func 11) #[] #[.pointer (some ⟨B, 0, none⟩)]) ∧ w'.cell? ⟨B, 0, none⟩ = some v ∧ w.heap.size ≤ B ∧ B < w'.heap.size ∧ w.heap.size ≤ b ∧ b < w'.heap.size ∧ RowIn b w' v (runes (bs s)) ∧ Below w.heap.size w w'

theorem rowIn_own {w : World} {base : Nat} {v : Value} {l : List Int} (h : w.ownsRow base 21 1 v l.length (rv l)) (w' : World) (hb : Below w.heap.size w w') (hlt : w.heap.size < w'.heap.size) (hbase : base ≤ w.heap.size) : ∃ b, base ≤ b ∧ b < w'.heap.size ∧ RowIn b w' v l := by
  obtain ⟨hl, h⟩ := h
  rcases h with ⟨rfl, h0⟩ | ⟨g, cap, cur, rfl, hg, hh, h1, h2, h3, h4⟩
  · have : l = [] := List.length_eq_zero_iff.1 h0
    subst this
    exact ⟨w.heap.size, hbase, hlt, none, 0, rfl, Nat.le_refl _, fun h => absurd rfl h⟩
  · have hgl : g < w.heap.size := by
      rcases Nat.lt_or_ge g w.heap.size with h5 | h5
      · exact h5
      · simp [Array.getElem?_eq_none h5] at hh
    refine ⟨g, hg, by omega, some ⟨g, 0, none⟩, cap, rfl, h1, fun hne => ⟨0, rfl, by omega, fun i hi => ?_⟩⟩
    rw [hb.cell (p := ⟨g, 0 + i, none⟩) hgl]
    have hget := rv_get hi
    rw [← h4] at hget
    simp only [World.cell?, Nat.zero_add]
    rw [hh]
    rw [List.getElem?_take_of_lt (by omega)] at hget
    simpa using hget

set_option maxHeartbeats 1000000 in
theorem all_any (s : ByteArray) (w : World) (hs : s.size ≤ 1099511627776) : Calls Try.prog 6 #[.string s] w (Each s w) := by
  have hl := runes_len s
  go_enter Try.func6, Try.ntmps6
  go_wp2_with fail
  refine (runes_use s w (by omega) (by omega)).mono ?_
  rintro e w1 ⟨v, rfl, hown, -, hb, -⟩
  have HO := run.hid hown
  obtain ⟨a, cap, rfl⟩ := run.own_value hown
  clear hown
  generalize hL : runes (bs s) = L at *
  have HL := run.hid hL
  clear hL
  go_wp2
  go_ret
  obtain ⟨b, hb1, hb2, hrow⟩ := rowIn_own HO.out (w1.alloc (.cells #[.slice a L.length cap] 33)) (run.below_one _ _) (by simp) hb.size
  exact ⟨w1.heap.size, b, _, rfl, run.cell_new _ _ _, hb.size, by simp, hb1, hb2, by rw [HL.out]; exact hrow, hb.alloc hb.size _⟩

/-- the cells of clusters -/
def cc (l : List (List Int)) : List Value := l.flatMap fun p => [.string (str (text p)), .int .i64 (wide p)]
def ends (l : List (Nat × List Int)) : List (List Int) := l.map (·.2)
theorem cc_snoc (l : List (Nat × List Int)) (x : Nat × List Int) : cc (ends (l ++ [x])) = cc (ends l) ++ [.string (str (text x.2)), .int .i64 (wide x.2)] := by simp [cc, ends]
theorem cc_length (l : List (List Int)) : (cc l).length = l.length * 2 := by
  induction l with
  | nil => rfl
  | cons p t ih =>
    have : cc (p :: t) = .string (str (text p)) :: .int .i64 (wide p) :: cc t := rfl
    rw [this, List.length_cons, List.length_cons, ih, List.length_cons]; omega
theorem ends_placed : ∀ (l : List (List Int)) (a : Nat), ends (placed a l) = l
  | [], _ => rfl
  | p :: t, a => by
    show p :: ends (placed _ t) = p :: t
    rw [ends_placed t]
theorem placed_length : ∀ (l : List (List Int)) (a : Nat), (placed a l).length = l.length
  | [], _ => rfl
  | p :: t, a => by simp only [placed, List.length_cons, placed_length t]

theorem info_clu : (Try.prog.info? 30).map (fun i => (i.zero, i.size, i.bytes)) = some (some (.agg #[.string ByteArray.empty, .int .i64 0]), 2, 24) := by kernel_rfl

/-- what Split hands back: a row of its own -/
def Splits (s : ByteArray) (w : World) (e : Ending) (w' : World) : Prop :=
  ∃ v, e = .returned v ∧ w'.ownsRow w.heap.size 30 2 v (cl (runes (bs s))).length (cc (cl (runes (bs s)))) ∧ Below w.heap.size w w'

def Boxed2 (W : World) (B : Nat) (t : TypeId) (x y : Value) : Prop := W.heap[B]? = some (.cells #[x, y] t (0, 0))
theorem boxed2_own {β : Type} (B : Nat) (t : TypeId) (f g : β → Value) : Own (fun s W => Boxed2 W B t (f s) (g s)) := fun s X Y row hs hg hrow =>
  (hg.block B (Array.getElem?_eq_some_iff.1 hs).1 (fun e' => by obtain ⟨o, ho, hc⟩ := hrow B e'.symm; rw [show X.heap[B]? = _ from hs] at ho; cases ho; cases hc)).trans hs

theorem news_two (w : World) (x y : Value) (t : TypeId) : ∀ j u, [x, y][j]? = some u → (w.alloc (.cells #[x, y] t)).cell? ((⟨w.heap.size, 0, none⟩ : Addr).add j) = some u := by
  intro j u hj
  rw [run.add_none]
  simp only [World.cell?, Nat.zero_add]
  rw [run.heap_new]
  match j, hj with
  | 0, hj => simpa using hj
  | 1, hj => simpa using hj
theorem one_two (s : ByteArray) (n : Int) : ∀ u ∈ [Value.string s, .int .i64 n], u.oneCell' = true := by
  intro u hu
  simp only [List.mem_cons, List.not_mem_nil, or_false] at hu
  rcases hu with rfl | rfl <;> rfl

set_option maxRecDepth 100000 in
set_option maxHeartbeats 4000000 in
theorem split_any (s : ByteArray) (w : World) (hs : s.size ≤ 1099511627776) : Calls Try.prog 14 #[.string s] w (Splits s w) := by
  obtain ⟨i0, hi, hz0, hz1, hz2⟩ := info_parts info_clu
  have hl := runes_len s
  refine (callsIn_wide (n := 3)).1 ?_
  refine callsIn_of_wp_marks Try.func14 rfl trivial ?_ rfl
  simp only [Try.ntmps14, List.size_toArray, List.length_cons, List.length_nil, Nat.reduceAdd, Nat.reduceSub, Array.replicate_succ, Array.replicate_zero, List.push_toArray, List.append_toArray, List.nil_append, List.cons_append]
  have hbox := Boxed.new w 22 (.slice none 0 0)
  have hbel := run.below_one w (.cells #[.slice none 0 0] 22)
  gi_wp2_with (refine ⟨trivial, ?_⟩; gi_at_call 6; refine (callsIn_wide.2 (all_any s _ hs)).mono ?_; rintro e w1 ⟨B, b, v, rfl, hcv, hB1, hB2, hb1, hb2, hrow, hbel1⟩)
  have hO : Boxed w1 w.heap.size 22 (.slice none 0 0) := (hbel1.block _ (by simp)).trans hbox
  have hw1 : Below w.heap.size w w1 := hbel.trans (hbel1.mono (by simp))
  have hOb : w.heap.size < b := by rw [World.size_alloc] at hb1; omega
  have hOw : w.heap.size < w1.heap.size := by omega
  have hRL : (runes (bs s)).length ≤ 1099511627776 := by omega
  have hcl := cl_length _ (runes (bs s)) (Nat.le_refl _)
  clear hbox hbel hbel1 hb1
  generalize hL : runes (bs s) = L at *
  have HL := run.hid hL
  clear hL
  refine wpIn_rangeFunc_ownH rfl (by decide) (gf := 11) (lb := #[.pointer (some ⟨B, 0, none⟩)]) rfl trivial (enters_of Try.func11 (by kernel_rfl) rfl)
    (all_stops 2 (by decide) B b L v w1 hB2 hb2 hcv hrow hRL) KeepsB.trans (keepsB_b hb2) (Below.refl _ _) (fun _ => rfl)
    (fun pre W => (∃ v, Boxed W w.heap.size 22 v ∧ W.ownsRow w1.heap.size 30 2 v pre.length (cc (ends pre)) ∧ True) ∧ (Below w.heap.size w W ∧ w1.heap.size ≤ W.heap.size))
    (fun _ _ _ => False)
    (OwnFrom.and (Own.from (holdsRow_own w1.heap.size w.heap.size 22 30 2 (fun pre : List (Nat × List Int) => pre.length) (fun pre => cc (ends pre)) (fun _ _ => True)) _) (OwnFrom.and (ownFrom_below (Nat.le_refl _) (by omega)) (fun _ X Y row hs hg _ => Nat.le_trans hs hg.size)))
    (fun _ _ _ _ _ hs _ _ => hs)
    ⟨⟨_, hO, World.ownsRow_nil _ _ _ _, trivial⟩, hw1, Nat.le_refl _⟩
    (fun x a' W => ∃ Bx, Boxed2 W Bx 30 (.string (str (text x.2))) (.int .i64 (wide x.2)) ∧ a' = { tmps := #[.string s, undef, .slice none 0 0, .pointer (some ⟨w.heap.size, 0, none⟩), undef, .pointer (some ⟨Bx, 0, none⟩), .string s, .func (.func 11) #[] #[.pointer (some ⟨B, 0, none⟩)], .int .i64 (x.1 : Nat), cv x.2, undef, undef, undef, undef, undef], defers := [] })
    (fun x a' _ X Y row ⟨Bx, h2, h3⟩ hg hr => ⟨Bx, boxed2_own (β := Unit) Bx _ (fun _ => _) (fun _ => _) () X Y row h2 hg (fun r e => (hr r e).2), h3⟩) ?assign ?body ?done ?stop
  case assign =>
    rintro l pre x W K ⟨⟨v2, hv, hrw, -⟩, hB, hW⟩ hK
    dsimp only [encs, cv] at hK ⊢
    gi_wp2
    exact hK _ _ ((KeepsOthers.alloc W _).from _) ⟨by simp, run.heap_old W _ (Nat.lt_of_lt_of_le hb2 hW)⟩ ⟨⟨v2, hv.alloc _, hrw.alloc _, trivial⟩, hB.alloc hB.size _, by simp; omega⟩ ⟨W.heap.size, run.heap_new W _, rfl⟩
  case body =>
    rintro l pre x a' W hl' hr' ⟨⟨v2, hv, hrw, -⟩, hB, hW⟩ ⟨Bx, hx, rfl⟩ hlt
    rw [placed_length] at hlt
    have hc := hv.cell
    have hf := hv.frozen
    have hx0 : W.cell? ⟨Bx, 0, none⟩ = some (.string (str (text x.2))) := by simp [World.cell?, show W.heap[Bx]? = _ from hx]
    have hx1 : W.cell? ⟨Bx, 1, none⟩ = some (.int .i64 (wide x.2)) := by simp [World.cell?, show W.heap[Bx]? = _ from hx]
    have HE := run.hid (cc_snoc pre x)
    obtain ⟨at_, p⟩ := x
    dsimp only at hx0 hx1 HE
    clear hx
    generalize str (text p) = st at *
    generalize wide p = wd at *
    dsimp only [cv]
    gi_wp2_with (gi_at_builtin; refine wpListIn_append_own _ rfl _ _ 22 rfl w1.heap.size 30 i0 (.agg #[.string ByteArray.empty, .int .i64 0]) 2 24 Try.underlying22 hi hz0 hz1 hz2 rfl (by decide) _ _ _ rfl (hrw.alloc _) ⟨W.heap.size, 0, none⟩ 1 1 [.string st, .int .i64 wd] rfl rfl (news_two _ _ _ _) (one_two _ _) (by unfold maxLen; omega) (by omega) (by simp; omega) ?_; intro v' w4 hown' hgrow _; obtain ⟨g', cap', rfl⟩ := ownsRow_succ hown'; obtain ⟨hv1, hv2, hr2, hk2, hb2'⟩ := hv.appended (by decide) (run.own_mono hrw (Nat.le_of_lt hOw)) hB.size (Nat.le_refl _) (run.own_mono hown' (Nat.le_of_lt hOw)) hgrow; have hc1 := hv1.cell; have hf1 := hv1.frozen)
    have hg2 : (W.alloc (.cells #[.string st, .int .i64 wd] 30)).grownBy w4 v2.ownBlock := hgrow
    have hbW : b < W.heap.size := Nat.lt_of_lt_of_le hb2 hW
    have hnb : some b ≠ v2.ownBlock := fun e => by have := (hrw.lt b e.symm).1; omega
    have hs4 := hg2.size
    rw [World.size_alloc] at hs4
    have hbb : w4.heap[b]? = W.heap[b]? := (hg2.block b (by simp; omega) hnb).trans (run.heap_old W _ hbW)
    have hsb := (grownBy_setCell' w4 w.heap.size (.slice (some ⟨g', 0, none⟩) (pre.length + 1) cap')).block b (by omega) (by simp; omega)
    have hr3 := hown'.kept (grownBy_setCell' w4 w.heap.size (.slice (some ⟨g', 0, none⟩) (pre.length + 1) cap')) (.inr (hv1.not_row (by decide) hown').symm)
    exact ⟨hk2.from _, ⟨hk2.size, hsb.trans hbb⟩, ⟨⟨_, hv2, by rw [List.length_append, HE.out]; exact hr3, trivial⟩, hB.trans hb2', Nat.le_trans hW hk2.size⟩⟩
  case done =>
    rintro D ys W hD rfl ⟨⟨v2, hv, hrw, -⟩, hB, hW⟩ hK
    have hc := hv.cell
    gi_wp2
    refine ⟨by simp, .inl ⟨_, _, rfl, run_takeDeferred hK, ?_⟩⟩
    rw [ends_placed, placed_length] at hrw
    exact ⟨_, results_tmp rfl _ _ _, v2, rfl, by rw [HL.out]; exact ownsRow_putObj (run.own_mono hrw (Nat.le_of_lt hOw)) _ hK rfl, hB.trans (belowK_b (w := w) (Nat.le_refl _) W D _ _ (by omega) hK rfl rfl)⟩
  case stop =>
    rintro D c pre W _ _ h _
    exact h.elim

end Go.Proofs.Ytfncneedpnikbaa.clu
