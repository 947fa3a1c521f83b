/-
  The walks of the layer cluster: Cut.
-/
import Derived.Test.YtinedhocmlcfpaaCluWidth
import Derived.Test.YtinedhocmlcfpaaUtfClean
import Derived.Test.YtinedhocmlcfpaaLex
namespace Go.Proofs.Ytinedhocmlcfpaa.clu
open Go.RowKit Go.Proofs Go.Shelf
open Go.Proofs.Ytinedhocmlcfpaa.wid Go.Proofs.Ytinedhocmlcfpaa.utf
set_option linter.unusedVariables false
attribute [local go_sem] Oper.semAt_some

/-- how many of the first clusters fit -/
def fitN : List (List Int) → Nat → Nat
  | [], _ => 0
  | p :: t, left => if wide p ≤ left then fitN t (left - wide p) + 1 else 0
theorem fit_cons (p : List Int) (t : List (List Int)) (left : Nat) : fitN (p :: t) left = if wide p ≤ left then fitN t (left - wide p) + 1 else 0 := rfl
theorem fit_skip : ∀ (A B : List (List Int)) (left : Nat), wsum A ≤ left → fitN (A ++ B) left = A.length + fitN B (left - wsum A)
  | [], B, left, _ => by simp [wsum]
  | p :: t, B, left, h => by
    have e : wsum (p :: t) = wide p + wsum t := by simp [wsum]
    rw [e] at h ⊢
    show fitN (p :: (t ++ B)) left = _
    rw [fit_cons, if_pos (by omega), fit_skip t B _ (by omega), List.length_cons]
    rw [show left - wide p - wsum t = left - (wide p + wsum t) by omega]
    omega
theorem fit_le : ∀ (l : List (List Int)) (left : Nat), fitN l left ≤ l.length
  | [], _ => Nat.le_refl _
  | p :: t, left => by
    rw [fit_cons]
    have := fit_le t (left - wide p)
    split <;> simp <;> omega
def cutK (s : ByteArray) (n : Int) : Nat := fitN (cl (runes (bs s))) (max 0 n).toNat
def cutA (s : ByteArray) (n : Int) : ByteArray := str (text ((cl (runes (bs s))).take (cutK s n)).flatten)
def cutB (s : ByteArray) (n : Int) : ByteArray := str (text ((cl (runes (bs s))).drop (cutK s n)).flatten)

theorem str_left (a b : List Nat) : (str (a ++ b)).extract 0 a.length = str a := by
  unfold str
  apply ByteArray.ext
  simp
theorem str_right (a b : List Nat) : (str (a ++ b)).extract a.length (str (a ++ b)).size = str b := by
  rw [str_size]
  unfold str
  apply ByteArray.ext
  simp
  exact List.take_of_length_le (by simp)

theorem placed_prefix : ∀ (l : List (List Int)) (a : Nat) (pre : List (Nat × List Int)) (x : Nat × List Int), pre ++ [x] <+: placed a l → x.1 = a + (text (ends pre).flatten).length ∧ ends pre ++ [x.2] <+: l
  | [], a, pre, x, h => by
    have := h.length_le
    simp [placed] at this
  | p :: t, a, [], x, h => by
    obtain ⟨u, hu⟩ := h
    simp only [placed, List.nil_append, List.cons_append, List.cons.injEq] at hu
    obtain ⟨rfl, -⟩ := hu
    exact ⟨by simp [ends, text], ⟨t, rfl⟩⟩
  | p :: t, a, y :: pre, x, h => by
    obtain ⟨u, hu⟩ := h
    simp only [placed, List.cons_append, List.cons.injEq] at hu
    obtain ⟨rfl, hu⟩ := hu
    obtain ⟨h1, v, h2⟩ := placed_prefix t _ pre x ⟨u, hu⟩
    refine ⟨?_, v, ?_⟩
    · rw [h1]
      have : ends ((a, p) :: pre) = p :: ends pre := rfl
      rw [this, List.flatten_cons, text_append, List.length_append]; omega
    · have : ends ((a, p) :: pre) = p :: ends pre := rfl
      rw [this, List.cons_append, List.cons_append, h2]
theorem placed_mem : ∀ (l : List (List Int)) (a : Nat) (x : Nat × List Int), x ∈ placed a l → x.1 + (text x.2).length ≤ a + (text l.flatten).length
  | p :: t, a, x, h => by
    simp only [placed, List.mem_cons] at h
    rw [List.flatten_cons, text_append, List.length_append]
    rcases h with rfl | h
    · show a + (text p).length ≤ _; omega
    · have := placed_mem t _ x h; omega

/-- the two pieces, where the loop was left -/
theorem cut_at {s : ByteArray} {n : Int} {left : Nat} {pre : List (Nat × List Int)} {x : Nat × List Int} (hp : pre ++ [x] <+: placed 0 (cl (runes (bs s)))) (hl : left = (max 0 n).toNat) (h1 : wsum (ends pre) ≤ left) (h2 : left < wsum (ends pre) + wide x.2) :
    (str (clean (bs s))).extract 0 x.1 = cutA s n ∧ (str (clean (bs s))).extract x.1 (str (clean (bs s))).size = cutB s n := by
  obtain ⟨h3, u, h4⟩ := placed_prefix _ _ _ _ hp
  have hk : cutK s n = (ends pre).length := by
    unfold cutK
    rw [← hl, ← h4, List.append_assoc, fit_skip _ _ _ h1]
    have : fitN ([x.2] ++ u) (left - wsum (ends pre)) = 0 := by
      show fitN (x.2 :: u) _ = 0
      rw [fit_cons, if_neg (by omega)]
    omega
  have hc : clean (bs s) = text (ends pre).flatten ++ text ([x.2] ++ u).flatten := by
    unfold clean
    rw [← text_append, ← List.flatten_append, ← List.append_assoc, h4, cl_flat _ _ (Nat.le_refl _)]
  unfold cutA cutB
  rw [hk, hc, h3, Nat.zero_add, str_left, str_right, ← h4]
  simp
theorem cut_all {s : ByteArray} {n : Int} (h1 : wsum (cl (runes (bs s))) ≤ (max 0 n).toNat) : str (clean (bs s)) = cutA s n ∧ ByteArray.empty = cutB s n := by
  have hk : cutK s n = (cl (runes (bs s))).length := by
    unfold cutK
    have := fit_skip (cl (runes (bs s))) [] _ h1
    rw [List.append_nil] at this
    rw [this]; simp [fitN]
  unfold cutA cutB clean
  rw [hk, List.take_length, List.drop_length, cl_flat _ _ (Nat.le_refl _)]
  exact ⟨rfl, rfl⟩

theorem results_cells2 {fn : Func} {p q : Tmp} {ty ty' : TypeId} (h : fn.results = #[.cell p ty, .cell q ty']) (tmps : Array Value) (P : Program) (w : World) :
    (results fn tmps).run P w =
      ((asAddr (tmps.getD p undef)).run P w).andThen fun a w₁ => ((loadVar ty a).run P w₁).andThen fun v w₂ =>
        ((asAddr (tmps.getD q undef)).run P w₂).andThen fun b w₃ => ((loadVar ty' b).run P w₃).andThen fun u w₄ => .ok (.tuple #[v, u]) w₄ := by
  simp only [results, h]
  simp [Sem.run_bind, Result.andThen]

/-- the places of a text's clusters -/
abbrev Place (L : List Int) : Type := { x : Nat × List Int // x ∈ placed 0 (cl L) }
def vals {L : List Int} (pre : List (Place L)) : List (Nat × List Int) := pre.map (·.1)
theorem vals_snoc {L : List Int} (pre : List (Place L)) (x : Place L) : vals (pre ++ [x]) = vals pre ++ [x.1] := by unfold vals; rw [List.map_append]; rfl
theorem all_stops_in (n : Nat) (hn : 1 ≤ n) (B b : Nat) (L : List Int) (v : Value) (w : World) (hBw : B < w.heap.size) (hbw : b < w.heap.size) (hc : w.cell? ⟨B, 0, none⟩ = some v) (hR : RowIn b w v L) (hL : L.length ≤ 1099511627776) :
    SeqStopsK Fence.wide n Try.prog 40 #[.pointer (some ⟨B, 0, none⟩)] (fun x : Place L => encs x.1) (KeepsB b) (fun ys => vals ys = placed 0 (cl L)) (fun pre => vals pre <+: placed 0 (cl L)) (placed 0 (cl L)).length w := by
  intro l J Jx W hW hJ hJx hY h0
  refine (each_in n hn l B b L v hL (fun pre W => ∃ pre', vals pre' = pre ∧ J pre' W) (fun pre W => ∃ pre', vals pre' = pre ∧ Jx pre' W) W ?_ ((hW.cell (p := ⟨B, 0, none⟩) hBw).trans hc) (hR.keeps (KeepsB.below hW hbw)) (Nat.lt_of_lt_of_le hbw hW.size) ?_ ⟨[], rfl, h0⟩).mono ?_
  · rintro s X Y row ⟨pre', h1, h2⟩ hg hr
    exact ⟨pre', h1, hJ _ _ _ _ h2 hg hr⟩
  · rintro pre x W1 ⟨pre', rfl, hJ1⟩ hp
    have hmem : x ∈ placed 0 (cl L) := hp.subset (by simp)
    have hlen : pre'.length < (placed 0 (cl L)).length := by
      have := hp.length_le
      rw [List.length_append, List.length_singleton] at this
      simp only [vals, List.length_map] at this
      omega
    obtain ⟨fn, tmps, assign, body, hy, hR⟩ := hY pre' ⟨x, hmem⟩ W1 hJ1 hlen
    refine ⟨fn, tmps, assign, body, hy, hR.mono ?_⟩
    rintro e W' (⟨h1, h2, h3⟩ | ⟨h1, h2⟩)
    · exact .inl ⟨h1, ⟨_, vals_snoc _ _, h2⟩, h3⟩
    · exact .inr ⟨h1, ⟨_, vals_snoc _ _, h2⟩⟩
  · rintro e W' ⟨hv, ⟨ys, h1, pre', h2, h3⟩ | ⟨pre, h1, pre', h2, h3⟩⟩
    · exact ⟨hv, .inl ⟨pre', h2.trans h1, h3⟩⟩
    · exact ⟨hv, .inr ⟨pre', by show vals pre' <+: _; rw [h2]; exact h1, h3⟩⟩

/-- what holds at the head of a round, and where the loop is left -/
def CutI (w : World) (S : ByteArray) (left : Nat) (L : List Int) (b6 B : Nat) (pre : List (Place L)) (W : World) : Prop :=
  (Boxed W w.heap.size 9 (.string S) ∧ Boxed W (w.heap.size + 1) 9 (.string ⟨#[]⟩) ∧ Boxed W (w.heap.size + 1 + 1) 9 (.string ⟨#[]⟩)) ∧ Boxed W b6 3 (.int .i64 ((left : Int) - ((wsum (ends (vals pre)) : Nat) : Int))) ∧ Below w.heap.size w W ∧ B ≤ W.heap.size ∧ wsum (ends (vals pre)) ≤ left
def CutX (w : World) (S : ByteArray) (left : Nat) (L : List Int) (c : Code) (pre : List (Place L)) (W : World) : Prop :=
  c = .ret ∧ ∃ (pre0 : List (Place L)) (x : Place L), pre = pre0 ++ [x] ∧ wsum (ends (vals pre0)) ≤ left ∧ left < wsum (ends (vals pre0)) + wide x.1.2 ∧ Boxed W (w.heap.size + 1) 9 (.string (S.extract 0 x.1.1)) ∧ Boxed W (w.heap.size + 1 + 1) 9 (.string (S.extract x.1.1 S.size)) ∧ Below w.heap.size w W
theorem boxed_keeps {B : Nat} {t : TypeId} {v : Value} {X Y : World} {row : Option Nat} (h : Boxed X B t v) (hg : X.grownBy Y row) (hr : ∀ r, row = some r → ∃ o : Obj, X.heap[r]? = some o ∧ o.isCells = false) : Boxed Y B t v :=
  boxed_own (β := Unit) B t (fun _ => v) () X Y row h hg hr
theorem cutI_own (w : World) (S : ByteArray) (left : Nat) (L : List Int) (b6 B : Nat) (hB : w.heap.size ≤ B) : OwnFrom B (CutI w S left L b6 B) :=
  fun _ X Y row ⟨⟨h2, h4, h5⟩, h6, hb, hw, hl⟩ hg hr =>
    have hr' := fun r e => (hr r e).2
    ⟨⟨boxed_keeps h2 hg hr', boxed_keeps h4 hg hr', boxed_keeps h5 hg hr'⟩, boxed_keeps h6 hg hr', ownFrom_below (β := Unit) (Nat.le_refl _) hB () X Y row hb hg hr, Nat.le_trans hw hg.size, hl⟩
theorem cutX_own (w : World) (S : ByteArray) (left : Nat) (L : List Int) (c : Code) {B : Nat} (hB : w.heap.size ≤ B) : OwnFrom B (CutX w S left L c) :=
  fun _ X Y row ⟨hc, pre0, x, h1, h2, h3, h4, h5, h6⟩ hg hr =>
    have hr' := fun r e => (hr r e).2
    ⟨hc, pre0, x, h1, h2, h3, boxed_keeps h4 hg hr', boxed_keeps h5 hg hr', ownFrom_below (β := Unit) (Nat.le_refl _) hB () X Y row h6 hg hr⟩

set_option maxRecDepth 100000 in
set_option maxHeartbeats 4000000 in
theorem cut_any (s : ByteArray) (n : Int) (w : World) (hs : s.size ≤ 274877906944) (hn : n < 9223372036854775808) : Calls Try.prog 35 #[.string s, .int .i64 n] w fun e w' => e = .returned (.tuple #[.string (cutA s n), .string (cutB s n)]) ∧ Below w.heap.size w w' := by
  have hl := runes_len s
  have hrc : runes (bs (str (clean (bs s)))) = runes (bs s) := by
    unfold clean
    rw [bs_str (text_byte _)]
    exact runes_clean _
  have hsz : (str (clean (bs s))).size ≤ 4 * s.size := by
    rw [str_size]
    have := (text_length (runes (bs s))).2
    unfold clean
    omega
  refine (callsIn_wide (n := 3)).1 ?_
  refine callsIn_of_wp_marks Try.func35 rfl trivial ?_ rfl
  simp only [Try.ntmps35, List.size_toArray, List.length_cons, List.length_nil, Nat.reduceAdd, Nat.reduceSub, Array.replicate_succ, Array.replicate_zero, List.push_toArray, List.append_toArray, List.nil_append, List.cons_append]
  have hbox2 : Boxed (((w.alloc (.cells #[.string s] 9)).alloc (.cells #[.string ⟨#[]⟩] 9)).alloc (.cells #[.string ⟨#[]⟩] 9)) w.heap.size 9 (.string s) := ((Boxed.new w _ _).alloc _).alloc _
  have hbox4 := (Boxed.new (w.alloc (.cells #[.string s] 9)) 9 (.string ⟨#[]⟩)).alloc (.cells #[.string ⟨#[]⟩] 9)
  have hbox5 := Boxed.new ((w.alloc (.cells #[.string s] 9)).alloc (.cells #[.string ⟨#[]⟩] 9)) 9 (.string ⟨#[]⟩)
  have hbel0 := (run.below_two w (.cells #[.string s] 9) (.cells #[.string ⟨#[]⟩] 9)).alloc (by simp; omega) (.cells #[.string ⟨#[]⟩] 9)
  rw [World.size_alloc] at hbox4
  rw [World.size_alloc, World.size_alloc] at hbox5
  have hW0s : (((w.alloc (.cells #[.string s] 9)).alloc (.cells #[.string ⟨#[]⟩] 9)).alloc (.cells #[.string ⟨#[]⟩] 9)).heap.size = w.heap.size + 3 := by simp
  have HS0 := run.hid hW0s
  clear hW0s
  gi_wp2_with fail
  generalize ((w.alloc (.cells #[.string s] 9)).alloc (.cells #[.string ⟨#[]⟩] 9)).alloc (.cells #[.string ⟨#[]⟩] 9) = W0 at *
  have hW0s := HS0.out
  refine ⟨trivial, ?_⟩
  refine (callsIn_wide.2 (clean_any s W0 (by omega) (by omega))).mono ?_
  rintro e w1 ⟨rfl, hb1⟩
  replace hbox2 : Boxed w1 w.heap.size 9 (.string s) := (hb1.block _ (by omega)).trans hbox2
  replace hbox4 : Boxed w1 (w.heap.size + 1) 9 (.string ⟨#[]⟩) := (hb1.block _ (by omega)).trans hbox4
  replace hbox5 : Boxed w1 (w.heap.size + 1 + 1) 9 (.string ⟨#[]⟩) := (hb1.block _ (by omega)).trans hbox5
  replace hbel0 := hbel0.trans (hb1.mono hbel0.size)
  have hs1 := hb1.size
  have hc2 := hbox2.cell
  have hf2 := hbox2.frozen
  generalize hS : str (clean (bs s)) = S at *
  have HSS := run.hid hS
  clear hS hb1
  obtain ⟨m, left, hL, hM, hor⟩ : ∃ (m : Int) (left : Nat), left = (max 0 n).toNat ∧ m = left ∧ (if 0 < n then n else 0) = m := ⟨max 0 n, (max 0 n).toNat, rfl, by omega, by split <;> omega⟩
  have HL := run.hid hL
  have HN := run.hid hn
  have HM := run.hid hM
  clear hL hn hM
  have hbox6 := Boxed.new (w1.setCell ⟨w.heap.size, 0, none⟩ (.string S)) 3 (.int .i64 m)
  replace hbox2 := (hbox2.set (.string S)).alloc (.cells #[.int .i64 m] 3)
  replace hbox4 := (hbox4.other (B' := w.heap.size) (by omega) (.string S)).alloc (.cells #[.int .i64 m] 3)
  replace hbox5 := (hbox5.other (B' := w.heap.size) (by omega) (.string S)).alloc (.cells #[.int .i64 m] 3)
  replace hbel0 := (hbel0.setCell (p := ⟨w.heap.size, 0, none⟩) (Nat.le_refl _) (.string S)).alloc (by simp; omega) (.cells #[.int .i64 m] 3)
  have hSl : (runes (bs S)).length ≤ 1099511627776 := by rw [hrc]; omega
  have hrcH := run.hid hrc
  clear hrc
  have hcl := cl_length _ (runes (bs S)) (Nat.le_refl _)
  have hc2n := hbox2.cell
  all_goals
    gi_wp2_with fail
    refine ⟨trivial, ?_⟩
    refine (callsIn_wide.2 (all_any S _ (by omega))).mono ?_
    rintro e w3 ⟨B, b, v, rfl, hcv, hB1, hB2, hb1, hb2, hrow, hbel1⟩
    have hz := hbel1.size
    simp at hz
    replace hbox6 := (hbel1.block _ (by simp)).trans hbox6
    replace hbox2 := (hbel1.block _ (by simp; omega)).trans hbox2
    replace hbox4 := (hbel1.block _ (by simp; omega)).trans hbox4
    replace hbox5 := (hbel1.block _ (by simp; omega)).trans hbox5
    replace hbel0 := hbel0.trans (hbel1.mono hbel0.size)
    simp at hb1
    have hSz : (text (runes (bs S))).length = S.size := by
      rw [hrcH.out, ← HSS.out, str_size]; rfl
    have hplace : ∀ x : Place (runes (bs S)), x.1.1 ≤ S.size := by
      intro x
      have := placed_mem _ _ _ x.2
      rw [cl_flat _ _ (Nat.le_refl _)] at this
      omega
    clear hSz hbel1 hor hc2n hc2 hf2
    generalize hLL : runes (bs S) = L at *
    have HLL := run.hid hLL
    clear hLL
    gi_wp2_with fail
    have h6 : Boxed w3 w1.heap.size 3 (.int .i64 ((left : Int) - ((wsum (ends (vals ([] : List (Place L)))) : Nat) : Int))) := by
      have e := HM.out
      rw [show (left : Int) - ((wsum (ends (vals ([] : List (Place L)))) : Nat) : Int) = (left : Int) by simp [wsum, ends, vals], ← e]
      show w3.heap[_]? = _
      simpa using hbox6
    clear hbox6
    have hb6 : w1.heap.size < w3.heap.size := by omega
    refine wpIn_rangeFunc_ownH rfl (by decide) (gf := 40) (lb := #[.pointer (some ⟨B, 0, none⟩)]) rfl trivial (enters_of Try.func40 (by kernel_rfl) rfl)
      (all_stops_in 2 (by decide) B b L v w3 hB2 hb2 hcv hrow hSl) KeepsB.trans (keepsB_b hb2) (Below.refl _ _) (fun _ => rfl)
      (CutI w S left L w1.heap.size w3.heap.size)
      (CutX w S left L)
      (cutI_own w S left L _ _ (by omega))
      (fun c => cutX_own w S left L c (by omega))
      ⟨⟨hbox2, hbox4, hbox5⟩, h6, hbel0, Nat.le_refl _, Nat.zero_le _⟩
      (fun x a' W => ∃ Bx u1 u11 u12, w3.heap.size ≤ Bx ∧ Boxed2 W Bx 36 (.string (str (text x.1.2))) (.int .i64 (wide x.1.2)) ∧ a' = { tmps := #[.string s, u1, .pointer (some ⟨w.heap.size, 0, none⟩), undef, .pointer (some ⟨w.heap.size + 1, 0, none⟩), .pointer (some ⟨w.heap.size + 1 + 1, 0, none⟩), .pointer (some ⟨w1.heap.size, 0, none⟩), .int .i64 (x.1.1 : Nat), .pointer (some ⟨Bx, 0, none⟩), .string s, .string S, u11, u12, .string S, .func (.func 40) #[] #[.pointer (some ⟨B, 0, none⟩)], .int .i64 (x.1.1 : Nat), cv x.1.2, undef, undef, undef, undef, undef, undef, undef, undef, undef, undef, undef, undef, undef, undef, undef], defers := [] })
      (fun x a' _ X Y row ⟨Bx, u1, u11, u12, h1, h2, h3⟩ hg hr => ⟨Bx, u1, u11, u12, h1, boxed2_own (β := Unit) Bx _ (fun _ => _) (fun _ => _) () X Y row h2 hg (fun r e => (hr r e).2), h3⟩) ?assign ?body ?done ?stop
    case assign =>
      rintro l pre x W K ⟨hv, h6, hB, hW, hle⟩ hK
      dsimp only [encs, cv] at hK ⊢
      gi_wp2
      refine hK _ _ ((KeepsOthers.alloc W _).from _) ⟨by simp, run.heap_old W _ (Nat.lt_of_lt_of_le hb2 hW)⟩ ⟨⟨hv.1.alloc _, hv.2.1.alloc _, hv.2.2.alloc _⟩, h6.alloc _, hB.alloc hB.size _, by simp; omega, hle⟩ ⟨W.heap.size, _, _, _, hW, run.heap_new W _, rfl⟩
    case body =>
      rintro l pre x a' W hl' hr' ⟨hv, h6, hB, hW, hle⟩ ⟨Bx, u1, u11, u12, hBx, hx, rfl⟩ hlt
      obtain ⟨hv2, hv4, hv5⟩ := hv
      have hc2 := hv2.cell
      have hc4 := hv4.cell
      have hc5 := hv5.cell
      have hf4 := hv4.frozen
      have hf5 := hv5.frozen
      have hc6 := h6.cell
      have hf6 := h6.frozen
      have hx1 : W.cell? ⟨Bx, 1, none⟩ = some (.int .i64 (wide x.1.2)) := by simp [World.cell?, show W.heap[Bx]? = _ from hx]
      have HE := run.hid (wsum_snoc (vals pre) x.1)
      have hs2 := wide_le x.1.2
      have hpl := hplace x
      have HXX : Hid (∀ (W' : World), wsum (ends (vals pre)) ≤ left → left < wsum (ends (vals pre)) + wide x.1.2 → Boxed W' (w.heap.size + 1) 9 (.string (S.extract 0 x.1.1)) → Boxed W' (w.heap.size + 1 + 1) 9 (.string (S.extract x.1.1 S.size)) → Below w.heap.size w W' → CutX w S left L .ret (pre ++ [x]) W') := run.hid (fun W' h1 h2 h3 h4 h5 => ⟨rfl, pre, x, rfl, h1, h2, h3, h4, h5⟩)
      obtain ⟨⟨at_, p⟩, hmem⟩ := x
      dsimp only at hx1 HE hs2 hpl HXX
      clear hx hplace
      have hbW : b < W.heap.size := Nat.lt_of_lt_of_le hb2 hW
      have hlb : (left : Int) - ((wsum (ends (vals pre)) : Nat) : Int) ≤ 9223372036854775807 := by have h1 := HL.out; have h2 := HN.out; omega
      have hlq : 0 ≤ (left : Int) - ((wsum (ends (vals pre)) : Nat) : Int) := by omega
      generalize hq : (left : Int) - ((wsum (ends (vals pre)) : Nat) : Int) = q at *
      have HQ := run.hid hq
      clear hq hle
      generalize hwd : wide p = wd at *
      have HWD := run.hid hwd
      clear hwd
      by_cases hfit : (wd : Int) ≤ q
      · gi_wp2
        refine ⟨(KeepsOthers.setCell _ _ _).from _, ⟨by simp, (Below.heap_setCell W ⟨w1.heap.size, 0, none⟩ _ b (by show b ≠ w1.heap.size; omega))⟩, ⟨hv2.other (by omega) _, hv4.other (by omega) _, hv5.other (by omega) _⟩, ?_, hB.setCell (p := ⟨w1.heap.size, 0, none⟩) (by show w.heap.size ≤ w1.heap.size; omega) _, by simpa using hW, ?_⟩
        · rw [vals_snoc]
          show Boxed _ _ _ (.int .i64 ((left : Int) - ((wsum (ends (vals pre ++ [(at_, p)])) : Nat) : Int)))
          rw [HE.out, show (left : Int) - ((wsum (ends (vals pre)) + wd : Nat) : Int) = q - wd by have := HQ.out; omega]
          exact h6.set _
        · rw [vals_snoc]
          show wsum (ends (vals pre ++ [(at_, p)])) ≤ left
          rw [HE.out]
          have := HQ.out
          omega
      · have hgt : q < wd := by omega
        gi_wp2_with fail
        refine lex.regionIn (fun d W' => Boxed W' w.heap.size 9 (.string S) ∧ (KeepsFrom w3.heap.size W W' ∧ Below w.heap.size w W') ∧ (∃ v4, Boxed W' (w.heap.size + 1) 9 v4 ∧ (d 6 = true → v4 = .string (S.extract 0 at_))) ∧ (∃ v5, Boxed W' (w.heap.size + 1 + 1) 9 v5 ∧ (d 7 = true → v5 = .string (S.extract at_ S.size))))
          (fun _ => trivial) (by kernel_rfl) (by kernel_rfl) (by kernel_rfl) ⟨hv2, ⟨(KeepsOthers.drew W).from _, hB.trans ⟨rfl, rfl, rfl, Nat.le_refl _, fun _ _ => rfl⟩⟩, ⟨_, hv4, fun h => by cases h⟩, ⟨_, hv5, fun h => by cases h⟩⟩ ?_
        refine lex.at_pure (.string S) rfl (fun d W' h => h) (fun d W' h => by simp [go_sem, h.1.cell]) ?_
        refine lex.at_pure (.int .i64 at_) rfl (fun d W' h => h) (fun d W' h => rfl) ?_
        refine lex.at_pure (.string (S.extract 0 at_)) rfl (fun d W' h => h) (fun d W' h => by simp [go_sem]; omega) ?_
        refine lex.at_pure (.string S) rfl (fun d W' h => h) (fun d W' h => by simp [go_sem, h.1.cell]) ?_
        refine lex.at_pure (.int .i64 at_) rfl (fun d W' h => h) (fun d W' h => rfl) ?_
        refine lex.at_pure (.string (S.extract at_ S.size)) rfl (fun d W' h => h) (fun d W' h => by simp [go_sem]; omega) ?_
        refine lex.at_store rfl (fun d W' ⟨h2, ⟨hk, hb⟩, ⟨v4, h4, _⟩, ⟨v5, h5, h7⟩⟩ => ⟨_, by simp [go_sem, h4.cell, h4.frozen], h2.other (by omega) _, ⟨hk.trans ((KeepsOthers.setCell _ _ _).from _), hb.setCell (p := ⟨w.heap.size + 1, 0, none⟩) (by show w.heap.size ≤ w.heap.size + 1; omega) _⟩, ⟨_, h4.set _, fun _ => rfl⟩, ⟨v5, h5.other (by omega) _, fun h => h7 (by simpa [lex.mark] using h)⟩⟩) ?_
        refine lex.at_store rfl (fun d W' ⟨h2, ⟨hk, hb⟩, ⟨v4, h4, h6⟩, ⟨v5, h5, _⟩⟩ => ⟨_, by simp [go_sem, h5.cell, h5.frozen], h2.other (by omega) _, ⟨hk.trans ((KeepsOthers.setCell _ _ _).from _), hb.setCell (p := ⟨w.heap.size + 1 + 1, 0, none⟩) (by show w.heap.size ≤ w.heap.size + 1 + 1; omega) _⟩, ⟨v4, h4.other (by omega) _, fun h => h6 (by simpa [lex.mark] using h)⟩, ⟨_, h5.set _, fun _ => rfl⟩⟩) ?_
        refine lex.at_end ?_
        rintro W' d hd ⟨-, ⟨hk, hb⟩, ⟨v4, h4, h6⟩, ⟨v5, h5, h7⟩⟩
        obtain rfl := h6 (hd 6 (by decide))
        obtain rfl := h7 (hd 7 (by decide))
        gi_wp2
        have hq2 := HQ.out
        exact ⟨hk, HXX.out _ (by omega) (by omega) h4 h5 hb⟩
    case done =>
      rintro D ys W hD hys ⟨⟨hv2, hv4, hv5⟩, h6, hB, hW, hle⟩ hK
      have hc2 := hv2.cell
      have hc4 := hv4.cell
      have hc5 := hv5.cell
      have hf4 := hv4.frozen
      have hf5 := hv5.frozen
      clear h6
      have HYS := run.hid hys
      clear hys
      gi_wp2
      have r4 := (hv4.set (.string S)).other (B' := w.heap.size + 1 + 1) (by omega) (.string ⟨#[]⟩)
      have r5 := (hv5.other (B' := w.heap.size + 1) (by omega) (.string S)).set (.string ⟨#[]⟩)
      have hDb : w.heap.size + 3 ≤ D := by omega
      have hKD : ((W.setCell ⟨w.heap.size + 1, 0, none⟩ (.string S)).setCell ⟨w.heap.size + 1 + 1, 0, none⟩ (.string ⟨#[]⟩)).heap[D]? = some (.deferred (some [])) :=
        (Below.heap_setCell _ ⟨w.heap.size + 1 + 1, 0, none⟩ _ D (by show D ≠ w.heap.size + 1 + 1; omega)).trans ((Below.heap_setCell W ⟨w.heap.size + 1, 0, none⟩ _ D (by show D ≠ w.heap.size + 1; omega)).trans hK)
      have q4 : Boxed (((W.setCell ⟨w.heap.size + 1, 0, none⟩ (.string S)).setCell ⟨w.heap.size + 1 + 1, 0, none⟩ (.string ⟨#[]⟩)).putObj D (.deferred none)) (w.heap.size + 1) 9 (.string S) := (World.putObj_heap_other (by omega)).trans r4
      have q5 : Boxed (((W.setCell ⟨w.heap.size + 1, 0, none⟩ (.string S)).setCell ⟨w.heap.size + 1 + 1, 0, none⟩ (.string ⟨#[]⟩)).putObj D (.deferred none)) (w.heap.size + 1 + 1) 9 (.string ⟨#[]⟩) := (World.putObj_heap_other (by omega)).trans r5
      have e4 := q4.cell
      have e5 := q5.cell
      have hBB := (hB.setCell (p := ⟨w.heap.size + 1, 0, none⟩) (by show w.heap.size ≤ w.heap.size + 1; omega) (.string S)).setCell (p := ⟨w.heap.size + 1 + 1, 0, none⟩) (by show w.heap.size ≤ w.heap.size + 1 + 1; omega) (.string ⟨#[]⟩)
      refine ⟨by simp, .inl ⟨_, _, rfl, run_takeDeferred hKD, ?_⟩⟩
      refine ⟨.tuple #[.string S, .string ⟨#[]⟩], (results_cells2 rfl _ _ _).trans (by simp [go_sem, e4, e5]), ?_, ?_⟩
      · have h1 := HYS.out
        rw [h1, ends_placed, hrcH.out] at hle
        obtain ⟨e1, e2⟩ := cut_all (s := s) (n := n) (by rw [← HL.out]; exact hle)
        rw [← e1, ← e2, HSS.out]
        rfl
      · exact hBB.trans (belowK_b (w := w) (Nat.le_refl _) _ D _ _ (by omega) hKD rfl rfl)
    case stop =>
      rintro D c pre W hD hp ⟨rfl, pre0, x, rfl, h1, h2, h4, h5, hb⟩ hK
      have hDb : w.heap.size + 3 ≤ D := by omega
      have q4 : Boxed (W.putObj D (.deferred none)) (w.heap.size + 1) 9 (.string (S.extract 0 x.1.1)) := (World.putObj_heap_other (by omega)).trans h4
      have q5 : Boxed (W.putObj D (.deferred none)) (w.heap.size + 1 + 1) 9 (.string (S.extract x.1.1 S.size)) := (World.putObj_heap_other (by omega)).trans h5
      have e4 := q4.cell
      have e5 := q5.cell
      rw [vals_snoc] at hp
      have hp' : vals pre0 ++ [x.1] <+: placed 0 (cl (runes (bs s))) := by rw [← hrcH.out]; exact hp
      replace hp := hp'
      obtain ⟨e1, e2⟩ := cut_at (s := s) (n := n) (left := left) hp HL.out h1 h2
      rw [HSS.out] at e1 e2
      gi_wp2
      refine ⟨by simp, .inl ⟨_, _, rfl, run_takeDeferred hK, ?_⟩⟩
      refine ⟨.tuple #[.string (S.extract 0 x.1.1), .string (S.extract x.1.1 S.size)], (results_cells2 rfl _ _ _).trans (by simp [go_sem, e4, e5]), ?_, ?_⟩
      · rw [e1, e2]
      · exact hb.trans (belowK_b (w := w) (Nat.le_refl _) _ D _ _ (by omega) hK rfl rfl)

end Go.Proofs.Ytinedhocmlcfpaa.clu
