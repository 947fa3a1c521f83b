/-
  The law ClusterAll: the clusters with their places, gone over three times.
-/
import Derived.Test.YtfncneedpnikbaaCluPlaces
import Derived.Test.YtfncneedpnikbaaCluAlive
import Derived.Test.YtfncneedpnikbaaLexCmp
import Derived.Laws.EntriesVeiled
import Derived.Lib.MinMax
import Derived.Laws.ResultCell
namespace Go.Proofs.Ytfncneedpnikbaa.clu
open Go.RowKit Go.Proofs Go.Shelf
open Go.Proofs.Ytfncneedpnikbaa.wid Go.Proofs.Ytfncneedpnikbaa.utf
set_option linter.unusedVariables false
attribute [local go_sem] Oper.semAt_some

/-- what came is what was to come, as far as values tell -/
def agr (X : List (List Int)) (ys : List (Nat × List Int)) : Prop := ys.map encs = ((placed 0 X).map encs).take ys.length
theorem agr_nil (X : List (List Int)) : agr X [] := by simp [agr]
theorem agr_prefix {X : List (List Int)} {ys : List (Nat × List Int)} (h : ys <+: placed 0 X) : agr X ys := by
  obtain ⟨t, ht⟩ := h
  unfold agr
  rw [← ht, List.map_append, List.take_append_of_le_length (by simp), List.take_of_length_le (by simp)]
theorem agr_snoc {X : List (List Int)} {ys : List (Nat × List Int)} {x : Nat × List Int} (h : agr X ys) (hl : ys.length < X.length) : agr X (ys ++ [x]) ↔ (x.1 = ptN X ys.length ∧ str (text x.2) = str (text (X.getD ys.length [])) ∧ wide x.2 = wide (X.getD ys.length [])) := by
  have hg := placed_get X 0 ys.length hl
  unfold agr at *
  rw [List.map_append, List.length_append, h]
  have hl2 : ys.length < ((placed 0 X).map encs).length := by rw [List.length_map, placed_length]; exact hl
  simp only [List.length_singleton, List.map_cons, List.map_nil]
  rw [List.take_succ_eq_append_getElem hl2, List.append_cancel_left_eq]
  have he : ((placed 0 X).map encs)[ys.length] = encs (0 + ptN X ys.length, X.getD ys.length []) := by
    rw [List.getElem_map]
    congr 1
    have := List.getElem?_eq_some_iff.1 hg
    exact this.2
  rw [he]
  simp only [encs, cv, List.cons.injEq, and_true, Array.mk.injEq, Value.int.injEq, true_and, Value.agg.injEq, Value.string.injEq, Nat.zero_add]
  constructor
  · rintro ⟨h1, h2, h3⟩
    exact ⟨by omega, h2, by omega⟩
  · rintro ⟨h1, h2, h3⟩
    exact ⟨by omega, h2, by omega⟩

theorem func_nil (B : Nat) (w : World) : (binOp .eql 27 (.func (.func 11) #[] #[.pointer (some ⟨B, 0, none⟩)]) .nilFunc).run Try.prog w = .ok (.bool false) w := by kernel_rfl
theorem ownFrom_or {β : Type} {B : Nat} {I I' : β → World → Prop} (h : OwnFrom B I) (h' : OwnFrom B I') : OwnFrom B (fun s W => I s W ∨ I' s W) := fun s W W' row hs hg hr => hs.elim (fun h1 => .inl (h s W W' row h1 hg hr)) (fun h1 => .inr (h' s W W' row h1 hg hr))
theorem boxed_below {w w' : World} {n B : Nat} {t : TypeId} {v : Value} (h : Boxed w B t v) (hb : Below n w w') (hlt : B < n) : Boxed w' B t v := (hb.block B hlt).trans h
def inr0 (N n : Nat) : Nat := if n = 0 then 0 else N
theorem inr0_zero (N : Nat) : inr0 N 0 = 0 := rfl
theorem inr0_pos {N n : Nat} (h : n ≠ 0) : inr0 N n = N := by unfold inr0; rw [if_neg h]
/-- likewise of the places alone -/
def agp (X : List (List Int)) (ys : List (Nat × List Int)) : Prop := ys.map (·.1) = ((placed 0 X).map (·.1)).take ys.length
theorem agp_nil (X : List (List Int)) : agp X [] := by simp [agp]
theorem agp_prefix {X : List (List Int)} {ys : List (Nat × List Int)} (h : ys <+: placed 0 X) : agp X ys := by
  obtain ⟨t, ht⟩ := h
  unfold agp
  rw [← ht, List.map_append, List.take_append_of_le_length (by simp), List.take_of_length_le (by simp)]
theorem agp_snoc {X : List (List Int)} {ys : List (Nat × List Int)} {x : Nat × List Int} (h : agp X ys) (hl : ys.length < X.length) : agp X (ys ++ [x]) ↔ x.1 = ptN X ys.length := by
  have hg := placed_get X 0 ys.length hl
  unfold agp at *
  rw [List.map_append, List.length_append, h]
  have hl2 : ys.length < ((placed 0 X).map (·.1)).length := by rw [List.length_map, placed_length]; exact hl
  simp only [List.length_singleton, List.map_cons, List.map_nil]
  rw [List.take_succ_eq_append_getElem hl2, List.append_cancel_left_eq]
  have he : ((placed 0 X).map (·.1))[ys.length] = 0 + ptN X ys.length := by
    rw [List.getElem_map]
    exact congrArg (·.1) (List.getElem?_eq_some_iff.1 hg).2
  rw [he]
  simp
/-- what the law reads of the document's answer -/
structure RdA (X : List (List Int)) (n0 : Nat) (b5 b6 : Nat) (a5 a6 : Option Addr) (c5 c6 : Nat) (W : World) : Prop where
  w5 : Boxed W b5 22 (.slice a5 X.length c5)
  w6 : Boxed W b6 24 (.slice a6 X.length c6)
  r : ∀ i, i < X.length → ∃ g h, a5 = some ⟨g, 0, none⟩ ∧ a6 = some ⟨h, 0, none⟩ ∧ W.cell? ⟨g, i * 2, none⟩ = some (.string (str (text (X.getD i [])))) ∧ W.cell? ⟨g, i * 2 + 1, none⟩ = some (.int .i64 (wide (X.getD i []))) ∧ W.cell? ⟨h, i, none⟩ = some (.int .i64 (ptN X i))
  lt : b5 < n0 ∧ b6 < n0 ∧ ∀ i, i < X.length → ∀ g, (a5 = some ⟨g, 0, none⟩ ∨ a6 = some ⟨g, 0, none⟩) → g < n0
theorem RdA.below {X : List (List Int)} {n0 b5 b6 : Nat} {a5 a6 : Option Addr} {c5 c6 : Nat} {W W' : World} (h : RdA X n0 b5 b6 a5 a6 c5 c6 W) (hb : Below n0 W W') : RdA X n0 b5 b6 a5 a6 c5 c6 W' := by
  refine ⟨(hb.block b5 h.lt.1).trans h.w5, (hb.block b6 h.lt.2.1).trans h.w6, fun i hi => ?_, h.lt⟩
  obtain ⟨g, k, e1, e2, h1, h2, h3⟩ := h.r i hi
  have hg := h.lt.2.2 i hi g (.inl e1)
  have hk := h.lt.2.2 i hi k (.inr e2)
  exact ⟨g, k, e1, e2, (hb.cell (p := ⟨g, i * 2, none⟩) hg).trans h1, (hb.cell (p := ⟨g, i * 2 + 1, none⟩) hg).trans h2, (hb.cell (p := ⟨k, i, none⟩) hk).trans h3⟩
theorem RdA.mono {X : List (List Int)} {n0 n1 b5 b6 : Nat} {a5 a6 : Option Addr} {c5 c6 : Nat} {W : World} (h : RdA X n0 b5 b6 a5 a6 c5 c6 W) (hn : n0 ≤ n1) : RdA X n1 b5 b6 a5 a6 c5 c6 W :=
  ⟨h.w5, h.w6, h.r, by have := h.lt.1; omega, by have := h.lt.2.1; omega, fun i hi g hg => by have := h.lt.2.2 i hi g hg; omega⟩

set_option maxRecDepth 100000 in
set_option maxHeartbeats 8000000 in
theorem lawAll_any (s : ByteArray) (most : Int) (w : World) (hs : s.size ≤ 1048576) : Calls Try.prog 3 #[.string s, .int .i64 most] w fun e w' => e = .returned (.bool true) ∧ Below w.heap.size w w' := by
  refine (callsIn_wide (n := 9)).1 ?_
  have hl := runes_len s
  have HSP := run.hid (fun w => refSplit_any s w (by omega))
  have HALL := run.hid (fun w => all_any s w (by omega))
  have HRL : (runes (bs s)).length ≤ 1048576 := by omega
  have HCL := cl_length _ (runes (bs s)) (Nat.le_refl _)
  have HPT := run.hid (ptN_le (runes (bs s)))
  unfold Splits at HSP
  unfold Each at HALL
  generalize hL : runes (bs s) = L at *
  clear hL
  have HPL := run.hid (fun B v w h => places_any B v (cl L) w h (by omega) (fun i => by have := HPT.out i; omega))
  refine callsIn_of_wp_marks Try.func3 rfl trivial ?_ rfl
  simp only [Try.ntmps3, List.size_toArray, List.length_cons, List.length_nil, Nat.reduceAdd, Nat.reduceSub, Array.replicate_succ, Array.replicate_zero, List.push_toArray, List.append_toArray, List.nil_append, List.cons_append]
  have hm0 := Boxed.new w 3 (.int .i64 most)
  have hm1 := Boxed.new (w.alloc (.cells #[.int .i64 most] 3)) 4 (.bool false)
  have hm2 := hm0.alloc (.cells #[.bool false] 4)
  have hbw := run.below_two w (.cells #[.int .i64 most] 3) (.cells #[.bool false] 4)
  simp only [World.size_alloc] at hm1
  gi_wp2_with (refine ⟨trivial, ?_⟩; gi_at_call 4; refine (callsIn_wide.2 (HSP.out _)).mono ?_; rintro e w1 ⟨v5, rfl, hown5, hb1⟩; obtain ⟨a5, c5, rfl⟩ := run.own_value hown5)
  have hb1w := hbw.trans (hb1.mono (by simp; omega))
  have m0 : Boxed w1 w.heap.size 3 (.int .i64 most) := (hb1.block w.heap.size (by simp; omega)).trans hm2
  have m1 : Boxed w1 (w.heap.size + 1) 4 (.bool false) := (hb1.block (w.heap.size + 1) (by simp)).trans hm1
  have hs1 : w.heap.size + 2 ≤ w1.heap.size := by have := hb1.size; simp at this; omega
  have x5 := Boxed.new w1 22 (.slice a5 (cl L).length c5)
  have hb2 := hb1w.alloc hb1w.size (.cells #[.slice a5 (cl L).length c5] 22)
  have m0' := m0.alloc (.cells #[.slice a5 (cl L).length c5] 22)
  have m1' := m1.alloc (.cells #[.slice a5 (cl L).length c5] 22)
  have o5 := hown5.alloc (.cells #[.slice a5 (cl L).length c5] 22)
  have hs2 : w1.heap.size < (w1.alloc (.cells #[.slice a5 (cl L).length c5] 22)).heap.size := by simp
  clear hm0 hm1 hm2 hbw hb1 hb1w m0 m1 hown5
  generalize w1.alloc (.cells #[.slice a5 (cl L).length c5] 22) = w2 at *
  generalize hb5e : w1.heap.size = b5 at *
  have O5 := run.hid (run.own_mono (base' := w.heap.size) o5 (by simp; omega))
  refine ⟨trivial, ?_⟩
  refine (callsIn_wide.2 (HPL.out _ _ w2 O5.out)).mono ?_
  rintro e w3 ⟨v6, rfl, hown6, hb3⟩
  obtain ⟨a6, c6, rfl⟩ := run.own_value hown6
  have M0 := run.hid ((boxed_below m0' hb3 (by omega)).alloc (.cells #[.slice a6 (cl L).length c6] 24))
  have M1 := run.hid ((boxed_below m1' hb3 (by omega)).alloc (.cells #[.slice a6 (cl L).length c6] 24))
  have X5 := run.hid ((boxed_below x5 hb3 (by omega)).alloc (.cells #[.slice a6 (cl L).length c6] 24))
  have X6 := run.hid (Boxed.new w3 24 (.slice a6 (cl L).length c6))
  have O5' := run.hid ((run.own_below O5.out hb3).alloc (.cells #[.slice a6 (cl L).length c6] 24))
  have O6 := run.hid (hown6.alloc (.cells #[.slice a6 (cl L).length c6] 24))
  have hB4 := (hb2.trans (hb3.mono hb2.size)).alloc (by have := hb3.size; omega) (.cells #[.slice a6 (cl L).length c6] 24)
  have hs3 := hb3.size
  have hs4 : w3.heap.size < (w3.alloc (.cells #[.slice a6 (cl L).length c6] 24)).heap.size := by simp
  clear m0' m1' x5 o5 hb2 hb3 hown6 O5
  gi_wp2_with fail
  generalize w3.alloc (.cells #[.slice a6 (cl L).length c6] 24) = w4 at *
  generalize hb6e : w3.heap.size = b6 at *
  refine ⟨trivial, ?_⟩
  refine (callsIn_wide.2 (HALL.out w4)).mono ?_
  rintro e w5 ⟨BB, b, v, rfl, hcv, hB1, hB2, hbb1, hbb2, hrow, hb5⟩
  have hs5 := hb5.size
  have hfn := func_nil BB
  have X7 := run.hid (Boxed.new w5 27 (.func (.func 11) #[] #[.pointer (some ⟨BB, 0, none⟩)]))
  gi_wp2_with fail
  have X8 := Boxed.new (w5.alloc (.cells #[.func (.func 11) #[] #[.pointer (some ⟨BB, 0, none⟩)]] 27)) 3 (.int .i64 0)
  have hb7 := run.below_two w5 (.cells #[.func (.func 11) #[] #[.pointer (some ⟨BB, 0, none⟩)]] 27) (.cells #[.int .i64 0] 3)
  have X7' := X7.out.alloc (.cells #[.int .i64 0] 3)
  have hz7 : ((w5.alloc (.cells #[.func (.func 11) #[] #[.pointer (some ⟨BB, 0, none⟩)]] 27)).alloc (.cells #[.int .i64 0] 3)).heap.size = w5.heap.size + 2 := by simp
  simp only [World.size_alloc] at X8
  clear X7 hfn
  generalize (w5.alloc (.cells #[.func (.func 11) #[] #[.pointer (some ⟨BB, 0, none⟩)]] 27)).alloc (.cells #[.int .i64 0] 3) = w7 at *
  generalize hb7e : w5.heap.size = b7 at *
  have hlt5 : b5 < b7 ∧ b6 < b7 := by omega
  have HSTOP : Hid (∀ n W, 1 ≤ n → Below (b7 + 1) w7 W → SeqStopsK Fence.wide n Try.prog 11 #[.pointer (some ⟨BB, 0, none⟩)] encs (KeepsB b) (fun ys => ys = placed 0 (cl L)) (fun pre => pre <+: placed 0 (cl L)) (placed 0 (cl L)).length W) := fun n W hn hW => by
    have h7 : Below b7 w5 W := hb7.trans (hW.mono (by omega))
    have hsW := hW.size
    exact all_stops n hn BB b L v W (by omega) (by omega) ((h7.cell (p := ⟨BB, 0, none⟩) hB2).trans hcv) (hrow.keeps ⟨h7.size |> (fun h => by omega), h7.block b hbb2⟩) (by omega)
  have HBEL : Hid (∀ W, Below (b7 + 1) w7 W → Below w.heap.size w W) := fun W hW => (hB4.trans (hb5.mono (by omega))).trans ((hb7.mono (by omega)).trans (hW.mono (by omega)))
  have HM0 : Hid (∀ W, Below (b7 + 1) w7 W → Boxed W w.heap.size 3 (.int .i64 most)) := fun W hW => boxed_below (boxed_below (boxed_below M0.out hb5 (by omega)) hb7 (by omega)) hW (by omega)
  have HM1 : Hid (∀ W, Below (b7 + 1) w7 W → Boxed W (w.heap.size + 1) 4 (.bool false)) := fun W hW => boxed_below (boxed_below (boxed_below M1.out hb5 (by omega)) hb7 (by omega)) hW (by omega)
  have HM7 : Hid (∀ W, Below (b7 + 1) w7 W → Boxed W b7 27 (.func (.func 11) #[] #[.pointer (some ⟨BB, 0, none⟩)])) := fun W hW => boxed_below X7' hW (by omega)
  have HRD : Hid (∀ W, Below (b7 + 1) w7 W → RdA (cl L) (b7 + 1) b5 b6 a5 a6 c5 c6 W) := fun W hW => by
    refine RdA.below (W := w7) ⟨boxed_below (boxed_below X5.out hb5 (by omega)) hb7 (by omega), boxed_below (boxed_below X6.out hb5 (by omega)) hb7 (by omega), fun i hi => ?_, by omega, by omega, fun i hi g hg => ?_⟩ hW
    · rcases O5'.out.2 with ⟨-, h0⟩ | ⟨g, cap, cur, e5, -⟩
      · omega
      rcases O6.out.2 with ⟨-, h0⟩ | ⟨h, cap, cur, e6, -⟩
      · omega
      simp only [Value.slice.injEq] at e5 e6
      obtain ⟨e5, -, rfl⟩ := e5
      obtain ⟨e6, -, rfl⟩ := e6
      subst e5 e6
      have l5 := (O5'.out.lt g rfl).2
      have l6 := (O6.out.lt h rfl).2
      obtain ⟨k1, k2⟩ := cc_get hi
      have q1 := (O5'.out.cellAt (i * 2) (by omega)).trans k1
      have q2 := (O5'.out.cellAt (i * 2 + 1) (by omega)).trans k2
      have q3 := (O6.out.cellAt i (by omega)).trans (pvl_get hi)
      have hm : ∀ {g k : Nat} {u : Value}, g < w4.heap.size → w4.cell? ⟨g, k, none⟩ = some u → w7.cell? ⟨g, k, none⟩ = some u := fun {g k u} h1 h2 => (hb7.cell (p := ⟨g, k, none⟩) (by show g < b7; omega)).trans ((hb5.cell (p := ⟨g, k, none⟩) h1).trans h2)
      exact ⟨g, h, rfl, rfl, hm l5 q1, hm l5 q2, hm l6 q3⟩
    · rcases hg with rfl | rfl
      · have := (O5'.out.lt g rfl).2; omega
      · have := (O6.out.lt g rfl).2; omega
  have hbz : b < w7.heap.size := by omega
  clear hcv hrow hb5 hb7 hB4 X7' M0 M1 X5 X6 O5' O6 HSP HALL HPL HPT hs2 hs3 hs4
  --LOOPS
  refine wpIn_rangeFunc_ownH rfl (by decide) (gf := 11) (lb := #[.pointer (some ⟨BB, 0, none⟩)]) rfl trivial (enters_of Try.func11 (by kernel_rfl) rfl)
    (HSTOP.out 8 w7 (by decide) (Below.refl _ _)) KeepsB.trans (keepsB_b hbz) (Below.refl _ _) (fun _ => rfl)
    (fun pre W => Boxed W (b7 + 1) 3 (.int .i64 (pre.length : Nat)) ∧ (agr (cl L) pre ∧ Below (b7 + 1) w7 W))
    (fun c pre W => c = .ret ∧ ¬ agr (cl L) pre)
    (OwnFrom.and (Own.from (boxed_own (b7 + 1) 3 (fun pre : List (Nat × List Int) => .int .i64 (pre.length : Nat))) _) (OwnFrom.and (ownFrom_pure _ (fun pre : List (Nat × List Int) => agr (cl L) pre)) (ownFrom_below (by omega) (by omega))))
    (fun c => ownFrom_pure _ (fun pre : List (Nat × List Int) => c = .ret ∧ ¬ agr (cl L) pre))
    ⟨X8, agr_nil _, Below.refl _ _⟩
    (fun x a' W => ∃ Bx, Boxed2 W Bx 30 (.string (str (text x.2))) (.int .i64 (wide x.2)) ∧ a' = { tmps := #[.string s, .int .i64 most, undef, .pointer (some ⟨w.heap.size, 0, none⟩), .pointer (some ⟨w.heap.size + 1, 0, none⟩), .pointer (some ⟨b5, 0, none⟩), .pointer (some ⟨b6, 0, none⟩), .pointer (some ⟨b7, 0, none⟩), .pointer (some ⟨b7 + 1, 0, none⟩), .int .i64 (x.1 : Nat), .pointer (some ⟨Bx, 0, none⟩), undef, undef, undef, undef, undef, undef, undef, .string s, .slice a5 (cl L).length c5, .slice a5 (cl L).length c5, .slice a6 (cl L).length c6, .string s, .func (.func 11) #[] #[.pointer (some ⟨BB, 0, none⟩)], .func (.func 11) #[] #[.pointer (some ⟨BB, 0, none⟩)], .bool false, .func (.func 11) #[] #[.pointer (some ⟨BB, 0, none⟩)], .int .i64 (x.1 : Nat), cv x.2, undef, undef, undef, undef, undef, undef, undef, undef, undef, undef, undef, undef, undef, undef, undef, undef, undef, undef, undef, undef, undef, undef, undef, undef, undef, undef, undef, undef, undef, undef, undef, undef, undef, undef, undef, undef, undef, undef, undef, undef, undef, undef, undef, undef, undef, undef, undef, undef, undef, undef, undef, undef, undef, undef, undef, undef, undef, undef, undef, undef, undef, undef, undef, undef, undef, undef, undef, undef, undef, undef, undef, undef, undef, undef, undef, undef, undef, undef, undef, undef, undef, undef, undef, undef, undef, undef, undef, undef, undef, undef, undef, undef, undef, undef, undef, undef, undef, undef, undef, undef, undef, undef, undef, undef, undef, undef, undef, undef, undef, undef, undef, undef, undef, undef, undef, undef], defers := [] })
    (fun x a' _ X Y row ⟨Bx, h2, h3⟩ hg hr => ⟨Bx, boxed2_own (β := Unit) Bx _ (fun _ => _) (fun _ => _) () X Y row h2 hg (fun r e => (hr r e).2), h3⟩) ?assign ?body ?done ?stop
  case assign =>
    rintro l pre x W K ⟨h8, ha, hB⟩ hK
    have hsW := hB.size
    dsimp only [encs, cv] at hK ⊢
    gi_wp2
    exact hK _ _ ((KeepsOthers.alloc W _).from _) ⟨by simp, run.heap_old W _ (by omega)⟩ ⟨h8.alloc _, ha, hB.alloc (by omega) _⟩ ⟨W.heap.size, run.heap_new W _, rfl⟩
  case body =>
    rintro l pre x a' W hl' hr' ⟨h8, ha, hB⟩ ⟨Bx, hx, rfl⟩ hlt
    rw [placed_length] at hlt
    have hsW := hB.size
    have RD := HRD.out W hB
    obtain ⟨g5, h6, rfl, rfl, r1, r2, r3⟩ := RD.r pre.length hlt
    have cn := h8.cell
    have fn := h8.frozen
    have c5x := RD.w5.cell
    have c6x := RD.w6.cell
    have cx0 : W.cell? ⟨Bx, 0, none⟩ = some (.string (str (text x.2))) := by simp [World.cell?, show W.heap[Bx]? = _ from hx]
    have cx1 : W.cell? ⟨Bx, 1, none⟩ = some (.int .i64 (wide x.2)) := by simp [World.cell?, show W.heap[Bx]? = _ from hx]
    have mr := (HM1.out W hB).cell
    have fr := (HM1.out W hB).frozen
    have HAG := run.hid (agr_snoc (x := x) ha hlt)
    have H8 := run.hid h8
    have HB := run.hid hB
    have HIN : Hid (∀ W', Below (b7 + 1) w7 W' → Boxed W' (b7 + 1) 3 (.int .i64 ((pre.length : Int) + 1)) → agr (cl L) (pre ++ [x]) → Boxed W' (b7 + 1) 3 (.int .i64 (((pre ++ [x]).length : Nat) : Int)) ∧ (agr (cl L) (pre ++ [x]) ∧ Below (b7 + 1) w7 W')) := fun W' h1 h2 h3 => ⟨by rw [List.length_append]; exact h2, h3, h1⟩
    obtain ⟨pl, pt⟩ := x
    dsimp only at cx0 cx1 HAG
    clear h8 hB ha hx RD
    generalize (cl L).getD pre.length [] = q at *
    generalize str (text pt) = st at *
    generalize wide pt = wd at *
    generalize str (text q) = st2 at *
    generalize wide q = wd2 at *
    generalize ptN (cl L) pre.length = pn at *
    generalize pre.length = k at *
    replace r1 : W.cell? ⟨g5, 0 + k * 2, none⟩ = some (.string st2) := by rw [Nat.zero_add]; exact r1
    replace r2 : W.cell? ⟨g5, 0 + k * 2 + 1, none⟩ = some (.int .i64 (wd2 : Nat)) := by rw [Nat.zero_add]; exact r2
    replace r3 : W.cell? ⟨h6, 0 + k * 1, none⟩ = some (.int .i64 (pn : Nat)) := by rw [Nat.zero_add, Nat.mul_one]; exact r3
    obtain ⟨it1, hi1, -, hi2, -⟩ := info_parts info_int1
    obtain ⟨it2, hj1, -, hj2, -⟩ := info_parts info_clu
    by_cases hp : pl = pn
    · subst hp
      have hp1 : ((pl : Int) != (pl : Int)) = false := by simp
      by_cases hq : st = st2
      · subst hq
        by_cases hr : wd = wd2
        · subst hr
          have hq2 : (!((st.toList == st.toList) && ((wd : Int) == (wd : Int)))) = false := by simp
          gi_wp2_with fail
          refine lex.regionIn (fun _ W' => W' = W.drew) (fun _ => trivial) (by kernel_rfl) (by kernel_rfl) (by kernel_rfl) rfl ?_
          refine lex.begin 145 rfl ?_
          refine lex.o_pure (.int .i64 (k : Nat)) (fun _ _ h => by subst h; exact lex.run_load rfl rfl Try.underlying3 rfl cn) ?_
          refine lex.o_pure (.slice (some ⟨g5, 0, none⟩) (cl L).length c5) (fun _ _ h => by subst h; exact lex.run_load rfl rfl Try.underlying22 rfl c5x) ?_
          refine lex.o_pure (.int .i64 ((cl L).length : Nat)) (fun _ _ h => by subst h; exact lex.run_lenC rfl rfl) ?_
          refine lex.o_pure (.bool false) (fun _ _ h => by subst h; exact lex.run_geq rfl rfl rfl (decide_eq_false (by omega))) ?_
          refine lex.o_pure (.bool false) (fun _ _ h => by subst h; exact lex.run_move rfl rfl) ?_
          refine lex.o_pure (.int .i64 (pl : Nat)) (fun _ _ h => by subst h; exact lex.run_move rfl rfl) ?_
          refine lex.o_pure (.slice (some ⟨h6, 0, none⟩) (cl L).length c6) (fun _ _ h => by subst h; exact lex.run_load rfl rfl Try.underlying24 rfl c6x) ?_
          refine lex.o_pure (.int .i64 (k : Nat)) (fun _ _ h => by subst h; exact lex.run_load rfl rfl Try.underlying3 rfl cn) ?_
          refine lex.o_pure (.pointer (some ⟨h6, 0 + k * 1, none⟩)) (fun _ _ h => by subst h; exact lex.run_at (size := 1) rfl rfl rfl hlt Try.underlying24 hi1 hi2) ?_
          refine lex.o_pure (.int .i64 (pl : Nat)) (fun _ _ h => by subst h; exact lex.run_load rfl rfl Try.underlying3 rfl r3) ?_
          refine lex.o_pure (.bool false) (fun _ _ h => by subst h; exact lex.run_neqI rfl rfl rfl hp1) ?_
          refine lex.o_pure (.bool false) (fun _ _ h => by subst h; exact lex.run_pick rfl rfl rfl) ?_
          refine lex.o_pure (.bool false) (fun _ _ h => by subst h; exact lex.run_move rfl rfl) ?_
          refine lex.o_pure (.agg #[.string st, .int .i64 (wd : Nat)]) (fun _ _ h => by subst h; exact lex.load_clu rfl rfl cx0 cx1) ?_
          refine lex.o_pure (.slice (some ⟨g5, 0, none⟩) (cl L).length c5) (fun _ _ h => by subst h; exact lex.run_load rfl rfl Try.underlying22 rfl c5x) ?_
          refine lex.o_pure (.int .i64 (k : Nat)) (fun _ _ h => by subst h; exact lex.run_load rfl rfl Try.underlying3 rfl cn) ?_
          refine lex.o_pure (.pointer (some ⟨g5, 0 + k * 2, none⟩)) (fun _ _ h => by subst h; exact lex.run_at (size := 2) rfl rfl rfl hlt Try.underlying22 hj1 hj2) ?_
          refine lex.o_pure (.agg #[.string st, .int .i64 (wd : Nat)]) (fun _ _ h => by subst h; exact lex.load_clu rfl rfl r1 r2) ?_
          refine lex.o_pure (.bool false) (fun _ _ h => by subst h; exact lex.neq_clu rfl rfl rfl hq2) ?_
          refine lex.o_pure (.bool false) (fun _ _ h => by subst h; exact lex.run_pick rfl rfl rfl) ?_
          refine lex.o_end_at { tmps := #[.string s, .int .i64 most, undef, .pointer (some ⟨w.heap.size, 0, none⟩), .pointer (some ⟨w.heap.size + 1, 0, none⟩), .pointer (some ⟨b5, 0, none⟩), .pointer (some ⟨b6, 0, none⟩), .pointer (some ⟨b7, 0, none⟩), .pointer (some ⟨b7 + 1, 0, none⟩), .int .i64 (pl : Nat), .pointer (some ⟨Bx, 0, none⟩), undef, undef, undef, undef, undef, undef, undef, .string s, .slice (some ⟨g5, 0, none⟩) (cl L).length c5, .slice (some ⟨g5, 0, none⟩) (cl L).length c5, .slice (some ⟨h6, 0, none⟩) (cl L).length c6, .string s, .func (.func 11) #[] #[.pointer (some ⟨BB, 0, none⟩)], .func (.func 11) #[] #[.pointer (some ⟨BB, 0, none⟩)], .bool false, .func (.func 11) #[] #[.pointer (some ⟨BB, 0, none⟩)], .int .i64 (pl : Nat), cv pt, .int .i64 (k : Nat), .slice (some ⟨g5, 0, none⟩) (cl L).length c5, .int .i64 ((cl L).length : Nat), .bool false, .bool false, .int .i64 (pl : Nat), .slice (some ⟨h6, 0, none⟩) (cl L).length c6, .int .i64 (k : Nat), .pointer (some ⟨h6, 0 + k * 1, none⟩), .int .i64 (pl : Nat), .bool false, .bool false, .bool false, .agg #[.string st, .int .i64 (wd : Nat)], .slice (some ⟨g5, 0, none⟩) (cl L).length c5, .int .i64 (k : Nat), .pointer (some ⟨g5, 0 + k * 2, none⟩), .agg #[.string st, .int .i64 (wd : Nat)], .bool false, .bool false, undef, undef, undef, undef, undef, undef, undef, undef, undef, undef, undef, undef, undef, undef, undef, undef, undef, undef, undef, undef, undef, undef, undef, undef, undef, undef, undef, undef, undef, undef, undef, undef, undef, undef, undef, undef, undef, undef, undef, undef, undef, undef, undef, undef, undef, undef, undef, undef, undef, undef, undef, undef, undef, undef, undef, undef, undef, undef, undef, undef, undef, undef, undef, undef, undef, undef, undef, undef, undef, undef, undef, undef, undef, undef, undef, undef, undef, undef, undef, undef, undef, undef, undef, undef, undef, undef, undef, undef, undef, undef, undef, undef, undef, undef, undef, undef], defers := [] } (by kernel_rfl) ?_
          rintro W' d - rfl
          gi_wp2
          exact ⟨((KeepsOthers.setCell _ _ _).trans (KeepsOthers.drew _)).from _, ⟨by simp [World.setCell], Below.heap_setCell _ _ _ _ (by show b ≠ b7 + 1; omega)⟩, HIN.out _ ((HB.out.setCell (p := ⟨b7 + 1, 0, none⟩) (by show b7 + 1 ≤ b7 + 1; omega) _).trans ⟨rfl, rfl, rfl, Nat.le_refl _, fun _ _ => rfl⟩) (H8.out.set _) (HAG.out.2 (by first | exact ⟨rfl, rfl, rfl⟩ | simp))⟩
        · have hq2 : (!((st.toList == st.toList) && ((wd : Int) == (wd2 : Int)))) = true := by simp; omega
          gi_wp2_with fail
          refine lex.regionIn (fun _ W' => W' = W.drew) (fun _ => trivial) (by kernel_rfl) (by kernel_rfl) (by kernel_rfl) rfl ?_
          refine lex.begin 145 rfl ?_
          refine lex.o_pure (.int .i64 (k : Nat)) (fun _ _ h => by subst h; exact lex.run_load rfl rfl Try.underlying3 rfl cn) ?_
          refine lex.o_pure (.slice (some ⟨g5, 0, none⟩) (cl L).length c5) (fun _ _ h => by subst h; exact lex.run_load rfl rfl Try.underlying22 rfl c5x) ?_
          refine lex.o_pure (.int .i64 ((cl L).length : Nat)) (fun _ _ h => by subst h; exact lex.run_lenC rfl rfl) ?_
          refine lex.o_pure (.bool false) (fun _ _ h => by subst h; exact lex.run_geq rfl rfl rfl (decide_eq_false (by omega))) ?_
          refine lex.o_pure (.bool false) (fun _ _ h => by subst h; exact lex.run_move rfl rfl) ?_
          refine lex.o_pure (.int .i64 (pl : Nat)) (fun _ _ h => by subst h; exact lex.run_move rfl rfl) ?_
          refine lex.o_pure (.slice (some ⟨h6, 0, none⟩) (cl L).length c6) (fun _ _ h => by subst h; exact lex.run_load rfl rfl Try.underlying24 rfl c6x) ?_
          refine lex.o_pure (.int .i64 (k : Nat)) (fun _ _ h => by subst h; exact lex.run_load rfl rfl Try.underlying3 rfl cn) ?_
          refine lex.o_pure (.pointer (some ⟨h6, 0 + k * 1, none⟩)) (fun _ _ h => by subst h; exact lex.run_at (size := 1) rfl rfl rfl hlt Try.underlying24 hi1 hi2) ?_
          refine lex.o_pure (.int .i64 (pl : Nat)) (fun _ _ h => by subst h; exact lex.run_load rfl rfl Try.underlying3 rfl r3) ?_
          refine lex.o_pure (.bool false) (fun _ _ h => by subst h; exact lex.run_neqI rfl rfl rfl hp1) ?_
          refine lex.o_pure (.bool false) (fun _ _ h => by subst h; exact lex.run_pick rfl rfl rfl) ?_
          refine lex.o_pure (.bool false) (fun _ _ h => by subst h; exact lex.run_move rfl rfl) ?_
          refine lex.o_pure (.agg #[.string st, .int .i64 (wd : Nat)]) (fun _ _ h => by subst h; exact lex.load_clu rfl rfl cx0 cx1) ?_
          refine lex.o_pure (.slice (some ⟨g5, 0, none⟩) (cl L).length c5) (fun _ _ h => by subst h; exact lex.run_load rfl rfl Try.underlying22 rfl c5x) ?_
          refine lex.o_pure (.int .i64 (k : Nat)) (fun _ _ h => by subst h; exact lex.run_load rfl rfl Try.underlying3 rfl cn) ?_
          refine lex.o_pure (.pointer (some ⟨g5, 0 + k * 2, none⟩)) (fun _ _ h => by subst h; exact lex.run_at (size := 2) rfl rfl rfl hlt Try.underlying22 hj1 hj2) ?_
          refine lex.o_pure (.agg #[.string st, .int .i64 (wd2 : Nat)]) (fun _ _ h => by subst h; exact lex.load_clu rfl rfl r1 r2) ?_
          refine lex.o_pure (.bool true) (fun _ _ h => by subst h; exact lex.neq_clu rfl rfl rfl hq2) ?_
          refine lex.o_pure (.bool true) (fun _ _ h => by subst h; exact lex.run_pick rfl rfl rfl) ?_
          refine lex.o_end_at { tmps := #[.string s, .int .i64 most, undef, .pointer (some ⟨w.heap.size, 0, none⟩), .pointer (some ⟨w.heap.size + 1, 0, none⟩), .pointer (some ⟨b5, 0, none⟩), .pointer (some ⟨b6, 0, none⟩), .pointer (some ⟨b7, 0, none⟩), .pointer (some ⟨b7 + 1, 0, none⟩), .int .i64 (pl : Nat), .pointer (some ⟨Bx, 0, none⟩), undef, undef, undef, undef, undef, undef, undef, .string s, .slice (some ⟨g5, 0, none⟩) (cl L).length c5, .slice (some ⟨g5, 0, none⟩) (cl L).length c5, .slice (some ⟨h6, 0, none⟩) (cl L).length c6, .string s, .func (.func 11) #[] #[.pointer (some ⟨BB, 0, none⟩)], .func (.func 11) #[] #[.pointer (some ⟨BB, 0, none⟩)], .bool false, .func (.func 11) #[] #[.pointer (some ⟨BB, 0, none⟩)], .int .i64 (pl : Nat), cv pt, .int .i64 (k : Nat), .slice (some ⟨g5, 0, none⟩) (cl L).length c5, .int .i64 ((cl L).length : Nat), .bool false, .bool false, .int .i64 (pl : Nat), .slice (some ⟨h6, 0, none⟩) (cl L).length c6, .int .i64 (k : Nat), .pointer (some ⟨h6, 0 + k * 1, none⟩), .int .i64 (pl : Nat), .bool false, .bool false, .bool false, .agg #[.string st, .int .i64 (wd : Nat)], .slice (some ⟨g5, 0, none⟩) (cl L).length c5, .int .i64 (k : Nat), .pointer (some ⟨g5, 0 + k * 2, none⟩), .agg #[.string st, .int .i64 (wd2 : Nat)], .bool true, .bool true, undef, undef, undef, undef, undef, undef, undef, undef, undef, undef, undef, undef, undef, undef, undef, undef, undef, undef, undef, undef, undef, undef, undef, undef, undef, undef, undef, undef, undef, undef, undef, undef, undef, undef, undef, undef, undef, undef, undef, undef, undef, undef, undef, undef, undef, undef, undef, undef, undef, undef, undef, undef, undef, undef, undef, undef, undef, undef, undef, undef, undef, undef, undef, undef, undef, undef, undef, undef, undef, undef, undef, undef, undef, undef, undef, undef, undef, undef, undef, undef, undef, undef, undef, undef, undef, undef, undef, undef, undef, undef, undef, undef, undef, undef, undef, undef], defers := [] } (by kernel_rfl) ?_
          rintro W' d - rfl
          gi_wp2
          exact ⟨((KeepsOthers.setCell _ _ _).trans (KeepsOthers.drew _)).from _, rfl, fun h => hr (HAG.out.1 h).2.2⟩
      · have hq2 : (!((st.toList == st2.toList) && ((wd : Int) == (wd2 : Int)))) = true := by rw [toList_eq_iff, decide_eq_false hq]; rfl
        gi_wp2_with fail
        refine lex.regionIn (fun _ W' => W' = W.drew) (fun _ => trivial) (by kernel_rfl) (by kernel_rfl) (by kernel_rfl) rfl ?_
        refine lex.begin 145 rfl ?_
        refine lex.o_pure (.int .i64 (k : Nat)) (fun _ _ h => by subst h; exact lex.run_load rfl rfl Try.underlying3 rfl cn) ?_
        refine lex.o_pure (.slice (some ⟨g5, 0, none⟩) (cl L).length c5) (fun _ _ h => by subst h; exact lex.run_load rfl rfl Try.underlying22 rfl c5x) ?_
        refine lex.o_pure (.int .i64 ((cl L).length : Nat)) (fun _ _ h => by subst h; exact lex.run_lenC rfl rfl) ?_
        refine lex.o_pure (.bool false) (fun _ _ h => by subst h; exact lex.run_geq rfl rfl rfl (decide_eq_false (by omega))) ?_
        refine lex.o_pure (.bool false) (fun _ _ h => by subst h; exact lex.run_move rfl rfl) ?_
        refine lex.o_pure (.int .i64 (pl : Nat)) (fun _ _ h => by subst h; exact lex.run_move rfl rfl) ?_
        refine lex.o_pure (.slice (some ⟨h6, 0, none⟩) (cl L).length c6) (fun _ _ h => by subst h; exact lex.run_load rfl rfl Try.underlying24 rfl c6x) ?_
        refine lex.o_pure (.int .i64 (k : Nat)) (fun _ _ h => by subst h; exact lex.run_load rfl rfl Try.underlying3 rfl cn) ?_
        refine lex.o_pure (.pointer (some ⟨h6, 0 + k * 1, none⟩)) (fun _ _ h => by subst h; exact lex.run_at (size := 1) rfl rfl rfl hlt Try.underlying24 hi1 hi2) ?_
        refine lex.o_pure (.int .i64 (pl : Nat)) (fun _ _ h => by subst h; exact lex.run_load rfl rfl Try.underlying3 rfl r3) ?_
        refine lex.o_pure (.bool false) (fun _ _ h => by subst h; exact lex.run_neqI rfl rfl rfl hp1) ?_
        refine lex.o_pure (.bool false) (fun _ _ h => by subst h; exact lex.run_pick rfl rfl rfl) ?_
        refine lex.o_pure (.bool false) (fun _ _ h => by subst h; exact lex.run_move rfl rfl) ?_
        refine lex.o_pure (.agg #[.string st, .int .i64 (wd : Nat)]) (fun _ _ h => by subst h; exact lex.load_clu rfl rfl cx0 cx1) ?_
        refine lex.o_pure (.slice (some ⟨g5, 0, none⟩) (cl L).length c5) (fun _ _ h => by subst h; exact lex.run_load rfl rfl Try.underlying22 rfl c5x) ?_
        refine lex.o_pure (.int .i64 (k : Nat)) (fun _ _ h => by subst h; exact lex.run_load rfl rfl Try.underlying3 rfl cn) ?_
        refine lex.o_pure (.pointer (some ⟨g5, 0 + k * 2, none⟩)) (fun _ _ h => by subst h; exact lex.run_at (size := 2) rfl rfl rfl hlt Try.underlying22 hj1 hj2) ?_
        refine lex.o_pure (.agg #[.string st2, .int .i64 (wd2 : Nat)]) (fun _ _ h => by subst h; exact lex.load_clu rfl rfl r1 r2) ?_
        refine lex.o_pure (.bool true) (fun _ _ h => by subst h; exact lex.neq_clu rfl rfl rfl hq2) ?_
        refine lex.o_pure (.bool true) (fun _ _ h => by subst h; exact lex.run_pick rfl rfl rfl) ?_
        refine lex.o_end_at { tmps := #[.string s, .int .i64 most, undef, .pointer (some ⟨w.heap.size, 0, none⟩), .pointer (some ⟨w.heap.size + 1, 0, none⟩), .pointer (some ⟨b5, 0, none⟩), .pointer (some ⟨b6, 0, none⟩), .pointer (some ⟨b7, 0, none⟩), .pointer (some ⟨b7 + 1, 0, none⟩), .int .i64 (pl : Nat), .pointer (some ⟨Bx, 0, none⟩), undef, undef, undef, undef, undef, undef, undef, .string s, .slice (some ⟨g5, 0, none⟩) (cl L).length c5, .slice (some ⟨g5, 0, none⟩) (cl L).length c5, .slice (some ⟨h6, 0, none⟩) (cl L).length c6, .string s, .func (.func 11) #[] #[.pointer (some ⟨BB, 0, none⟩)], .func (.func 11) #[] #[.pointer (some ⟨BB, 0, none⟩)], .bool false, .func (.func 11) #[] #[.pointer (some ⟨BB, 0, none⟩)], .int .i64 (pl : Nat), cv pt, .int .i64 (k : Nat), .slice (some ⟨g5, 0, none⟩) (cl L).length c5, .int .i64 ((cl L).length : Nat), .bool false, .bool false, .int .i64 (pl : Nat), .slice (some ⟨h6, 0, none⟩) (cl L).length c6, .int .i64 (k : Nat), .pointer (some ⟨h6, 0 + k * 1, none⟩), .int .i64 (pl : Nat), .bool false, .bool false, .bool false, .agg #[.string st, .int .i64 (wd : Nat)], .slice (some ⟨g5, 0, none⟩) (cl L).length c5, .int .i64 (k : Nat), .pointer (some ⟨g5, 0 + k * 2, none⟩), .agg #[.string st2, .int .i64 (wd2 : Nat)], .bool true, .bool true, undef, undef, undef, undef, undef, undef, undef, undef, undef, undef, undef, undef, undef, undef, undef, undef, undef, undef, undef, undef, undef, undef, undef, undef, undef, undef, undef, undef, undef, undef, undef, undef, undef, undef, undef, undef, undef, undef, undef, undef, undef, undef, undef, undef, undef, undef, undef, undef, undef, undef, undef, undef, undef, undef, undef, undef, undef, undef, undef, undef, undef, undef, undef, undef, undef, undef, undef, undef, undef, undef, undef, undef, undef, undef, undef, undef, undef, undef, undef, undef, undef, undef, undef, undef, undef, undef, undef, undef, undef, undef, undef, undef, undef, undef, undef, undef], defers := [] } (by kernel_rfl) ?_
        rintro W' d - rfl
        gi_wp2
        exact ⟨((KeepsOthers.setCell _ _ _).trans (KeepsOthers.drew _)).from _, rfl, fun h => hq (HAG.out.1 h).2.1⟩
    · have hp1 : ((pl : Int) != (pn : Int)) = true := by simp; omega
      gi_wp2_with fail
      refine lex.regionIn (fun _ W' => W' = W.drew) (fun _ => trivial) (by kernel_rfl) (by kernel_rfl) (by kernel_rfl) rfl ?_
      refine lex.begin 145 rfl ?_
      refine lex.o_pure (.int .i64 (k : Nat)) (fun _ _ h => by subst h; exact lex.run_load rfl rfl Try.underlying3 rfl cn) ?_
      refine lex.o_pure (.slice (some ⟨g5, 0, none⟩) (cl L).length c5) (fun _ _ h => by subst h; exact lex.run_load rfl rfl Try.underlying22 rfl c5x) ?_
      refine lex.o_pure (.int .i64 ((cl L).length : Nat)) (fun _ _ h => by subst h; exact lex.run_lenC rfl rfl) ?_
      refine lex.o_pure (.bool false) (fun _ _ h => by subst h; exact lex.run_geq rfl rfl rfl (decide_eq_false (by omega))) ?_
      refine lex.o_pure (.bool false) (fun _ _ h => by subst h; exact lex.run_move rfl rfl) ?_
      refine lex.o_pure (.int .i64 (pl : Nat)) (fun _ _ h => by subst h; exact lex.run_move rfl rfl) ?_
      refine lex.o_pure (.slice (some ⟨h6, 0, none⟩) (cl L).length c6) (fun _ _ h => by subst h; exact lex.run_load rfl rfl Try.underlying24 rfl c6x) ?_
      refine lex.o_pure (.int .i64 (k : Nat)) (fun _ _ h => by subst h; exact lex.run_load rfl rfl Try.underlying3 rfl cn) ?_
      refine lex.o_pure (.pointer (some ⟨h6, 0 + k * 1, none⟩)) (fun _ _ h => by subst h; exact lex.run_at (size := 1) rfl rfl rfl hlt Try.underlying24 hi1 hi2) ?_
      refine lex.o_pure (.int .i64 (pn : Nat)) (fun _ _ h => by subst h; exact lex.run_load rfl rfl Try.underlying3 rfl r3) ?_
      refine lex.o_pure (.bool true) (fun _ _ h => by subst h; exact lex.run_neqI rfl rfl rfl hp1) ?_
      refine lex.o_pure (.bool true) (fun _ _ h => by subst h; exact lex.run_pick rfl rfl rfl) ?_
      refine lex.o_pure (.bool true) (fun _ _ h => by subst h; exact lex.run_move rfl rfl) ?_
      refine lex.o_skip ?_
      refine lex.o_skip ?_
      refine lex.o_skip ?_
      refine lex.o_skip ?_
      refine lex.o_skip ?_
      refine lex.o_skip ?_
      refine lex.o_pure (.bool true) (fun _ _ h => by subst h; exact lex.run_pick rfl rfl rfl) ?_
      refine lex.o_end_at { tmps := #[.string s, .int .i64 most, undef, .pointer (some ⟨w.heap.size, 0, none⟩), .pointer (some ⟨w.heap.size + 1, 0, none⟩), .pointer (some ⟨b5, 0, none⟩), .pointer (some ⟨b6, 0, none⟩), .pointer (some ⟨b7, 0, none⟩), .pointer (some ⟨b7 + 1, 0, none⟩), .int .i64 (pl : Nat), .pointer (some ⟨Bx, 0, none⟩), undef, undef, undef, undef, undef, undef, undef, .string s, .slice (some ⟨g5, 0, none⟩) (cl L).length c5, .slice (some ⟨g5, 0, none⟩) (cl L).length c5, .slice (some ⟨h6, 0, none⟩) (cl L).length c6, .string s, .func (.func 11) #[] #[.pointer (some ⟨BB, 0, none⟩)], .func (.func 11) #[] #[.pointer (some ⟨BB, 0, none⟩)], .bool false, .func (.func 11) #[] #[.pointer (some ⟨BB, 0, none⟩)], .int .i64 (pl : Nat), cv pt, .int .i64 (k : Nat), .slice (some ⟨g5, 0, none⟩) (cl L).length c5, .int .i64 ((cl L).length : Nat), .bool false, .bool false, .int .i64 (pl : Nat), .slice (some ⟨h6, 0, none⟩) (cl L).length c6, .int .i64 (k : Nat), .pointer (some ⟨h6, 0 + k * 1, none⟩), .int .i64 (pn : Nat), .bool true, .bool true, .bool true, undef, undef, undef, undef, undef, undef, .bool true, undef, undef, undef, undef, undef, undef, undef, undef, undef, undef, undef, undef, undef, undef, undef, undef, undef, undef, undef, undef, undef, undef, undef, undef, undef, undef, undef, undef, undef, undef, undef, undef, undef, undef, undef, undef, undef, undef, undef, undef, undef, undef, undef, undef, undef, undef, undef, undef, undef, undef, undef, undef, undef, undef, undef, undef, undef, undef, undef, undef, undef, undef, undef, undef, undef, undef, undef, undef, undef, undef, undef, undef, undef, undef, undef, undef, undef, undef, undef, undef, undef, undef, undef, undef, undef, undef, undef, undef, undef, undef, undef, undef, undef, undef, undef, undef], defers := [] } (by kernel_rfl) ?_
      rintro W' d - rfl
      gi_wp2
      exact ⟨((KeepsOthers.setCell _ _ _).trans (KeepsOthers.drew _)).from _, rfl, fun h => hp (HAG.out.1 h).1⟩
  case done =>
    rintro D1 ys W hD1 rfl ⟨h8, ha, hB⟩ hK1
    have hsW := hB.size
    have c7 := ((HM7.out W hB).alloc (.cells #[.int .i64 0] 3)).cell
    have X11 := run.hid (Boxed.new W 3 (.int .i64 0))
    have hbz2 := run.below_one W (.cells #[.int .i64 0] 3)
    have H8 := run.hid (show Boxed (W.alloc (.cells #[.int .i64 0] 3)) (b7 + 1) 3 (.int .i64 ((cl L).length : Nat)) by rw [placed_length] at h8; exact h8.alloc _)
    have hK1' := run.hid ((run.heap_old W (.cells #[.int .i64 0] 3) (Array.getElem?_eq_some_iff.1 hK1).1).trans hK1)
    have hD1' := (Array.getElem?_eq_some_iff.1 hK1).1
    have hW8 : (W.alloc (.cells #[.int .i64 0] 3)).heap.size = W.heap.size + 1 := by simp
    have HB8 := run.hid (hB.alloc (by omega) (.cells #[.int .i64 0] 3))
    clear ha h8 hK1
    gi_wp2_with fail
    clear c7
    generalize W.alloc (.cells #[.int .i64 0] 3) = w8 at *
    generalize hb11 : W.heap.size = b11 at *
    clear hb11
    refine wpIn_rangeFunc_ownH rfl (by decide) (gf := 11) (lb := #[.pointer (some ⟨BB, 0, none⟩)]) rfl trivial (enters_of Try.func11 (by kernel_rfl) rfl)
      (HSTOP.out 8 w8 (by decide) HB8.out) KeepsB.trans (keepsB_b (by omega)) (Below.refl _ _) (fun _ => rfl)
      (fun pre W => Boxed W b11 3 (.int .i64 (pre.length : Nat)) ∧ ((agr (cl L) pre ∧ (pre.length = 0 ∨ (pre.length : Int) ≤ most)) ∧ Below b11 w8 W))
      (fun c pre W => (c = .ret ∧ ¬ agr (cl L) pre) ∨ (c = .exit 2 ∧ (Boxed W b11 3 (.int .i64 ((pre.length : Int) - 1)) ∧ (1 ≤ pre.length ∧ most ≤ (pre.length : Int) - 1 ∧ (pre.length = 1 ∨ (pre.length : Int) - 1 ≤ most)) ∧ Below b11 w8 W)))
      (OwnFrom.and (Own.from (boxed_own b11 3 (fun pre : List (Nat × List Int) => .int .i64 (pre.length : Nat))) _) (OwnFrom.and (ownFrom_pure _ (fun pre : List (Nat × List Int) => agr (cl L) pre ∧ (pre.length = 0 ∨ (pre.length : Int) ≤ most))) (ownFrom_below (by omega) (by omega))))
      (fun c => ownFrom_or (ownFrom_pure _ (fun pre : List (Nat × List Int) => c = .ret ∧ ¬ agr (cl L) pre)) (OwnFrom.and (ownFrom_pure _ (fun _ : List (Nat × List Int) => c = .exit 2)) (OwnFrom.and (Own.from (boxed_own b11 3 (fun pre : List (Nat × List Int) => .int .i64 ((pre.length : Int) - 1))) _) (OwnFrom.and (ownFrom_pure _ (fun pre : List (Nat × List Int) => 1 ≤ pre.length ∧ most ≤ (pre.length : Int) - 1 ∧ (pre.length = 1 ∨ (pre.length : Int) - 1 ≤ most))) (ownFrom_below (by omega) (by omega))))))
      ⟨X11.out, ⟨agr_nil _, .inl rfl⟩, Below.refl _ _⟩
      (fun x a' W => ∃ Bx, Boxed2 W Bx 30 (.string (str (text x.2))) (.int .i64 (wide x.2)) ∧ a' = { tmps := #[.string s, .int .i64 most, undef, .pointer (some ⟨w.heap.size, 0, none⟩), .pointer (some ⟨w.heap.size + 1, 0, none⟩), .pointer (some ⟨b5, 0, none⟩), .pointer (some ⟨b6, 0, none⟩), .pointer (some ⟨b7, 0, none⟩), .pointer (some ⟨b7 + 1, 0, none⟩), undef, undef, .pointer (some ⟨b11, 0, none⟩), .int .i64 (x.1 : Nat), .pointer (some ⟨Bx, 0, none⟩), undef, undef, undef, undef, .string s, .slice a5 (cl L).length c5, .slice a5 (cl L).length c5, .slice a6 (cl L).length c6, .string s, .func (.func 11) #[] #[.pointer (some ⟨BB, 0, none⟩)], .func (.func 11) #[] #[.pointer (some ⟨BB, 0, none⟩)], .bool false, .func (.func 11) #[] #[.pointer (some ⟨BB, 0, none⟩)], undef, undef, undef, undef, undef, undef, undef, undef, undef, undef, undef, undef, undef, undef, undef, undef, undef, undef, undef, undef, undef, undef, undef, undef, .func (.func 11) #[] #[.pointer (some ⟨BB, 0, none⟩)], .int .i64 (x.1 : Nat), cv x.2, undef, undef, undef, undef, undef, undef, undef, undef, undef, undef, undef, undef, undef, undef, undef, undef, undef, undef, undef, undef, undef, undef, undef, undef, undef, undef, undef, undef, undef, undef, undef, undef, undef, undef, undef, undef, undef, undef, undef, undef, undef, undef, undef, undef, undef, undef, undef, undef, undef, undef, undef, undef, undef, undef, undef, undef, undef, undef, undef, undef, undef, undef, undef, undef, undef, undef, undef, undef, undef, undef, undef, undef, undef, undef, undef, undef, undef, undef, undef, undef, undef, undef, undef, undef, undef, undef, undef, undef, undef, undef, undef], defers := [] })
      (fun x a' _ X Y row ⟨Bx, h2, h3⟩ hg hr => ⟨Bx, boxed2_own (β := Unit) Bx _ (fun _ => _) (fun _ => _) () X Y row h2 hg (fun r e => (hr r e).2), h3⟩) ?assign2 ?body2 ?done2 ?stop2
    case assign2 =>
      rintro l pre x W K ⟨h8, ha, hB⟩ hK
      have hsW := hB.size
      dsimp only [encs, cv] at hK ⊢
      gi_wp2
      exact hK _ _ ((KeepsOthers.alloc W _).from _) ⟨by simp, run.heap_old W _ (by omega)⟩ ⟨h8.alloc _, ha, hB.alloc (by omega) _⟩ ⟨W.heap.size, run.heap_new W _, rfl⟩
    case body2 =>
      rintro l pre x a' W hl' hr' ⟨h8, ⟨ha, hmm⟩, hB⟩ ⟨Bx, hx, rfl⟩ hlt
      rw [placed_length] at hlt
      have hsW := hB.size
      have hB7 := HB8.out.trans (hB.mono (by omega))
      have RD := HRD.out W hB7
      have c3 := (HM0.out W hB7).cell
      obtain ⟨g5, h6, rfl, rfl, r1, r2, r3⟩ := RD.r pre.length hlt
      have cn := h8.cell
      have fn := h8.frozen
      have c5x := RD.w5.cell
      have c6x := RD.w6.cell
      have cx0 : W.cell? ⟨Bx, 0, none⟩ = some (.string (str (text x.2))) := by simp [World.cell?, show W.heap[Bx]? = _ from hx]
      have cx1 : W.cell? ⟨Bx, 1, none⟩ = some (.int .i64 (wide x.2)) := by simp [World.cell?, show W.heap[Bx]? = _ from hx]
      have mr := (HM1.out W hB7).cell
      have fr := (HM1.out W hB7).frozen
      have HAG := run.hid (agr_snoc (x := x) ha hlt)
      have H8 := run.hid h8
      have HB := run.hid hB
      have HIN : Hid (∀ W', Below b11 w8 W' → Boxed W' b11 3 (.int .i64 ((pre.length : Int) + 1)) → agr (cl L) (pre ++ [x]) → (pre.length : Int) + 1 ≤ most → Boxed W' b11 3 (.int .i64 (((pre ++ [x]).length : Nat) : Int)) ∧ ((agr (cl L) (pre ++ [x]) ∧ ((pre ++ [x]).length = 0 ∨ (((pre ++ [x]).length : Nat) : Int) ≤ most)) ∧ Below b11 w8 W')) := fun W' h1 h2 h3 h4 => ⟨by rw [List.length_append]; exact h2, ⟨h3, .inr (by rw [List.length_append]; exact h4)⟩, h1⟩
      have HEX : Hid (∀ W', Below b11 w8 W' → Boxed W' b11 3 (.int .i64 (pre.length : Nat)) → most ≤ (pre.length : Int) → Boxed W' b11 3 (.int .i64 ((((pre ++ [x]).length : Nat) : Int) - 1)) ∧ (1 ≤ (pre ++ [x]).length ∧ most ≤ (((pre ++ [x]).length : Nat) : Int) - 1 ∧ ((pre ++ [x]).length = 1 ∨ (((pre ++ [x]).length : Nat) : Int) - 1 ≤ most)) ∧ Below b11 w8 W') := fun W' h1 h2 h4 => by
        have e : (((pre ++ [x]).length : Nat) : Int) - 1 = (pre.length : Nat) := by rw [List.length_append, List.length_singleton]; omega
        rw [e]
        exact ⟨h2, ⟨by simp, h4, by rw [List.length_append, List.length_singleton]; omega⟩, h1⟩
      obtain ⟨pl, pt⟩ := x
      dsimp only at cx0 cx1 HAG
      clear h8 hB ha hx RD
      generalize (cl L).getD pre.length [] = q at *
      generalize str (text pt) = st at *
      generalize wide pt = wd at *
      generalize str (text q) = st2 at *
      generalize wide q = wd2 at *
      generalize ptN (cl L) pre.length = pn at *
      generalize pre.length = k at *
      replace r1 : W.cell? ⟨g5, 0 + k * 2, none⟩ = some (.string st2) := by rw [Nat.zero_add]; exact r1
      replace r2 : W.cell? ⟨g5, 0 + k * 2 + 1, none⟩ = some (.int .i64 (wd2 : Nat)) := by rw [Nat.zero_add]; exact r2
      replace r3 : W.cell? ⟨h6, 0 + k * 1, none⟩ = some (.int .i64 (pn : Nat)) := by rw [Nat.zero_add, Nat.mul_one]; exact r3
      obtain ⟨it1, hi1, -, hi2, -⟩ := info_parts info_int1
      obtain ⟨it2, hj1, -, hj2, -⟩ := info_parts info_clu
      by_cases hge : most ≤ (k : Int)
      · clear HIN HAG
        gi_wp2
        exact ⟨(KeepsOthers.refl W).from _, .inr ⟨rfl, HEX.out W HB.out H8.out hge⟩⟩
      have hge2 : (k : Int) + 1 ≤ most := by omega
      clear HEX
      by_cases hp : pl = pn
      · subst hp
        have hp1 : ((pl : Int) != (pl : Int)) = false := by simp
        by_cases hq : st = st2
        · subst hq
          by_cases hr : wd = wd2
          · subst hr
            have hq2 : (!((st.toList == st.toList) && ((wd : Int) == (wd : Int)))) = false := by simp
            gi_wp2_with fail
            refine lex.regionIn (fun _ W' => W' = W.drew) (fun _ => trivial) (by kernel_rfl) (by kernel_rfl) (by kernel_rfl) rfl ?_
            refine lex.begin 145 rfl ?_
            refine lex.o_pure (.int .i64 (k : Nat)) (fun _ _ h => by subst h; exact lex.run_load rfl rfl Try.underlying3 rfl cn) ?_
            refine lex.o_pure (.slice (some ⟨g5, 0, none⟩) (cl L).length c5) (fun _ _ h => by subst h; exact lex.run_load rfl rfl Try.underlying22 rfl c5x) ?_
            refine lex.o_pure (.int .i64 ((cl L).length : Nat)) (fun _ _ h => by subst h; exact lex.run_lenC rfl rfl) ?_
            refine lex.o_pure (.bool false) (fun _ _ h => by subst h; exact lex.run_geq rfl rfl rfl (decide_eq_false (by omega))) ?_
            refine lex.o_pure (.bool false) (fun _ _ h => by subst h; exact lex.run_move rfl rfl) ?_
            refine lex.o_pure (.int .i64 (pl : Nat)) (fun _ _ h => by subst h; exact lex.run_move rfl rfl) ?_
            refine lex.o_pure (.slice (some ⟨h6, 0, none⟩) (cl L).length c6) (fun _ _ h => by subst h; exact lex.run_load rfl rfl Try.underlying24 rfl c6x) ?_
            refine lex.o_pure (.int .i64 (k : Nat)) (fun _ _ h => by subst h; exact lex.run_load rfl rfl Try.underlying3 rfl cn) ?_
            refine lex.o_pure (.pointer (some ⟨h6, 0 + k * 1, none⟩)) (fun _ _ h => by subst h; exact lex.run_at (size := 1) rfl rfl rfl hlt Try.underlying24 hi1 hi2) ?_
            refine lex.o_pure (.int .i64 (pl : Nat)) (fun _ _ h => by subst h; exact lex.run_load rfl rfl Try.underlying3 rfl r3) ?_
            refine lex.o_pure (.bool false) (fun _ _ h => by subst h; exact lex.run_neqI rfl rfl rfl hp1) ?_
            refine lex.o_pure (.bool false) (fun _ _ h => by subst h; exact lex.run_pick rfl rfl rfl) ?_
            refine lex.o_pure (.bool false) (fun _ _ h => by subst h; exact lex.run_move rfl rfl) ?_
            refine lex.o_pure (.agg #[.string st, .int .i64 (wd : Nat)]) (fun _ _ h => by subst h; exact lex.load_clu rfl rfl cx0 cx1) ?_
            refine lex.o_pure (.slice (some ⟨g5, 0, none⟩) (cl L).length c5) (fun _ _ h => by subst h; exact lex.run_load rfl rfl Try.underlying22 rfl c5x) ?_
            refine lex.o_pure (.int .i64 (k : Nat)) (fun _ _ h => by subst h; exact lex.run_load rfl rfl Try.underlying3 rfl cn) ?_
            refine lex.o_pure (.pointer (some ⟨g5, 0 + k * 2, none⟩)) (fun _ _ h => by subst h; exact lex.run_at (size := 2) rfl rfl rfl hlt Try.underlying22 hj1 hj2) ?_
            refine lex.o_pure (.agg #[.string st, .int .i64 (wd : Nat)]) (fun _ _ h => by subst h; exact lex.load_clu rfl rfl r1 r2) ?_
            refine lex.o_pure (.bool false) (fun _ _ h => by subst h; exact lex.neq_clu rfl rfl rfl hq2) ?_
            refine lex.o_pure (.bool false) (fun _ _ h => by subst h; exact lex.run_pick rfl rfl rfl) ?_
            refine lex.o_end_at { tmps := #[.string s, .int .i64 most, undef, .pointer (some ⟨w.heap.size, 0, none⟩), .pointer (some ⟨w.heap.size + 1, 0, none⟩), .pointer (some ⟨b5, 0, none⟩), .pointer (some ⟨b6, 0, none⟩), .pointer (some ⟨b7, 0, none⟩), .pointer (some ⟨b7 + 1, 0, none⟩), undef, undef, .pointer (some ⟨b11, 0, none⟩), .int .i64 (pl : Nat), .pointer (some ⟨Bx, 0, none⟩), undef, undef, undef, undef, .string s, .slice (some ⟨g5, 0, none⟩) (cl L).length c5, .slice (some ⟨g5, 0, none⟩) (cl L).length c5, .slice (some ⟨h6, 0, none⟩) (cl L).length c6, .string s, .func (.func 11) #[] #[.pointer (some ⟨BB, 0, none⟩)], .func (.func 11) #[] #[.pointer (some ⟨BB, 0, none⟩)], .bool false, .func (.func 11) #[] #[.pointer (some ⟨BB, 0, none⟩)], undef, undef, undef, undef, undef, undef, undef, undef, undef, undef, undef, undef, undef, undef, undef, undef, undef, undef, undef, undef, undef, undef, undef, undef, .func (.func 11) #[] #[.pointer (some ⟨BB, 0, none⟩)], .int .i64 (pl : Nat), cv pt, .int .i64 (k : Nat), .int .i64 most, .bool false, .int .i64 (k : Nat), .slice (some ⟨g5, 0, none⟩) (cl L).length c5, .int .i64 ((cl L).length : Nat), .bool false, .bool false, .int .i64 (pl : Nat), .slice (some ⟨h6, 0, none⟩) (cl L).length c6, .int .i64 (k : Nat), .pointer (some ⟨h6, 0 + k * 1, none⟩), .int .i64 (pl : Nat), .bool false, .bool false, .bool false, .agg #[.string st, .int .i64 (wd : Nat)], .slice (some ⟨g5, 0, none⟩) (cl L).length c5, .int .i64 (k : Nat), .pointer (some ⟨g5, 0 + k * 2, none⟩), .agg #[.string st, .int .i64 (wd : Nat)], .bool false, .bool false, undef, undef, undef, undef, undef, undef, undef, undef, undef, undef, undef, undef, undef, undef, undef, undef, undef, undef, undef, undef, undef, undef, undef, undef, undef, undef, undef, undef, undef, undef, undef, undef, undef, undef, undef, undef, undef, undef, undef, undef, undef, undef, undef, undef, undef, undef, undef, undef, undef, undef, undef, undef, undef, undef, undef, undef, undef, undef, undef, undef, undef, undef, undef, undef, undef, undef, undef, undef], defers := [] } (by kernel_rfl) ?_
            rintro W' d - rfl
            gi_wp2
            exact ⟨((KeepsOthers.setCell _ _ _).trans (KeepsOthers.drew _)).from _, ⟨by simp [World.setCell], Below.heap_setCell _ _ _ _ (by show b ≠ b11; omega)⟩, HIN.out _ ((HB.out.setCell (p := ⟨b11, 0, none⟩) (Nat.le_refl b11) _).trans ⟨rfl, rfl, rfl, Nat.le_refl _, fun _ _ => rfl⟩) (H8.out.set _) (HAG.out.2 (by first | exact ⟨rfl, rfl, rfl⟩ | simp)) hge2⟩
          · have hq2 : (!((st.toList == st.toList) && ((wd : Int) == (wd2 : Int)))) = true := by simp; omega
            gi_wp2_with fail
            refine lex.regionIn (fun _ W' => W' = W.drew) (fun _ => trivial) (by kernel_rfl) (by kernel_rfl) (by kernel_rfl) rfl ?_
            refine lex.begin 145 rfl ?_
            refine lex.o_pure (.int .i64 (k : Nat)) (fun _ _ h => by subst h; exact lex.run_load rfl rfl Try.underlying3 rfl cn) ?_
            refine lex.o_pure (.slice (some ⟨g5, 0, none⟩) (cl L).length c5) (fun _ _ h => by subst h; exact lex.run_load rfl rfl Try.underlying22 rfl c5x) ?_
            refine lex.o_pure (.int .i64 ((cl L).length : Nat)) (fun _ _ h => by subst h; exact lex.run_lenC rfl rfl) ?_
            refine lex.o_pure (.bool false) (fun _ _ h => by subst h; exact lex.run_geq rfl rfl rfl (decide_eq_false (by omega))) ?_
            refine lex.o_pure (.bool false) (fun _ _ h => by subst h; exact lex.run_move rfl rfl) ?_
            refine lex.o_pure (.int .i64 (pl : Nat)) (fun _ _ h => by subst h; exact lex.run_move rfl rfl) ?_
            refine lex.o_pure (.slice (some ⟨h6, 0, none⟩) (cl L).length c6) (fun _ _ h => by subst h; exact lex.run_load rfl rfl Try.underlying24 rfl c6x) ?_
            refine lex.o_pure (.int .i64 (k : Nat)) (fun _ _ h => by subst h; exact lex.run_load rfl rfl Try.underlying3 rfl cn) ?_
            refine lex.o_pure (.pointer (some ⟨h6, 0 + k * 1, none⟩)) (fun _ _ h => by subst h; exact lex.run_at (size := 1) rfl rfl rfl hlt Try.underlying24 hi1 hi2) ?_
            refine lex.o_pure (.int .i64 (pl : Nat)) (fun _ _ h => by subst h; exact lex.run_load rfl rfl Try.underlying3 rfl r3) ?_
            refine lex.o_pure (.bool false) (fun _ _ h => by subst h; exact lex.run_neqI rfl rfl rfl hp1) ?_
            refine lex.o_pure (.bool false) (fun _ _ h => by subst h; exact lex.run_pick rfl rfl rfl) ?_
            refine lex.o_pure (.bool false) (fun _ _ h => by subst h; exact lex.run_move rfl rfl) ?_
            refine lex.o_pure (.agg #[.string st, .int .i64 (wd : Nat)]) (fun _ _ h => by subst h; exact lex.load_clu rfl rfl cx0 cx1) ?_
            refine lex.o_pure (.slice (some ⟨g5, 0, none⟩) (cl L).length c5) (fun _ _ h => by subst h; exact lex.run_load rfl rfl Try.underlying22 rfl c5x) ?_
            refine lex.o_pure (.int .i64 (k : Nat)) (fun _ _ h => by subst h; exact lex.run_load rfl rfl Try.underlying3 rfl cn) ?_
            refine lex.o_pure (.pointer (some ⟨g5, 0 + k * 2, none⟩)) (fun _ _ h => by subst h; exact lex.run_at (size := 2) rfl rfl rfl hlt Try.underlying22 hj1 hj2) ?_
            refine lex.o_pure (.agg #[.string st, .int .i64 (wd2 : Nat)]) (fun _ _ h => by subst h; exact lex.load_clu rfl rfl r1 r2) ?_
            refine lex.o_pure (.bool true) (fun _ _ h => by subst h; exact lex.neq_clu rfl rfl rfl hq2) ?_
            refine lex.o_pure (.bool true) (fun _ _ h => by subst h; exact lex.run_pick rfl rfl rfl) ?_
            refine lex.o_end_at { tmps := #[.string s, .int .i64 most, undef, .pointer (some ⟨w.heap.size, 0, none⟩), .pointer (some ⟨w.heap.size + 1, 0, none⟩), .pointer (some ⟨b5, 0, none⟩), .pointer (some ⟨b6, 0, none⟩), .pointer (some ⟨b7, 0, none⟩), .pointer (some ⟨b7 + 1, 0, none⟩), undef, undef, .pointer (some ⟨b11, 0, none⟩), .int .i64 (pl : Nat), .pointer (some ⟨Bx, 0, none⟩), undef, undef, undef, undef, .string s, .slice (some ⟨g5, 0, none⟩) (cl L).length c5, .slice (some ⟨g5, 0, none⟩) (cl L).length c5, .slice (some ⟨h6, 0, none⟩) (cl L).length c6, .string s, .func (.func 11) #[] #[.pointer (some ⟨BB, 0, none⟩)], .func (.func 11) #[] #[.pointer (some ⟨BB, 0, none⟩)], .bool false, .func (.func 11) #[] #[.pointer (some ⟨BB, 0, none⟩)], undef, undef, undef, undef, undef, undef, undef, undef, undef, undef, undef, undef, undef, undef, undef, undef, undef, undef, undef, undef, undef, undef, undef, undef, .func (.func 11) #[] #[.pointer (some ⟨BB, 0, none⟩)], .int .i64 (pl : Nat), cv pt, .int .i64 (k : Nat), .int .i64 most, .bool false, .int .i64 (k : Nat), .slice (some ⟨g5, 0, none⟩) (cl L).length c5, .int .i64 ((cl L).length : Nat), .bool false, .bool false, .int .i64 (pl : Nat), .slice (some ⟨h6, 0, none⟩) (cl L).length c6, .int .i64 (k : Nat), .pointer (some ⟨h6, 0 + k * 1, none⟩), .int .i64 (pl : Nat), .bool false, .bool false, .bool false, .agg #[.string st, .int .i64 (wd : Nat)], .slice (some ⟨g5, 0, none⟩) (cl L).length c5, .int .i64 (k : Nat), .pointer (some ⟨g5, 0 + k * 2, none⟩), .agg #[.string st, .int .i64 (wd2 : Nat)], .bool true, .bool true, undef, undef, undef, undef, undef, undef, undef, undef, undef, undef, undef, undef, undef, undef, undef, undef, undef, undef, undef, undef, undef, undef, undef, undef, undef, undef, undef, undef, undef, undef, undef, undef, undef, undef, undef, undef, undef, undef, undef, undef, undef, undef, undef, undef, undef, undef, undef, undef, undef, undef, undef, undef, undef, undef, undef, undef, undef, undef, undef, undef, undef, undef, undef, undef, undef, undef, undef, undef], defers := [] } (by kernel_rfl) ?_
            rintro W' d - rfl
            gi_wp2
            exact ⟨((KeepsOthers.setCell _ _ _).trans (KeepsOthers.drew _)).from _, .inl ⟨rfl, fun h => hr (HAG.out.1 h).2.2⟩⟩
        · have hq2 : (!((st.toList == st2.toList) && ((wd : Int) == (wd2 : Int)))) = true := by rw [toList_eq_iff, decide_eq_false hq]; rfl
          gi_wp2_with fail
          refine lex.regionIn (fun _ W' => W' = W.drew) (fun _ => trivial) (by kernel_rfl) (by kernel_rfl) (by kernel_rfl) rfl ?_
          refine lex.begin 145 rfl ?_
          refine lex.o_pure (.int .i64 (k : Nat)) (fun _ _ h => by subst h; exact lex.run_load rfl rfl Try.underlying3 rfl cn) ?_
          refine lex.o_pure (.slice (some ⟨g5, 0, none⟩) (cl L).length c5) (fun _ _ h => by subst h; exact lex.run_load rfl rfl Try.underlying22 rfl c5x) ?_
          refine lex.o_pure (.int .i64 ((cl L).length : Nat)) (fun _ _ h => by subst h; exact lex.run_lenC rfl rfl) ?_
          refine lex.o_pure (.bool false) (fun _ _ h => by subst h; exact lex.run_geq rfl rfl rfl (decide_eq_false (by omega))) ?_
          refine lex.o_pure (.bool false) (fun _ _ h => by subst h; exact lex.run_move rfl rfl) ?_
          refine lex.o_pure (.int .i64 (pl : Nat)) (fun _ _ h => by subst h; exact lex.run_move rfl rfl) ?_
          refine lex.o_pure (.slice (some ⟨h6, 0, none⟩) (cl L).length c6) (fun _ _ h => by subst h; exact lex.run_load rfl rfl Try.underlying24 rfl c6x) ?_
          refine lex.o_pure (.int .i64 (k : Nat)) (fun _ _ h => by subst h; exact lex.run_load rfl rfl Try.underlying3 rfl cn) ?_
          refine lex.o_pure (.pointer (some ⟨h6, 0 + k * 1, none⟩)) (fun _ _ h => by subst h; exact lex.run_at (size := 1) rfl rfl rfl hlt Try.underlying24 hi1 hi2) ?_
          refine lex.o_pure (.int .i64 (pl : Nat)) (fun _ _ h => by subst h; exact lex.run_load rfl rfl Try.underlying3 rfl r3) ?_
          refine lex.o_pure (.bool false) (fun _ _ h => by subst h; exact lex.run_neqI rfl rfl rfl hp1) ?_
          refine lex.o_pure (.bool false) (fun _ _ h => by subst h; exact lex.run_pick rfl rfl rfl) ?_
          refine lex.o_pure (.bool false) (fun _ _ h => by subst h; exact lex.run_move rfl rfl) ?_
          refine lex.o_pure (.agg #[.string st, .int .i64 (wd : Nat)]) (fun _ _ h => by subst h; exact lex.load_clu rfl rfl cx0 cx1) ?_
          refine lex.o_pure (.slice (some ⟨g5, 0, none⟩) (cl L).length c5) (fun _ _ h => by subst h; exact lex.run_load rfl rfl Try.underlying22 rfl c5x) ?_
          refine lex.o_pure (.int .i64 (k : Nat)) (fun _ _ h => by subst h; exact lex.run_load rfl rfl Try.underlying3 rfl cn) ?_
          refine lex.o_pure (.pointer (some ⟨g5, 0 + k * 2, none⟩)) (fun _ _ h => by subst h; exact lex.run_at (size := 2) rfl rfl rfl hlt Try.underlying22 hj1 hj2) ?_
          refine lex.o_pure (.agg #[.string st2, .int .i64 (wd2 : Nat)]) (fun _ _ h => by subst h; exact lex.load_clu rfl rfl r1 r2) ?_
          refine lex.o_pure (.bool true) (fun _ _ h => by subst h; exact lex.neq_clu rfl rfl rfl hq2) ?_
          refine lex.o_pure (.bool true) (fun _ _ h => by subst h; exact lex.run_pick rfl rfl rfl) ?_
          refine lex.o_end_at { tmps := #[.string s, .int .i64 most, undef, .pointer (some ⟨w.heap.size, 0, none⟩), .pointer (some ⟨w.heap.size + 1, 0, none⟩), .pointer (some ⟨b5, 0, none⟩), .pointer (some ⟨b6, 0, none⟩), .pointer (some ⟨b7, 0, none⟩), .pointer (some ⟨b7 + 1, 0, none⟩), undef, undef, .pointer (some ⟨b11, 0, none⟩), .int .i64 (pl : Nat), .pointer (some ⟨Bx, 0, none⟩), undef, undef, undef, undef, .string s, .slice (some ⟨g5, 0, none⟩) (cl L).length c5, .slice (some ⟨g5, 0, none⟩) (cl L).length c5, .slice (some ⟨h6, 0, none⟩) (cl L).length c6, .string s, .func (.func 11) #[] #[.pointer (some ⟨BB, 0, none⟩)], .func (.func 11) #[] #[.pointer (some ⟨BB, 0, none⟩)], .bool false, .func (.func 11) #[] #[.pointer (some ⟨BB, 0, none⟩)], undef, undef, undef, undef, undef, undef, undef, undef, undef, undef, undef, undef, undef, undef, undef, undef, undef, undef, undef, undef, undef, undef, undef, undef, .func (.func 11) #[] #[.pointer (some ⟨BB, 0, none⟩)], .int .i64 (pl : Nat), cv pt, .int .i64 (k : Nat), .int .i64 most, .bool false, .int .i64 (k : Nat), .slice (some ⟨g5, 0, none⟩) (cl L).length c5, .int .i64 ((cl L).length : Nat), .bool false, .bool false, .int .i64 (pl : Nat), .slice (some ⟨h6, 0, none⟩) (cl L).length c6, .int .i64 (k : Nat), .pointer (some ⟨h6, 0 + k * 1, none⟩), .int .i64 (pl : Nat), .bool false, .bool false, .bool false, .agg #[.string st, .int .i64 (wd : Nat)], .slice (some ⟨g5, 0, none⟩) (cl L).length c5, .int .i64 (k : Nat), .pointer (some ⟨g5, 0 + k * 2, none⟩), .agg #[.string st2, .int .i64 (wd2 : Nat)], .bool true, .bool true, undef, undef, undef, undef, undef, undef, undef, undef, undef, undef, undef, undef, undef, undef, undef, undef, undef, undef, undef, undef, undef, undef, undef, undef, undef, undef, undef, undef, undef, undef, undef, undef, undef, undef, undef, undef, undef, undef, undef, undef, undef, undef, undef, undef, undef, undef, undef, undef, undef, undef, undef, undef, undef, undef, undef, undef, undef, undef, undef, undef, undef, undef, undef, undef, undef, undef, undef, undef], defers := [] } (by kernel_rfl) ?_
          rintro W' d - rfl
          gi_wp2
          exact ⟨((KeepsOthers.setCell _ _ _).trans (KeepsOthers.drew _)).from _, .inl ⟨rfl, fun h => hq (HAG.out.1 h).2.1⟩⟩
      · have hp1 : ((pl : Int) != (pn : Int)) = true := by simp; omega
        gi_wp2_with fail
        refine lex.regionIn (fun _ W' => W' = W.drew) (fun _ => trivial) (by kernel_rfl) (by kernel_rfl) (by kernel_rfl) rfl ?_
        refine lex.begin 145 rfl ?_
        refine lex.o_pure (.int .i64 (k : Nat)) (fun _ _ h => by subst h; exact lex.run_load rfl rfl Try.underlying3 rfl cn) ?_
        refine lex.o_pure (.slice (some ⟨g5, 0, none⟩) (cl L).length c5) (fun _ _ h => by subst h; exact lex.run_load rfl rfl Try.underlying22 rfl c5x) ?_
        refine lex.o_pure (.int .i64 ((cl L).length : Nat)) (fun _ _ h => by subst h; exact lex.run_lenC rfl rfl) ?_
        refine lex.o_pure (.bool false) (fun _ _ h => by subst h; exact lex.run_geq rfl rfl rfl (decide_eq_false (by omega))) ?_
        refine lex.o_pure (.bool false) (fun _ _ h => by subst h; exact lex.run_move rfl rfl) ?_
        refine lex.o_pure (.int .i64 (pl : Nat)) (fun _ _ h => by subst h; exact lex.run_move rfl rfl) ?_
        refine lex.o_pure (.slice (some ⟨h6, 0, none⟩) (cl L).length c6) (fun _ _ h => by subst h; exact lex.run_load rfl rfl Try.underlying24 rfl c6x) ?_
        refine lex.o_pure (.int .i64 (k : Nat)) (fun _ _ h => by subst h; exact lex.run_load rfl rfl Try.underlying3 rfl cn) ?_
        refine lex.o_pure (.pointer (some ⟨h6, 0 + k * 1, none⟩)) (fun _ _ h => by subst h; exact lex.run_at (size := 1) rfl rfl rfl hlt Try.underlying24 hi1 hi2) ?_
        refine lex.o_pure (.int .i64 (pn : Nat)) (fun _ _ h => by subst h; exact lex.run_load rfl rfl Try.underlying3 rfl r3) ?_
        refine lex.o_pure (.bool true) (fun _ _ h => by subst h; exact lex.run_neqI rfl rfl rfl hp1) ?_
        refine lex.o_pure (.bool true) (fun _ _ h => by subst h; exact lex.run_pick rfl rfl rfl) ?_
        refine lex.o_pure (.bool true) (fun _ _ h => by subst h; exact lex.run_move rfl rfl) ?_
        refine lex.o_skip ?_
        refine lex.o_skip ?_
        refine lex.o_skip ?_
        refine lex.o_skip ?_
        refine lex.o_skip ?_
        refine lex.o_skip ?_
        refine lex.o_pure (.bool true) (fun _ _ h => by subst h; exact lex.run_pick rfl rfl rfl) ?_
        refine lex.o_end_at { tmps := #[.string s, .int .i64 most, undef, .pointer (some ⟨w.heap.size, 0, none⟩), .pointer (some ⟨w.heap.size + 1, 0, none⟩), .pointer (some ⟨b5, 0, none⟩), .pointer (some ⟨b6, 0, none⟩), .pointer (some ⟨b7, 0, none⟩), .pointer (some ⟨b7 + 1, 0, none⟩), undef, undef, .pointer (some ⟨b11, 0, none⟩), .int .i64 (pl : Nat), .pointer (some ⟨Bx, 0, none⟩), undef, undef, undef, undef, .string s, .slice (some ⟨g5, 0, none⟩) (cl L).length c5, .slice (some ⟨g5, 0, none⟩) (cl L).length c5, .slice (some ⟨h6, 0, none⟩) (cl L).length c6, .string s, .func (.func 11) #[] #[.pointer (some ⟨BB, 0, none⟩)], .func (.func 11) #[] #[.pointer (some ⟨BB, 0, none⟩)], .bool false, .func (.func 11) #[] #[.pointer (some ⟨BB, 0, none⟩)], undef, undef, undef, undef, undef, undef, undef, undef, undef, undef, undef, undef, undef, undef, undef, undef, undef, undef, undef, undef, undef, undef, undef, undef, .func (.func 11) #[] #[.pointer (some ⟨BB, 0, none⟩)], .int .i64 (pl : Nat), cv pt, .int .i64 (k : Nat), .int .i64 most, .bool false, .int .i64 (k : Nat), .slice (some ⟨g5, 0, none⟩) (cl L).length c5, .int .i64 ((cl L).length : Nat), .bool false, .bool false, .int .i64 (pl : Nat), .slice (some ⟨h6, 0, none⟩) (cl L).length c6, .int .i64 (k : Nat), .pointer (some ⟨h6, 0 + k * 1, none⟩), .int .i64 (pn : Nat), .bool true, .bool true, .bool true, undef, undef, undef, undef, undef, undef, .bool true, undef, undef, undef, undef, undef, undef, undef, undef, undef, undef, undef, undef, undef, undef, undef, undef, undef, undef, undef, undef, undef, undef, undef, undef, undef, undef, undef, undef, undef, undef, undef, undef, undef, undef, undef, undef, undef, undef, undef, undef, undef, undef, undef, undef, undef, undef, undef, undef, undef, undef, undef, undef, undef, undef, undef, undef, undef, undef, undef, undef, undef, undef, undef, undef, undef, undef, undef, undef], defers := [] } (by kernel_rfl) ?_
        rintro W' d - rfl
        gi_wp2
        exact ⟨((KeepsOthers.setCell _ _ _).trans (KeepsOthers.drew _)).from _, .inl ⟨rfl, fun h => hp (HAG.out.1 h).1⟩⟩

    case done2 =>
      rintro D2 ys W hD2 rfl ⟨h11, ⟨ha, hm⟩, hB⟩ hK2
      rw [placed_length] at h11 hm
      clear ha
      obtain ⟨FE, hFE⟩ : ∃ FE : Int, FE = ((cl L).length : Nat) := ⟨_, rfl⟩
      rw [← hFE] at h11
      have hFa : ((cl L).length : Int) ≤ most → FE = (cl L).length := fun _ => hFE
      have hFb : most < ((cl L).length : Int) → FE = max 0 most := fun h => by omega
      clear hm hFE
      have hsW9 := hB.size
      have hB7 := HB8.out.trans (hB.mono (by omega))
      have c7 := (((HM7.out W hB7).alloc (.cells #[.int .i64 0] 3)).alloc (.cells #[.int .i64 0] 3)).cell
      have X14 := run.hid ((Boxed.new W 3 (.int .i64 0)).alloc (.cells #[.int .i64 0] 3))
      have X15 := run.hid (Boxed.new (W.alloc (.cells #[.int .i64 0] 3)) 3 (.int .i64 0))
      have F11 := run.hid ((h11.alloc (.cells #[.int .i64 0] 3)).alloc (.cells #[.int .i64 0] 3))
      have HB9 := run.hid ((hB7.alloc (by omega) (.cells #[.int .i64 0] 3)).alloc (by simp; omega) (.cells #[.int .i64 0] 3))
      have F8 := run.hid (((boxed_below H8.out hB (by omega)).alloc (.cells #[.int .i64 0] 3)).alloc (.cells #[.int .i64 0] 3))
      have hD2' := (Array.getElem?_eq_some_iff.1 hK2).1
      have HK2 := run.hid ((run.heap_old (W.alloc (.cells #[.int .i64 0] 3)) (.cells #[.int .i64 0] 3) (by simp; omega)).trans ((run.heap_old W (.cells #[.int .i64 0] 3) hD2').trans hK2))
      have HK1 := run.hid ((run.heap_old (W.alloc (.cells #[.int .i64 0] 3)) (.cells #[.int .i64 0] 3) (by simp; omega)).trans ((run.heap_old W (.cells #[.int .i64 0] 3) (by omega)).trans ((hB.block D1 (by omega)).trans hK1'.out)))
      have hW9 : ((W.alloc (.cells #[.int .i64 0] 3)).alloc (.cells #[.int .i64 0] 3)).heap.size = W.heap.size + 2 := by simp
      simp only [World.size_alloc] at X15
      clear h11 hB hB7 hK2
      gi_wp2_with fail
      clear c7
      generalize (W.alloc (.cells #[.int .i64 0] 3)).alloc (.cells #[.int .i64 0] 3) = w9 at *
      generalize hb14 : W.heap.size = b14 at *
      clear hb14
      refine wpIn_rangeFunc_ownH rfl (by decide) (gf := 11) (lb := #[.pointer (some ⟨BB, 0, none⟩)]) rfl trivial (enters_of Try.func11 (by kernel_rfl) rfl)
        (HSTOP.out 8 w9 (by decide) HB9.out) KeepsB.trans (keepsB_b (by omega)) (Below.refl _ _) (fun _ => rfl)
        (fun pre W => Boxed W b14 3 (.int .i64 (pre.length : Nat)) ∧ (Boxed W (b14 + 1) 3 (.int .i64 ((inr0 (cl L).length pre.length : Nat) : Int)) ∧ (agp (cl L) pre ∧ Below b14 w9 W)))
        (fun c pre W => c = .ret ∧ ¬ agp (cl L) pre)
        (OwnFrom.and (Own.from (boxed_own b14 3 (fun pre : List (Nat × List Int) => .int .i64 (pre.length : Nat))) _) (OwnFrom.and (Own.from (boxed_own (b14 + 1) 3 (fun pre : List (Nat × List Int) => .int .i64 ((inr0 (cl L).length pre.length : Nat) : Int))) _) (OwnFrom.and (ownFrom_pure _ (fun pre : List (Nat × List Int) => agp (cl L) pre)) (ownFrom_below (by omega) (by omega)))))
        (fun c => ownFrom_pure _ (fun pre : List (Nat × List Int) => c = .ret ∧ ¬ agp (cl L) pre))
        ⟨X14.out, X15.out, agp_nil _, Below.refl _ _⟩
        (fun x a' W => a' = { tmps := #[.string s, .int .i64 most, undef, .pointer (some ⟨w.heap.size, 0, none⟩), .pointer (some ⟨w.heap.size + 1, 0, none⟩), .pointer (some ⟨b5, 0, none⟩), .pointer (some ⟨b6, 0, none⟩), .pointer (some ⟨b7, 0, none⟩), .pointer (some ⟨b7 + 1, 0, none⟩), undef, undef, .pointer (some ⟨b11, 0, none⟩), undef, undef, .pointer (some ⟨b14, 0, none⟩), .pointer (some ⟨b14 + 1, 0, none⟩), .int .i64 (x.1 : Nat), undef, .string s, .slice a5 (cl L).length c5, .slice a5 (cl L).length c5, .slice a6 (cl L).length c6, .string s, .func (.func 11) #[] #[.pointer (some ⟨BB, 0, none⟩)], .func (.func 11) #[] #[.pointer (some ⟨BB, 0, none⟩)], .bool false, .func (.func 11) #[] #[.pointer (some ⟨BB, 0, none⟩)], undef, undef, undef, undef, undef, undef, undef, undef, undef, undef, undef, undef, undef, undef, undef, undef, undef, undef, undef, undef, undef, undef, undef, undef, .func (.func 11) #[] #[.pointer (some ⟨BB, 0, none⟩)], undef, undef, undef, undef, undef, undef, undef, undef, undef, undef, undef, undef, undef, undef, undef, undef, undef, undef, undef, undef, undef, undef, undef, undef, undef, undef, undef, .func (.func 11) #[] #[.pointer (some ⟨BB, 0, none⟩)], .int .i64 (x.1 : Nat), cv x.2, undef, undef, undef, undef, undef, undef, undef, undef, undef, undef, undef, undef, undef, undef, undef, undef, undef, undef, undef, undef, undef, undef, undef, undef, undef, undef, undef, undef, undef, undef, undef, undef, undef, undef, undef, undef, undef, undef, undef, undef, undef, undef, undef, undef, undef, undef, undef, undef, undef, undef, undef, undef, undef, undef, undef, undef, undef, undef, undef, undef, undef, undef, undef], defers := [] })
        (fun x a' _ X Y row h hg hr => h) ?assign3 ?body3 ?done3 ?stop3
      case assign3 =>
        rintro l pre x W K hI hK
        dsimp only [encs, cv] at hK ⊢
        gi_wp2
        exact hK _ _ (KeepsFrom.refl _ _) (KeepsB.refl _) hI rfl
      case body3 =>
        rintro l pre x a' W hl' ⟨r, hr⟩ ⟨h14, h15, ha, hB⟩ rfl hlt
        rw [placed_length] at hlt
        have hsW := hB.size
        have hB7 := HB9.out.trans (hB.mono (by omega))
        have RD := HRD.out W hB7
        obtain ⟨g5, h6, rfl, rfl, -, -, r3⟩ := RD.r pre.length hlt
        have cn := h14.cell
        have fn := h14.frozen
        have c5x := RD.w5.cell
        have c6x := RD.w6.cell
        have c7 := (HM7.out W hB7).cell
        have mr := (HM1.out W hB7).cell
        have fr := (HM1.out W hB7).frozen
        have HAG := run.hid (agp_snoc (x := x) ha hlt)
        have H14 := run.hid h14
        have H15 := run.hid h15
        have HB := run.hid hB
        have HB7 := HB9.out.trans (hB.mono (by omega))
        have HSI := run.hid (fun (W' : World) (hW : Below (b7 + 1) w7 W') => HSTOP.out 6 W' (by decide) hW)
        have HIN : Hid (∀ W', Below b14 w9 W' → Boxed W' b14 3 (.int .i64 ((pre.length : Int) + 1)) → Boxed W' (b14 + 1) 3 (.int .i64 ((cl L).length : Nat)) → agp (cl L) (pre ++ [x]) → Boxed W' b14 3 (.int .i64 (((pre ++ [x]).length : Nat) : Int)) ∧ (Boxed W' (b14 + 1) 3 (.int .i64 ((inr0 (cl L).length (pre ++ [x]).length : Nat) : Int)) ∧ (agp (cl L) (pre ++ [x]) ∧ Below b14 w9 W'))) := fun W' h1 h2 h3 h4 => ⟨by rw [List.length_append]; exact h2, by rw [inr0_pos (by simp)]; exact h3, h4, h1⟩
        obtain ⟨pl, pt⟩ := x
        dsimp only at HAG
        clear h14 h15 hB ha RD hB7
        replace HB7 := run.hid HB7
        generalize ptN (cl L) pre.length = pn at *
        generalize pre.length = k at *
        have hN0 : (0 : Int) ≤ (k : Int) := by omega
        have hge : ¬ ((cl L).length : Int) ≤ (k : Int) := by omega
        have hcl0 : ¬ cl L = [] := fun e => by rw [e] at hlt; simp at hlt
        by_cases hp : pl = pn
        · subst hp
          by_cases hk : k = 0
          · subst hk
            have X0 : Hid (Boxed W (b14 + 1) 3 (.int .i64 ((0 : Nat) : Int))) := by have h := H15.out; rw [inr0_zero] at h; exact h
            gi_wp2_with fail
            refine wpIn_rangeFunc_ownN (l₀ := l) (r₀ := r) rfl hr (by decide) (gf := 11) (lb := #[.pointer (some ⟨BB, 0, none⟩)]) rfl trivial (enters_of Try.func11 (by kernel_rfl) rfl)
              ((HSI.out W HB7.out).inRound l) KeepsB.trans (keepsB_b (by omega)) (Below.refl _ _) (fun _ => rfl)
              (fun ys W' => (Boxed W' b14 3 (.int .i64 0) ∧ Boxed W' (b14 + 1) 3 (.int .i64 (ys.length : Nat))) ∧ (Below b14 W W' ∧ KeepsFrom w9.heap.size W W'))
              (fun _ _ _ => False)
              (OwnFrom.and (OwnFrom.and (Own.from (boxed_own b14 3 (fun _ : List (Nat × List Int) => .int .i64 0)) _) (Own.from (boxed_own (b14 + 1) 3 (fun ys : List (Nat × List Int) => .int .i64 (ys.length : Nat))) _)) (OwnFrom.and (ownFrom_below (by omega) (by omega)) (ownFrom_keepsFrom (Nat.le_refl _))))
              (fun _ _ _ _ _ hs _ _ => hs)
              ⟨⟨H14.out, X0.out⟩, Below.refl _ _, KeepsFrom.refl _ _⟩
              (fun y a'' _ => a'' = { tmps := #[.string s, .int .i64 most, undef, .pointer (some ⟨w.heap.size, 0, none⟩), .pointer (some ⟨w.heap.size + 1, 0, none⟩), .pointer (some ⟨b5, 0, none⟩), .pointer (some ⟨b6, 0, none⟩), .pointer (some ⟨b7, 0, none⟩), .pointer (some ⟨b7 + 1, 0, none⟩), undef, undef, .pointer (some ⟨b11, 0, none⟩), undef, undef, .pointer (some ⟨b14, 0, none⟩), .pointer (some ⟨b14 + 1, 0, none⟩), .int .i64 (pl : Nat), undef, .string s, .slice (some ⟨g5, 0, none⟩) (cl L).length c5, .slice (some ⟨g5, 0, none⟩) (cl L).length c5, .slice (some ⟨h6, 0, none⟩) (cl L).length c6, .string s, .func (.func 11) #[] #[.pointer (some ⟨BB, 0, none⟩)], .func (.func 11) #[] #[.pointer (some ⟨BB, 0, none⟩)], .bool false, .func (.func 11) #[] #[.pointer (some ⟨BB, 0, none⟩)], undef, undef, undef, undef, undef, undef, undef, undef, undef, undef, undef, undef, undef, undef, undef, undef, undef, undef, undef, undef, undef, undef, undef, undef, .func (.func 11) #[] #[.pointer (some ⟨BB, 0, none⟩)], undef, undef, undef, undef, undef, undef, undef, undef, undef, undef, undef, undef, undef, undef, undef, undef, undef, undef, undef, undef, undef, undef, undef, undef, undef, undef, undef, .func (.func 11) #[] #[.pointer (some ⟨BB, 0, none⟩)], .int .i64 (pl : Nat), cv pt, .int .i64 0, .slice (some ⟨g5, 0, none⟩) (cl L).length c5, .int .i64 ((cl L).length : Nat), .bool false, .bool false, .int .i64 (pl : Nat), .slice (some ⟨h6, 0, none⟩) (cl L).length c6, .int .i64 0, .pointer (some ⟨h6, 0, none⟩), .int .i64 (pl : Nat), .bool false, .bool false, .int .i64 0, .bool true, .func (.func 11) #[] #[.pointer (some ⟨BB, 0, none⟩)], .int .i64 (y.1 : Nat), cv y.2, undef, undef, undef, undef, undef, undef, undef, undef, undef, undef, undef, undef, undef, undef, undef, undef, undef, undef, undef, undef, undef, undef, undef, undef, undef, undef, undef, undef, undef, undef, undef, undef, undef, undef, undef, undef, undef, undef, undef, undef, undef, undef, undef, undef, undef, undef], defers := [] })
              (fun _ _ _ _ _ _ hs _ _ => hs) ?assign4 ?body4 ?done4 ?stop4
            case assign4 =>
              rintro l2 ys y W' K hI hK
              dsimp only [encs, cv] at hK ⊢
              gi_wp2
              exact hK _ _ (KeepsFrom.refl _ _) (KeepsB.refl _) hI (by kernel_rfl)
            case body4 =>
              rintro l2 ys y a'' W' _ _ ⟨⟨q14, q15⟩, hBW, hKF⟩ rfl hyl
              rw [placed_length] at hyl
              have e15 := q15.cell
              have f15 := q15.frozen
              have hq : Hid (∀ W'', Boxed W'' (b14 + 1) 3 (.int .i64 ((ys.length : Int) + 1)) → Boxed W'' (b14 + 1) 3 (.int .i64 (((ys ++ [y]).length : Nat) : Int))) := fun W'' h => by rw [List.length_append]; exact h
              have Q14 := run.hid q14
              have Q15 := run.hid q15
              have HBW := run.hid hBW
              have HKF := run.hid hKF
              clear q14 q15 hBW hKF HIN HAG HSI H14 H15
              generalize ys.length = n4 at *
              gi_wp2
              exact ⟨(KeepsOthers.setCell _ _ _).from _, ⟨by simp [World.setCell], Below.heap_setCell _ _ _ _ (by show b ≠ b14 + 1; omega)⟩, ⟨Q14.out.other (by omega) _, hq.out _ (Q15.out.set _)⟩, HBW.out.setCell (p := ⟨b14 + 1, 0, none⟩) (by show b14 ≤ b14 + 1; omega) _, HKF.out.trans ((KeepsOthers.setCell _ _ _).from _)⟩
            case done4 =>
              rintro ys W' rfl ⟨⟨q14, q15⟩, hBW, hKF⟩
              rw [placed_length] at q15
              have e14 := q14.cell
              have f14 := q14.frozen
              have Q14 := run.hid q14
              have Q15 := run.hid q15
              have HBW := run.hid hBW
              have HKF := run.hid hKF
              have HIN2 := run.hid (fun W'' h1 h2 h3 => HIN.out W'' h1 h2 h3 (HAG.out.2 (by first | rfl | trivial)))
              clear q14 q15 hBW hKF HIN HAG HSI H14 H15
              gi_wp2
              exact ⟨HKF.out.trans ((KeepsOthers.setCell _ _ _).from _), ⟨by simp [World.setCell]; exact HBW.out.size, (Below.heap_setCell _ _ _ _ (by show b ≠ b14; omega)).trans (HBW.out.block b (by omega))⟩, HIN2.out _ ((HB.out.trans HBW.out).setCell (p := ⟨b14, 0, none⟩) (Nat.le_refl b14) _) (by have h := Q14.out.set (.int .i64 1); exact h) (Q15.out.other (by omega) _)⟩
            case stop4 =>
              rintro c ys W' _ h
              exact h.elim
          · have X0 : Hid (Boxed W (b14 + 1) 3 (.int .i64 ((cl L).length : Nat))) := by have h := H15.out; rw [inr0_pos hk] at h; exact h
            have hk2 : ((k : Int) == 0) = false := by rw [beq_eq_false_iff_ne]; omega
            gi_wp2
            exact ⟨(KeepsOthers.setCell _ _ _).from _, ⟨by simp [World.setCell], Below.heap_setCell _ _ _ _ (by show b ≠ b14; omega)⟩, HIN.out _ (HB.out.setCell (p := ⟨b14, 0, none⟩) (Nat.le_refl b14) _) (H14.out.set _) (X0.out.other (by omega) _) (HAG.out.2 (by first | rfl | trivial))⟩
        · have hp1 : ((pl : Int) == (pn : Int)) = false := by rw [beq_eq_false_iff_ne]; omega
          gi_wp2
          exact ⟨(KeepsOthers.setCell _ _ _).from _, rfl, fun h => hp (HAG.out.1 h)⟩
      case done3 =>
        rintro D3 ys W hD3 rfl ⟨h14, h15, ha, hB⟩ hK3
        have hsW := hB.size
        have hB7 := HB9.out.trans (hB.mono (by omega))
        have RD := HRD.out W hB7
        rw [placed_length] at h14 h15
        have h15' : Boxed W (b14 + 1) 3 (.int .i64 ((cl L).length : Nat)) := by
          have h := h15
          by_cases h0 : (cl L).length = 0
          · rw [h0] at h ⊢; exact h
          · rw [inr0_pos h0] at h; exact h
        have c3 := (HM0.out W hB7).cell
        have c4 := (HM1.out W hB7).cell
        have f4 := (HM1.out W hB7).frozen
        have c5x := RD.w5.cell
        have c8 := (boxed_below F8.out hB (by omega)).cell
        have c11 := (boxed_below F11.out hB (by omega)).cell
        have c14 := h14.cell
        have c15 := h15'.cell
        have kD2 := (hB.block D2 (by omega)).trans HK2.out
        have kD1 := (hB.block D1 (by omega)).trans HK1.out
        have HM1W := run.hid (HM1.out W hB7)
        have HBEW := run.hid (HBEL.out W hB7)
        have KD1 := run.hid kD1
        have KD2 := run.hid kD2
        have KD3 := run.hid hK3
        have hD3' := (Array.getElem?_eq_some_iff.1 hK3).1
        have hle := HBEW.out.size
        clear RD h14 h15 h15' ha hB hB7 kD1 kD2 hK3 HRD HM0 HM1 HM7 HSTOP HBEL X14 X15 F8 F11 HK1 HK2 HB9
        generalize hNN : (cl L).length = NN at *
        have HAL := run.hid (fun X => alive_any X)
        have hfin : Hid (∀ w' , Below W.heap.size W w' → Boxed w' (w.heap.size + 1) 4 (.bool false) ∧ w'.heap[D1]? = some (.deferred (some [])) ∧ w'.heap[D2]? = some (.deferred (some [])) ∧ w'.heap[D3]? = some (.deferred (some [])) ∧ Below w.heap.size w w') := fun w' h => ⟨boxed_below HM1W.out h (by omega), (h.block D1 (by omega)).trans KD1.out, (h.block D2 (by omega)).trans KD2.out, (h.block D3 (by omega)).trans KD3.out, HBEW.out.trans (h.mono hle)⟩
        clear HM1W HBEW KD1 KD2 KD3 HB8 H8 X11 hK1'
        by_cases hN : (NN : Int) ≤ most
        · have hd1 : decide ((NN : Int) ≤ most) = true := decide_eq_true hN
          obtain rfl := hFa hN
          clear hFa hFb
          gi_wp2_with fail
          try any_goals (rename_i hu _; exact absurd hu (by intro hu; cases hu))
          all_goals
           refine ⟨trivial, ?_⟩
           refine (callsIn_wide.2 (HAL.out W)).mono ?_
           rintro e w10 ⟨rfl, hb10⟩
           obtain ⟨q4, qD1, qD2, qD3, qB⟩ := hfin.out w10 hb10
           have e4 := q4.cell
           have g4 := q4.frozen
           have R4 := run.hid (q4.set (.bool true))
           have RB := run.hid (qB.setCell (p := ⟨w.heap.size + 1, 0, none⟩) (by show w.heap.size ≤ w.heap.size + 1; omega) (.bool true))
           have S1 := run.hid ((Below.heap_setCell w10 ⟨w.heap.size + 1, 0, none⟩ (.bool true) D1 (by show D1 ≠ w.heap.size + 1; omega)).trans qD1)
           have S2 := run.hid ((Below.heap_setCell w10 ⟨w.heap.size + 1, 0, none⟩ (.bool true) D2 (by show D2 ≠ w.heap.size + 1; omega)).trans qD2)
           have S3 := run.hid ((Below.heap_setCell w10 ⟨w.heap.size + 1, 0, none⟩ (.bool true) D3 (by show D3 ≠ w.heap.size + 1; omega)).trans qD3)
           clear q4 qD1 qD2 qD3 qB hfin HAL hb10 c3 c4 f4 c5x c8 c11 c14 c15
           gi_wp2
           generalize w10.setCell ⟨w.heap.size + 1, 0, none⟩ (.bool true) = w11 at *
           have T2 : (w11.putObj D3 (.deferred none)).heap[D2]? = some (.deferred (some [])) := (World.putObj_heap_other (by omega)).trans S2.out
           have T1 : ((w11.putObj D3 (.deferred none)).putObj D2 (.deferred none)).heap[D1]? = some (.deferred (some [])) := (World.putObj_heap_other (by omega)).trans ((World.putObj_heap_other (by omega)).trans S1.out)
           have T4 : Boxed (((w11.putObj D3 (.deferred none)).putObj D2 (.deferred none)).putObj D1 (.deferred none)) (w.heap.size + 1) 4 (.bool true) := (World.putObj_heap_other (by omega)).trans ((World.putObj_heap_other (by omega)).trans ((World.putObj_heap_other (by omega)).trans R4.out))
           refine ⟨by simp, .inl ⟨_, _, rfl, run_takeDeferred S3.out, ?_⟩⟩
           refine ⟨by simp, .inl ⟨_, _, rfl, run_takeDeferred T2, ?_⟩⟩
           refine ⟨by simp, .inl ⟨_, _, rfl, run_takeDeferred T1, ?_⟩⟩
           refine ⟨.bool true, ?_, rfl, ?_⟩
           · have e := T4.cell
             simp [results, go_sem, e]
           · exact ((RB.out.trans (belowK_b (w := w) (Nat.le_refl _) _ D3 _ (.deferred none) (by omega) S3.out rfl rfl)).trans (belowK_b (w := w) (Nat.le_refl _) _ D2 _ (.deferred none) (by omega) T2 rfl rfl)).trans (belowK_b (w := w) (Nat.le_refl _) _ D1 _ (.deferred none) (by omega) T1 rfl rfl)
        · have hN2 : most < (NN : Int) := by omega
          have hd1 : decide ((NN : Int) ≤ most) = false := decide_eq_false hN
          have hd2 : decide (most < (NN : Int)) = true := decide_eq_true hN2
          obtain rfl := hFb hN2
          clear hFa hFb
          gi_wp2_with fail
          try any_goals (rename_i hu _; exact absurd hu (by intro hu; cases hu))
          all_goals
           refine ⟨trivial, ?_⟩
           refine (callsIn_wide.2 (HAL.out W)).mono ?_
           rintro e w10 ⟨rfl, hb10⟩
           obtain ⟨q4, qD1, qD2, qD3, qB⟩ := hfin.out w10 hb10
           have e4 := q4.cell
           have g4 := q4.frozen
           have R4 := run.hid (q4.set (.bool true))
           have RB := run.hid (qB.setCell (p := ⟨w.heap.size + 1, 0, none⟩) (by show w.heap.size ≤ w.heap.size + 1; omega) (.bool true))
           have S1 := run.hid ((Below.heap_setCell w10 ⟨w.heap.size + 1, 0, none⟩ (.bool true) D1 (by show D1 ≠ w.heap.size + 1; omega)).trans qD1)
           have S2 := run.hid ((Below.heap_setCell w10 ⟨w.heap.size + 1, 0, none⟩ (.bool true) D2 (by show D2 ≠ w.heap.size + 1; omega)).trans qD2)
           have S3 := run.hid ((Below.heap_setCell w10 ⟨w.heap.size + 1, 0, none⟩ (.bool true) D3 (by show D3 ≠ w.heap.size + 1; omega)).trans qD3)
           clear q4 qD1 qD2 qD3 qB hfin HAL hb10 c3 c4 f4 c5x c8 c11 c14 c15
           gi_wp2
           generalize w10.setCell ⟨w.heap.size + 1, 0, none⟩ (.bool true) = w11 at *
           have T2 : (w11.putObj D3 (.deferred none)).heap[D2]? = some (.deferred (some [])) := (World.putObj_heap_other (by omega)).trans S2.out
           have T1 : ((w11.putObj D3 (.deferred none)).putObj D2 (.deferred none)).heap[D1]? = some (.deferred (some [])) := (World.putObj_heap_other (by omega)).trans ((World.putObj_heap_other (by omega)).trans S1.out)
           have T4 : Boxed (((w11.putObj D3 (.deferred none)).putObj D2 (.deferred none)).putObj D1 (.deferred none)) (w.heap.size + 1) 4 (.bool true) := (World.putObj_heap_other (by omega)).trans ((World.putObj_heap_other (by omega)).trans ((World.putObj_heap_other (by omega)).trans R4.out))
           refine ⟨by simp, .inl ⟨_, _, rfl, run_takeDeferred S3.out, ?_⟩⟩
           refine ⟨by simp, .inl ⟨_, _, rfl, run_takeDeferred T2, ?_⟩⟩
           refine ⟨by simp, .inl ⟨_, _, rfl, run_takeDeferred T1, ?_⟩⟩
           refine ⟨.bool true, ?_, rfl, ?_⟩
           · have e := T4.cell
             simp [results, go_sem, e]
           · exact ((RB.out.trans (belowK_b (w := w) (Nat.le_refl _) _ D3 _ (.deferred none) (by omega) S3.out rfl rfl)).trans (belowK_b (w := w) (Nat.le_refl _) _ D2 _ (.deferred none) (by omega) T2 rfl rfl)).trans (belowK_b (w := w) (Nat.le_refl _) _ D1 _ (.deferred none) (by omega) T1 rfl rfl)
      case stop3 =>
        rintro D3 c pre W hD3 hp ⟨-, h⟩ hK3
        exact absurd (agp_prefix hp) h
    case stop2 =>
      rintro D2 c pre W hD2 hp h hK2
      rcases h with ⟨-, h⟩ | ⟨rfl, h11, ⟨hp1, hp2, hp3⟩, hB⟩
      · exact absurd (agr_prefix hp) h
      have hpl := hp.length_le
      rw [placed_length] at hpl
      obtain ⟨FE, hFE⟩ : ∃ FE : Int, FE = (pre.length : Int) - 1 := ⟨_, rfl⟩
      rw [← hFE] at h11
      have hFa : ((cl L).length : Int) ≤ most → FE = (cl L).length := fun h => by omega
      have hFb : most < ((cl L).length : Int) → FE = max 0 most := fun h => by omega
      clear hp hpl hp1 hp2 hp3 hFE
      have hsW9 := hB.size
      have hB7 := HB8.out.trans (hB.mono (by omega))
      have c7 := (((HM7.out W hB7).alloc (.cells #[.int .i64 0] 3)).alloc (.cells #[.int .i64 0] 3)).cell
      have X14 := run.hid ((Boxed.new W 3 (.int .i64 0)).alloc (.cells #[.int .i64 0] 3))
      have X15 := run.hid (Boxed.new (W.alloc (.cells #[.int .i64 0] 3)) 3 (.int .i64 0))
      have F11 := run.hid ((h11.alloc (.cells #[.int .i64 0] 3)).alloc (.cells #[.int .i64 0] 3))
      have HB9 := run.hid ((hB7.alloc (by omega) (.cells #[.int .i64 0] 3)).alloc (by simp; omega) (.cells #[.int .i64 0] 3))
      have F8 := run.hid (((boxed_below H8.out hB (by omega)).alloc (.cells #[.int .i64 0] 3)).alloc (.cells #[.int .i64 0] 3))
      have hD2' := (Array.getElem?_eq_some_iff.1 hK2).1
      have HK2 := run.hid ((run.heap_old (W.alloc (.cells #[.int .i64 0] 3)) (.cells #[.int .i64 0] 3) (by simp; omega)).trans ((run.heap_old W (.cells #[.int .i64 0] 3) hD2').trans hK2))
      have HK1 := run.hid ((run.heap_old (W.alloc (.cells #[.int .i64 0] 3)) (.cells #[.int .i64 0] 3) (by simp; omega)).trans ((run.heap_old W (.cells #[.int .i64 0] 3) (by omega)).trans ((hB.block D1 (by omega)).trans hK1'.out)))
      have hW9 : ((W.alloc (.cells #[.int .i64 0] 3)).alloc (.cells #[.int .i64 0] 3)).heap.size = W.heap.size + 2 := by simp
      simp only [World.size_alloc] at X15
      clear h11 hB hB7 hK2
      gi_wp2_with fail
      clear c7
      generalize (W.alloc (.cells #[.int .i64 0] 3)).alloc (.cells #[.int .i64 0] 3) = w9 at *
      generalize hb14 : W.heap.size = b14 at *
      clear hb14
      refine wpIn_rangeFunc_ownH rfl (by decide) (gf := 11) (lb := #[.pointer (some ⟨BB, 0, none⟩)]) rfl trivial (enters_of Try.func11 (by kernel_rfl) rfl)
        (HSTOP.out 8 w9 (by decide) HB9.out) KeepsB.trans (keepsB_b (by omega)) (Below.refl _ _) (fun _ => rfl)
        (fun pre W => Boxed W b14 3 (.int .i64 (pre.length : Nat)) ∧ (Boxed W (b14 + 1) 3 (.int .i64 ((inr0 (cl L).length pre.length : Nat) : Int)) ∧ (agp (cl L) pre ∧ Below b14 w9 W)))
        (fun c pre W => c = .ret ∧ ¬ agp (cl L) pre)
        (OwnFrom.and (Own.from (boxed_own b14 3 (fun pre : List (Nat × List Int) => .int .i64 (pre.length : Nat))) _) (OwnFrom.and (Own.from (boxed_own (b14 + 1) 3 (fun pre : List (Nat × List Int) => .int .i64 ((inr0 (cl L).length pre.length : Nat) : Int))) _) (OwnFrom.and (ownFrom_pure _ (fun pre : List (Nat × List Int) => agp (cl L) pre)) (ownFrom_below (by omega) (by omega)))))
        (fun c => ownFrom_pure _ (fun pre : List (Nat × List Int) => c = .ret ∧ ¬ agp (cl L) pre))
        ⟨X14.out, X15.out, agp_nil _, Below.refl _ _⟩
        (fun x a' W => a' = { tmps := #[.string s, .int .i64 most, undef, .pointer (some ⟨w.heap.size, 0, none⟩), .pointer (some ⟨w.heap.size + 1, 0, none⟩), .pointer (some ⟨b5, 0, none⟩), .pointer (some ⟨b6, 0, none⟩), .pointer (some ⟨b7, 0, none⟩), .pointer (some ⟨b7 + 1, 0, none⟩), undef, undef, .pointer (some ⟨b11, 0, none⟩), undef, undef, .pointer (some ⟨b14, 0, none⟩), .pointer (some ⟨b14 + 1, 0, none⟩), .int .i64 (x.1 : Nat), undef, .string s, .slice a5 (cl L).length c5, .slice a5 (cl L).length c5, .slice a6 (cl L).length c6, .string s, .func (.func 11) #[] #[.pointer (some ⟨BB, 0, none⟩)], .func (.func 11) #[] #[.pointer (some ⟨BB, 0, none⟩)], .bool false, .func (.func 11) #[] #[.pointer (some ⟨BB, 0, none⟩)], undef, undef, undef, undef, undef, undef, undef, undef, undef, undef, undef, undef, undef, undef, undef, undef, undef, undef, undef, undef, undef, undef, undef, undef, .func (.func 11) #[] #[.pointer (some ⟨BB, 0, none⟩)], undef, undef, undef, undef, undef, undef, undef, undef, undef, undef, undef, undef, undef, undef, undef, undef, undef, undef, undef, undef, undef, undef, undef, undef, undef, undef, undef, .func (.func 11) #[] #[.pointer (some ⟨BB, 0, none⟩)], .int .i64 (x.1 : Nat), cv x.2, undef, undef, undef, undef, undef, undef, undef, undef, undef, undef, undef, undef, undef, undef, undef, undef, undef, undef, undef, undef, undef, undef, undef, undef, undef, undef, undef, undef, undef, undef, undef, undef, undef, undef, undef, undef, undef, undef, undef, undef, undef, undef, undef, undef, undef, undef, undef, undef, undef, undef, undef, undef, undef, undef, undef, undef, undef, undef, undef, undef, undef, undef, undef], defers := [] })
        (fun x a' _ X Y row h hg hr => h) ?assign3 ?body3 ?done3 ?stop3
      case assign3 =>
        rintro l pre x W K hI hK
        dsimp only [encs, cv] at hK ⊢
        gi_wp2
        exact hK _ _ (KeepsFrom.refl _ _) (KeepsB.refl _) hI rfl
      case body3 =>
        rintro l pre x a' W hl' ⟨r, hr⟩ ⟨h14, h15, ha, hB⟩ rfl hlt
        rw [placed_length] at hlt
        have hsW := hB.size
        have hB7 := HB9.out.trans (hB.mono (by omega))
        have RD := HRD.out W hB7
        obtain ⟨g5, h6, rfl, rfl, -, -, r3⟩ := RD.r pre.length hlt
        have cn := h14.cell
        have fn := h14.frozen
        have c5x := RD.w5.cell
        have c6x := RD.w6.cell
        have c7 := (HM7.out W hB7).cell
        have mr := (HM1.out W hB7).cell
        have fr := (HM1.out W hB7).frozen
        have HAG := run.hid (agp_snoc (x := x) ha hlt)
        have H14 := run.hid h14
        have H15 := run.hid h15
        have HB := run.hid hB
        have HB7 := HB9.out.trans (hB.mono (by omega))
        have HSI := run.hid (fun (W' : World) (hW : Below (b7 + 1) w7 W') => HSTOP.out 6 W' (by decide) hW)
        have HIN : Hid (∀ W', Below b14 w9 W' → Boxed W' b14 3 (.int .i64 ((pre.length : Int) + 1)) → Boxed W' (b14 + 1) 3 (.int .i64 ((cl L).length : Nat)) → agp (cl L) (pre ++ [x]) → Boxed W' b14 3 (.int .i64 (((pre ++ [x]).length : Nat) : Int)) ∧ (Boxed W' (b14 + 1) 3 (.int .i64 ((inr0 (cl L).length (pre ++ [x]).length : Nat) : Int)) ∧ (agp (cl L) (pre ++ [x]) ∧ Below b14 w9 W'))) := fun W' h1 h2 h3 h4 => ⟨by rw [List.length_append]; exact h2, by rw [inr0_pos (by simp)]; exact h3, h4, h1⟩
        obtain ⟨pl, pt⟩ := x
        dsimp only at HAG
        clear h14 h15 hB ha RD hB7
        replace HB7 := run.hid HB7
        generalize ptN (cl L) pre.length = pn at *
        generalize pre.length = k at *
        have hN0 : (0 : Int) ≤ (k : Int) := by omega
        have hge : ¬ ((cl L).length : Int) ≤ (k : Int) := by omega
        have hcl0 : ¬ cl L = [] := fun e => by rw [e] at hlt; simp at hlt
        by_cases hp : pl = pn
        · subst hp
          by_cases hk : k = 0
          · subst hk
            have X0 : Hid (Boxed W (b14 + 1) 3 (.int .i64 ((0 : Nat) : Int))) := by have h := H15.out; rw [inr0_zero] at h; exact h
            gi_wp2_with fail
            refine wpIn_rangeFunc_ownN (l₀ := l) (r₀ := r) rfl hr (by decide) (gf := 11) (lb := #[.pointer (some ⟨BB, 0, none⟩)]) rfl trivial (enters_of Try.func11 (by kernel_rfl) rfl)
              ((HSI.out W HB7.out).inRound l) KeepsB.trans (keepsB_b (by omega)) (Below.refl _ _) (fun _ => rfl)
              (fun ys W' => (Boxed W' b14 3 (.int .i64 0) ∧ Boxed W' (b14 + 1) 3 (.int .i64 (ys.length : Nat))) ∧ (Below b14 W W' ∧ KeepsFrom w9.heap.size W W'))
              (fun _ _ _ => False)
              (OwnFrom.and (OwnFrom.and (Own.from (boxed_own b14 3 (fun _ : List (Nat × List Int) => .int .i64 0)) _) (Own.from (boxed_own (b14 + 1) 3 (fun ys : List (Nat × List Int) => .int .i64 (ys.length : Nat))) _)) (OwnFrom.and (ownFrom_below (by omega) (by omega)) (ownFrom_keepsFrom (Nat.le_refl _))))
              (fun _ _ _ _ _ hs _ _ => hs)
              ⟨⟨H14.out, X0.out⟩, Below.refl _ _, KeepsFrom.refl _ _⟩
              (fun y a'' _ => a'' = { tmps := #[.string s, .int .i64 most, undef, .pointer (some ⟨w.heap.size, 0, none⟩), .pointer (some ⟨w.heap.size + 1, 0, none⟩), .pointer (some ⟨b5, 0, none⟩), .pointer (some ⟨b6, 0, none⟩), .pointer (some ⟨b7, 0, none⟩), .pointer (some ⟨b7 + 1, 0, none⟩), undef, undef, .pointer (some ⟨b11, 0, none⟩), undef, undef, .pointer (some ⟨b14, 0, none⟩), .pointer (some ⟨b14 + 1, 0, none⟩), .int .i64 (pl : Nat), undef, .string s, .slice (some ⟨g5, 0, none⟩) (cl L).length c5, .slice (some ⟨g5, 0, none⟩) (cl L).length c5, .slice (some ⟨h6, 0, none⟩) (cl L).length c6, .string s, .func (.func 11) #[] #[.pointer (some ⟨BB, 0, none⟩)], .func (.func 11) #[] #[.pointer (some ⟨BB, 0, none⟩)], .bool false, .func (.func 11) #[] #[.pointer (some ⟨BB, 0, none⟩)], undef, undef, undef, undef, undef, undef, undef, undef, undef, undef, undef, undef, undef, undef, undef, undef, undef, undef, undef, undef, undef, undef, undef, undef, .func (.func 11) #[] #[.pointer (some ⟨BB, 0, none⟩)], undef, undef, undef, undef, undef, undef, undef, undef, undef, undef, undef, undef, undef, undef, undef, undef, undef, undef, undef, undef, undef, undef, undef, undef, undef, undef, undef, .func (.func 11) #[] #[.pointer (some ⟨BB, 0, none⟩)], .int .i64 (pl : Nat), cv pt, .int .i64 0, .slice (some ⟨g5, 0, none⟩) (cl L).length c5, .int .i64 ((cl L).length : Nat), .bool false, .bool false, .int .i64 (pl : Nat), .slice (some ⟨h6, 0, none⟩) (cl L).length c6, .int .i64 0, .pointer (some ⟨h6, 0, none⟩), .int .i64 (pl : Nat), .bool false, .bool false, .int .i64 0, .bool true, .func (.func 11) #[] #[.pointer (some ⟨BB, 0, none⟩)], .int .i64 (y.1 : Nat), cv y.2, undef, undef, undef, undef, undef, undef, undef, undef, undef, undef, undef, undef, undef, undef, undef, undef, undef, undef, undef, undef, undef, undef, undef, undef, undef, undef, undef, undef, undef, undef, undef, undef, undef, undef, undef, undef, undef, undef, undef, undef, undef, undef, undef, undef, undef, undef], defers := [] })
              (fun _ _ _ _ _ _ hs _ _ => hs) ?assign4 ?body4 ?done4 ?stop4
            case assign4 =>
              rintro l2 ys y W' K hI hK
              dsimp only [encs, cv] at hK ⊢
              gi_wp2
              exact hK _ _ (KeepsFrom.refl _ _) (KeepsB.refl _) hI (by kernel_rfl)
            case body4 =>
              rintro l2 ys y a'' W' _ _ ⟨⟨q14, q15⟩, hBW, hKF⟩ rfl hyl
              rw [placed_length] at hyl
              have e15 := q15.cell
              have f15 := q15.frozen
              have hq : Hid (∀ W'', Boxed W'' (b14 + 1) 3 (.int .i64 ((ys.length : Int) + 1)) → Boxed W'' (b14 + 1) 3 (.int .i64 (((ys ++ [y]).length : Nat) : Int))) := fun W'' h => by rw [List.length_append]; exact h
              have Q14 := run.hid q14
              have Q15 := run.hid q15
              have HBW := run.hid hBW
              have HKF := run.hid hKF
              clear q14 q15 hBW hKF HIN HAG HSI H14 H15
              generalize ys.length = n4 at *
              gi_wp2
              exact ⟨(KeepsOthers.setCell _ _ _).from _, ⟨by simp [World.setCell], Below.heap_setCell _ _ _ _ (by show b ≠ b14 + 1; omega)⟩, ⟨Q14.out.other (by omega) _, hq.out _ (Q15.out.set _)⟩, HBW.out.setCell (p := ⟨b14 + 1, 0, none⟩) (by show b14 ≤ b14 + 1; omega) _, HKF.out.trans ((KeepsOthers.setCell _ _ _).from _)⟩
            case done4 =>
              rintro ys W' rfl ⟨⟨q14, q15⟩, hBW, hKF⟩
              rw [placed_length] at q15
              have e14 := q14.cell
              have f14 := q14.frozen
              have Q14 := run.hid q14
              have Q15 := run.hid q15
              have HBW := run.hid hBW
              have HKF := run.hid hKF
              have HIN2 := run.hid (fun W'' h1 h2 h3 => HIN.out W'' h1 h2 h3 (HAG.out.2 (by first | rfl | trivial)))
              clear q14 q15 hBW hKF HIN HAG HSI H14 H15
              gi_wp2
              exact ⟨HKF.out.trans ((KeepsOthers.setCell _ _ _).from _), ⟨by simp [World.setCell]; exact HBW.out.size, (Below.heap_setCell _ _ _ _ (by show b ≠ b14; omega)).trans (HBW.out.block b (by omega))⟩, HIN2.out _ ((HB.out.trans HBW.out).setCell (p := ⟨b14, 0, none⟩) (Nat.le_refl b14) _) (by have h := Q14.out.set (.int .i64 1); exact h) (Q15.out.other (by omega) _)⟩
            case stop4 =>
              rintro c ys W' _ h
              exact h.elim
          · have X0 : Hid (Boxed W (b14 + 1) 3 (.int .i64 ((cl L).length : Nat))) := by have h := H15.out; rw [inr0_pos hk] at h; exact h
            have hk2 : ((k : Int) == 0) = false := by rw [beq_eq_false_iff_ne]; omega
            gi_wp2
            exact ⟨(KeepsOthers.setCell _ _ _).from _, ⟨by simp [World.setCell], Below.heap_setCell _ _ _ _ (by show b ≠ b14; omega)⟩, HIN.out _ (HB.out.setCell (p := ⟨b14, 0, none⟩) (Nat.le_refl b14) _) (H14.out.set _) (X0.out.other (by omega) _) (HAG.out.2 (by first | rfl | trivial))⟩
        · have hp1 : ((pl : Int) == (pn : Int)) = false := by rw [beq_eq_false_iff_ne]; omega
          gi_wp2
          exact ⟨(KeepsOthers.setCell _ _ _).from _, rfl, fun h => hp (HAG.out.1 h)⟩
      case done3 =>
        rintro D3 ys W hD3 rfl ⟨h14, h15, ha, hB⟩ hK3
        have hsW := hB.size
        have hB7 := HB9.out.trans (hB.mono (by omega))
        have RD := HRD.out W hB7
        rw [placed_length] at h14 h15
        have h15' : Boxed W (b14 + 1) 3 (.int .i64 ((cl L).length : Nat)) := by
          have h := h15
          by_cases h0 : (cl L).length = 0
          · rw [h0] at h ⊢; exact h
          · rw [inr0_pos h0] at h; exact h
        have c3 := (HM0.out W hB7).cell
        have c4 := (HM1.out W hB7).cell
        have f4 := (HM1.out W hB7).frozen
        have c5x := RD.w5.cell
        have c8 := (boxed_below F8.out hB (by omega)).cell
        have c11 := (boxed_below F11.out hB (by omega)).cell
        have c14 := h14.cell
        have c15 := h15'.cell
        have kD2 := (hB.block D2 (by omega)).trans HK2.out
        have kD1 := (hB.block D1 (by omega)).trans HK1.out
        have HM1W := run.hid (HM1.out W hB7)
        have HBEW := run.hid (HBEL.out W hB7)
        have KD1 := run.hid kD1
        have KD2 := run.hid kD2
        have KD3 := run.hid hK3
        have hD3' := (Array.getElem?_eq_some_iff.1 hK3).1
        have hle := HBEW.out.size
        clear RD h14 h15 h15' ha hB hB7 kD1 kD2 hK3 HRD HM0 HM1 HM7 HSTOP HBEL X14 X15 F8 F11 HK1 HK2 HB9
        generalize hNN : (cl L).length = NN at *
        have HAL := run.hid (fun X => alive_any X)
        have hfin : Hid (∀ w' , Below W.heap.size W w' → Boxed w' (w.heap.size + 1) 4 (.bool false) ∧ w'.heap[D1]? = some (.deferred (some [])) ∧ w'.heap[D2]? = some (.deferred (some [])) ∧ w'.heap[D3]? = some (.deferred (some [])) ∧ Below w.heap.size w w') := fun w' h => ⟨boxed_below HM1W.out h (by omega), (h.block D1 (by omega)).trans KD1.out, (h.block D2 (by omega)).trans KD2.out, (h.block D3 (by omega)).trans KD3.out, HBEW.out.trans (h.mono hle)⟩
        clear HM1W HBEW KD1 KD2 KD3 HB8 H8 X11 hK1'
        by_cases hN : (NN : Int) ≤ most
        · have hd1 : decide ((NN : Int) ≤ most) = true := decide_eq_true hN
          obtain rfl := hFa hN
          clear hFa hFb
          gi_wp2_with fail
          try any_goals (rename_i hu _; exact absurd hu (by intro hu; cases hu))
          all_goals
           refine ⟨trivial, ?_⟩
           refine (callsIn_wide.2 (HAL.out W)).mono ?_
           rintro e w10 ⟨rfl, hb10⟩
           obtain ⟨q4, qD1, qD2, qD3, qB⟩ := hfin.out w10 hb10
           have e4 := q4.cell
           have g4 := q4.frozen
           have R4 := run.hid (q4.set (.bool true))
           have RB := run.hid (qB.setCell (p := ⟨w.heap.size + 1, 0, none⟩) (by show w.heap.size ≤ w.heap.size + 1; omega) (.bool true))
           have S1 := run.hid ((Below.heap_setCell w10 ⟨w.heap.size + 1, 0, none⟩ (.bool true) D1 (by show D1 ≠ w.heap.size + 1; omega)).trans qD1)
           have S2 := run.hid ((Below.heap_setCell w10 ⟨w.heap.size + 1, 0, none⟩ (.bool true) D2 (by show D2 ≠ w.heap.size + 1; omega)).trans qD2)
           have S3 := run.hid ((Below.heap_setCell w10 ⟨w.heap.size + 1, 0, none⟩ (.bool true) D3 (by show D3 ≠ w.heap.size + 1; omega)).trans qD3)
           clear q4 qD1 qD2 qD3 qB hfin HAL hb10 c3 c4 f4 c5x c8 c11 c14 c15
           gi_wp2
           generalize w10.setCell ⟨w.heap.size + 1, 0, none⟩ (.bool true) = w11 at *
           have T2 : (w11.putObj D3 (.deferred none)).heap[D2]? = some (.deferred (some [])) := (World.putObj_heap_other (by omega)).trans S2.out
           have T1 : ((w11.putObj D3 (.deferred none)).putObj D2 (.deferred none)).heap[D1]? = some (.deferred (some [])) := (World.putObj_heap_other (by omega)).trans ((World.putObj_heap_other (by omega)).trans S1.out)
           have T4 : Boxed (((w11.putObj D3 (.deferred none)).putObj D2 (.deferred none)).putObj D1 (.deferred none)) (w.heap.size + 1) 4 (.bool true) := (World.putObj_heap_other (by omega)).trans ((World.putObj_heap_other (by omega)).trans ((World.putObj_heap_other (by omega)).trans R4.out))
           refine ⟨by simp, .inl ⟨_, _, rfl, run_takeDeferred S3.out, ?_⟩⟩
           refine ⟨by simp, .inl ⟨_, _, rfl, run_takeDeferred T2, ?_⟩⟩
           refine ⟨by simp, .inl ⟨_, _, rfl, run_takeDeferred T1, ?_⟩⟩
           refine ⟨.bool true, ?_, rfl, ?_⟩
           · have e := T4.cell
             simp [results, go_sem, e]
           · exact ((RB.out.trans (belowK_b (w := w) (Nat.le_refl _) _ D3 _ (.deferred none) (by omega) S3.out rfl rfl)).trans (belowK_b (w := w) (Nat.le_refl _) _ D2 _ (.deferred none) (by omega) T2 rfl rfl)).trans (belowK_b (w := w) (Nat.le_refl _) _ D1 _ (.deferred none) (by omega) T1 rfl rfl)
        · have hN2 : most < (NN : Int) := by omega
          have hd1 : decide ((NN : Int) ≤ most) = false := decide_eq_false hN
          have hd2 : decide (most < (NN : Int)) = true := decide_eq_true hN2
          obtain rfl := hFb hN2
          clear hFa hFb
          gi_wp2_with fail
          try any_goals (rename_i hu _; exact absurd hu (by intro hu; cases hu))
          all_goals
           refine ⟨trivial, ?_⟩
           refine (callsIn_wide.2 (HAL.out W)).mono ?_
           rintro e w10 ⟨rfl, hb10⟩
           obtain ⟨q4, qD1, qD2, qD3, qB⟩ := hfin.out w10 hb10
           have e4 := q4.cell
           have g4 := q4.frozen
           have R4 := run.hid (q4.set (.bool true))
           have RB := run.hid (qB.setCell (p := ⟨w.heap.size + 1, 0, none⟩) (by show w.heap.size ≤ w.heap.size + 1; omega) (.bool true))
           have S1 := run.hid ((Below.heap_setCell w10 ⟨w.heap.size + 1, 0, none⟩ (.bool true) D1 (by show D1 ≠ w.heap.size + 1; omega)).trans qD1)
           have S2 := run.hid ((Below.heap_setCell w10 ⟨w.heap.size + 1, 0, none⟩ (.bool true) D2 (by show D2 ≠ w.heap.size + 1; omega)).trans qD2)
           have S3 := run.hid ((Below.heap_setCell w10 ⟨w.heap.size + 1, 0, none⟩ (.bool true) D3 (by show D3 ≠ w.heap.size + 1; omega)).trans qD3)
           clear q4 qD1 qD2 qD3 qB hfin HAL hb10 c3 c4 f4 c5x c8 c11 c14 c15
           gi_wp2
           generalize w10.setCell ⟨w.heap.size + 1, 0, none⟩ (.bool true) = w11 at *
           have T2 : (w11.putObj D3 (.deferred none)).heap[D2]? = some (.deferred (some [])) := (World.putObj_heap_other (by omega)).trans S2.out
           have T1 : ((w11.putObj D3 (.deferred none)).putObj D2 (.deferred none)).heap[D1]? = some (.deferred (some [])) := (World.putObj_heap_other (by omega)).trans ((World.putObj_heap_other (by omega)).trans S1.out)
           have T4 : Boxed (((w11.putObj D3 (.deferred none)).putObj D2 (.deferred none)).putObj D1 (.deferred none)) (w.heap.size + 1) 4 (.bool true) := (World.putObj_heap_other (by omega)).trans ((World.putObj_heap_other (by omega)).trans ((World.putObj_heap_other (by omega)).trans R4.out))
           refine ⟨by simp, .inl ⟨_, _, rfl, run_takeDeferred S3.out, ?_⟩⟩
           refine ⟨by simp, .inl ⟨_, _, rfl, run_takeDeferred T2, ?_⟩⟩
           refine ⟨by simp, .inl ⟨_, _, rfl, run_takeDeferred T1, ?_⟩⟩
           refine ⟨.bool true, ?_, rfl, ?_⟩
           · have e := T4.cell
             simp [results, go_sem, e]
           · exact ((RB.out.trans (belowK_b (w := w) (Nat.le_refl _) _ D3 _ (.deferred none) (by omega) S3.out rfl rfl)).trans (belowK_b (w := w) (Nat.le_refl _) _ D2 _ (.deferred none) (by omega) T2 rfl rfl)).trans (belowK_b (w := w) (Nat.le_refl _) _ D1 _ (.deferred none) (by omega) T1 rfl rfl)
      case stop3 =>
        rintro D3 c pre W hD3 hp ⟨-, h⟩ hK3
        exact absurd (agp_prefix hp) h
  case stop =>
    rintro D c pre W hD hp ⟨-, h⟩ hK
    exact absurd (agr_prefix hp) h
end Go.Proofs.Ytfncneedpnikbaa.clu
