/-
  The editor's steps in memory; Undo, Redo.
-/
import Derived.Test.YtgfjaegjkklcpaaEdTurned
import Derived.BigRegion
import Derived.BigQuiet
namespace Go.Proofs.Ytgfjaegjkklcpaa.ed
open Go Go.RowKit Go.Proofs
set_option linter.unusedVariables false
/-- a step: the line and the caret ahead of it, the line and the caret behind it -/
structure St where
  bef : List TV
  ahead : Nat
  aft : List TV
  after : Nat
/-- a row that is read, and lies in none of these blocks -/
def Read (S : Nat → Prop) (w : World) (a : Option Addr) (c : Nat) (F : List TV) : Prop := Src 2 w a F.length c (cellsT F) ∧ ∀ k off, a = some ⟨k, off, none⟩ → ¬ S k
theorem Read.kept {S S1 S' : Nat → Prop} {w w' : World} {a : Option Addr} {c : Nat} {F : List TV} (h : Read S w a c F) (hk : Kept S1 w w') (h1 : ∀ k, S1 k → S k) (h2 : ∀ k, S' k → S k ∨ w.heap.size ≤ k) : Read S' w' a c F := by
  refine ⟨h.1.kept hk (fun b off e hb => h.2 b off e (h1 b hb)), fun k off e hk' => ?_⟩
  rcases h2 k hk' with h3 | h3
  · exact h.2 k off e h3
  · rcases h.1.at' with ⟨h4, -⟩ | ⟨b, off', h4, hlt, -⟩
    · rw [h4] at e; cases e
    · rw [h4] at e
      simp only [Option.some.injEq, Addr.mk.injEq] at e
      omega
/-- a step in memory: where it begins, what went out, what came in -/
def StepAt (S : Nat → Prop) (x : St) (sb off : Nat) (w : World) : Prop :=
  ∃ A out inn Z oa oc ia ic, x.bef = A ++ out ++ Z ∧ x.aft = A ++ inn ++ Z ∧ w.cell? ⟨sb, off, none⟩ = some (.int .i64 (A.length : Nat)) ∧ w.cell? ⟨sb, off + 1, none⟩ = some (.slice oa out.length oc) ∧ w.cell? ⟨sb, off + 2, none⟩ = some (.slice ia inn.length ic) ∧ w.cell? ⟨sb, off + 3, none⟩ = some (.int .i64 (x.ahead : Nat)) ∧ w.cell? ⟨sb, off + 4, none⟩ = some (.int .i64 (x.after : Nat)) ∧ Read S w oa oc out ∧ Read S w ia ic inn
/-- the steps in memory -/
def StepsAt (S : Nat → Prop) (sv : Value) (L : List St) (w : World) : Prop :=
  ∃ a cap, sv = .slice a L.length cap ∧ L.length ≤ cap ∧ ((a = none ∧ cap = 0) ∨ ∃ sb off, a = some ⟨sb, off, none⟩ ∧ sb < w.heap.size ∧ ¬ S sb ∧ ∀ j x, L[j]? = some x → StepAt S x sb (off + j * 5) w)
theorem StepAt.kept {S S1 S' : Nat → Prop} {x : St} {sb off : Nat} {w w' : World} (h : StepAt S x sb off w) (hlt : sb < w.heap.size) (hs : ¬ S sb) (hk : Kept S1 w w') (h1 : ∀ k, S1 k → S k) (h2 : ∀ k, S' k → S k ∨ w.heap.size ≤ k) : StepAt S' x sb off w' := by
  obtain ⟨A, out, inn, Z, oa, oc, ia, ic, e1, e2, c0, c1, c2, c3, c4, r1, r2⟩ := h
  have hb := hk.block sb hlt (fun h => hs (h1 sb h))
  exact ⟨A, out, inn, Z, oa, oc, ia, ic, e1, e2, (World.cell?_of_block (a := ⟨sb, off, none⟩) hb).trans c0, (World.cell?_of_block (a := ⟨sb, off + 1, none⟩) hb).trans c1, (World.cell?_of_block (a := ⟨sb, off + 2, none⟩) hb).trans c2, (World.cell?_of_block (a := ⟨sb, off + 3, none⟩) hb).trans c3, (World.cell?_of_block (a := ⟨sb, off + 4, none⟩) hb).trans c4, r1.kept hk h1 h2, r2.kept hk h1 h2⟩
theorem StepsAt.kept {S S1 S' : Nat → Prop} {sv : Value} {L : List St} {w w' : World} (h : StepsAt S sv L w) (hk : Kept S1 w w') (h1 : ∀ k, S1 k → S k) (h2 : ∀ k, S' k → S k ∨ w.heap.size ≤ k) : StepsAt S' sv L w' := by
  obtain ⟨a, cap, e, hl, h3⟩ := h
  refine ⟨a, cap, e, hl, ?_⟩
  rcases h3 with h3 | ⟨sb, off, rfl, hlt, hs, hx⟩
  · exact .inl h3
  · refine .inr ⟨sb, off, rfl, Nat.lt_of_lt_of_le hlt hk.size, fun h => ?_, fun j x hj => (hx j x hj).kept hlt hs hk h1 h2⟩
    rcases h2 sb h with h4 | h4
    · exact hs h4
    · omega
/-- an editor as it stands -/
structure Sta where
  F : List TV
  ca : Nat
  an : Int
  L : List St
  dn : Nat
/-- it lies in memory; S: what nobody's steps lie in -/
structure EdS (S : Nat → Prop) (b g lb : Nat) (s : Sta) (w : World) : Prop where
  ed : ∃ sv, Ed b g lb s.F s.ca s.an sv s.dn w ∧ StepsAt S sv s.L w
  sb : S b
  sg : S g
  sl : S lb
abbrev Own (b g lb : Nat) : Nat → Prop := fun x => x = b ∨ x = g ∨ x = lb
theorem EdS.own {S : Nat → Prop} {b g lb : Nat} {s : Sta} {w : World} (h : EdS S b g lb s w) : ∀ k, Own b g lb k → S k := by
  rintro k (rfl | rfl | rfl)
  · exact h.sb
  · exact h.sg
  · exact h.sl
/-- what an editor's method leaves: the editor as it stands then, and all else as it was -/
def After (S : Nat → Prop) (b g lb : Nat) (s : Sta) (w w' : World) : Prop := ∃ lb', EdS (fun x => S x ∨ x = lb') b g lb' s w' ∧ (lb' = lb ∨ w.heap.size ≤ lb') ∧ Kept (Own b g lb) w w'
theorem EdS.kept {S S1 S' : Nat → Prop} {b g lb : Nat} {s : Sta} {w w' : World} (h : EdS S b g lb s w) (hk : Kept S1 w w') (h1 : ∀ k, S1 k → S k ∧ ¬ Own b g lb k) (h2 : ∀ k, S' k → S k ∨ w.heap.size ≤ k) (h3 : ∀ k, S k → S' k) : EdS S' b g lb s w' := by
  obtain ⟨sv, hE, hS⟩ := h.ed
  exact ⟨⟨sv, hE.kept hk (fun h => (h1 _ h).2 (.inl rfl)) (fun h => (h1 _ h).2 (.inr (.inl rfl))) (fun h => (h1 _ h).2 (.inr (.inr rfl))), hS.kept hk (fun k h => (h1 k h).1) h2⟩, h3 _ h.sb, h3 _ h.sg, h3 _ h.sl⟩
theorem After.stay {S : Nat → Prop} {b g lb : Nat} {s : Sta} {w w' : World} (h : EdS S b g lb s w) (hk : Kept (fun _ => False) w w') : After S b g lb s w w' :=
  ⟨lb, h.kept hk (fun _ h => h.elim) (fun k h' => by rcases h' with h' | rfl; exact .inl h'; exact .inl h.sl) (fun k h => .inl h), .inl rfl, hk.more (fun _ _ h => h.elim)⟩
theorem After.turned {S : Nat → Prop} {b g lb lb' : Nat} {L : List St} {F : List TV} {ca : Nat} {an : Int} {dn : Nat} {sv : Value} {w w' : World} (hs : StepsAt S sv L w) (hb : S b) (hg : S g) (hl : S lb) (hE : Ed b g lb' F ca an sv dn w') (hlb : lb' = lb ∨ w.heap.size ≤ lb') (hk : Kept (Own b g lb) w w') : After S b g lb ⟨F, ca, an, L, dn⟩ w w' := by
  refine ⟨lb', ⟨⟨sv, hE, hs.kept hk (fun k h => ?_) (fun k h => ?_)⟩, .inl hb, .inl hg, .inr rfl⟩, hlb, hk⟩
  · rcases h with rfl | rfl | rfl
    · exact hb
    · exact hg
    · exact hl
  · rcases h with h | rfl
    · exact .inl h
    · rcases hlb with h | h
      · exact .inl (h ▸ hl)
      · exact .inr h
theorem turn_back {A out inn Z : List TV} : (A ++ inn ++ Z).take A.length ++ out ++ (A ++ inn ++ Z).drop (A.length + inn.length) = A ++ out ++ Z := by
  rw [List.append_assoc A inn Z, List.take_append_of_le_length (Nat.le_refl _), List.take_of_length_le (Nat.le_refl _), ← List.drop_drop, List.drop_append_of_le_length (Nat.le_refl _), List.drop_of_length_le (Nat.le_refl A.length), List.nil_append, List.drop_append_of_le_length (Nat.le_refl _), List.drop_of_length_le (Nat.le_refl inn.length), List.nil_append]
set_option maxRecDepth 100000 in
set_option maxHeartbeats 4000000 in
theorem undo_any {S : Nat → Prop} {b g lb : Nat} {F : List TV} {ca : Nat} {an : Int} {L : List St} {n : Nat} {w : World} (h : EdS S b g lb ⟨F, ca, an, L, n + 1⟩ w) (x : St) (hx : L[n]? = some x) (hF : F = x.aft) (hn : n < 1024) (hb1 : x.bef.length ≤ 1048576) (hb2 : x.aft.length ≤ 1048576) :
    Calls Try.prog 11 #[.pointer (some ⟨b, 0, none⟩)] w fun e w' => e = .returned (.bool true) ∧ After S b g lb ⟨x.bef, x.ahead, -1, L, n⟩ w w' := by
  obtain ⟨⟨sv, hE, hS⟩, sb, sg, sl⟩ := h
  dsimp only at hE hS
  obtain ⟨a, cap, rfl, hLc, h3⟩ := hS
  have hnL : n < L.length := (List.getElem?_eq_some_iff.1 hx).1
  rcases h3 with ⟨-, rfl⟩ | ⟨sbl, off, rfl, hslt, hsS, hat⟩
  · omega
  have hS2 : StepsAt S (.slice (some ⟨sbl, off, none⟩) L.length cap) L w := ⟨_, _, rfl, hLc, .inr ⟨sbl, off, rfl, hslt, hsS, hat⟩⟩
  obtain ⟨A, out, inn, Z, oa, oc, ia, ic, e1, e2, k0, k1, k2, k3, k4, r1, r2⟩ := hat n x hx
  have hbox := hE.box
  have hne : sbl ≠ b := fun e => hsS (e ▸ sb)
  have hblt := (Array.getElem?_eq_some_iff.1 hbox).1
  have c3 := blk_cell hbox 3
  have c4 := blk_cell hbox 4
  change w.cell? _ = some (.slice (some ⟨sbl, off, none⟩) L.length cap) at c3
  change w.cell? _ = some (.int .i64 ((n + 1 : Nat) : Int)) at c4
  have f4 := blk_free hbox 4
  obtain ⟨w1, hw1⟩ : ∃ w1, w1 = w.setCell ⟨b, 4, none⟩ (.int .i64 (n : Nat)) := ⟨_, rfl⟩
  have hb1x : w1.heap[b]? = some (.cells #[.pointer (some ⟨g, 0, none⟩), .int .i64 (ca : Nat), .int .i64 an, .slice (some ⟨sbl, off, none⟩) L.length cap, .int .i64 (n : Nat)] 80 (0, 0)) := by rw [hw1]; exact heap_setCell_same _ _ 4 _ _ _ hbox
  have hk1 : Kept (fun k => k = b) w w1 := by rw [hw1]; exact Kept.setCell (b := b) (S := fun k => k = b) (Kept.refl _ w) (.inl rfl) _
  have hsb := hk1.block sbl hslt hne
  have d3 := blk_cell hb1x 3
  have d4 := blk_cell hb1x 4
  change w1.cell? _ = some (.slice (some ⟨sbl, off, none⟩) L.length cap) at d3
  change w1.cell? _ = some (.int .i64 (n : Nat)) at d4
  have m0 := (World.cell?_of_block (a := ⟨sbl, off + n * 5, none⟩) hsb).trans k0
  have m1 := (World.cell?_of_block (a := ⟨sbl, off + n * 5 + 1, none⟩) hsb).trans k1
  have m2 := (World.cell?_of_block (a := ⟨sbl, off + n * 5 + 2, none⟩) hsb).trans k2
  have m3 := (World.cell?_of_block (a := ⟨sbl, off + n * 5 + 3, none⟩) hsb).trans k3
  have m4 := (World.cell?_of_block (a := ⟨sbl, off + n * 5 + 4, none⟩) hsb).trans k4
  have hsz1 : w1.heap.size = w.heap.size := by rw [hw1]; simp [World.setCell]
  have hal : ∀ q, q < w.heap.size → ∀ o v i, w1.cell? ⟨q, i, none⟩ = some v → (w1.alloc o).cell? ⟨q, i, none⟩ = some v := fun q hq o v i h => (World.cell?_of_block (a := ⟨q, i, none⟩) (blk_old o (show q < w1.heap.size by rw [hsz1]; exact hq))).trans h
  have x3 := hal b hblt (.cells #[.int .i64 0, .slice none 0 0, .slice none 0 0, .int .i64 0, .int .i64 0] 88) _ _ d3
  have x4 := hal b hblt (.cells #[.int .i64 0, .slice none 0 0, .slice none 0 0, .int .i64 0, .int .i64 0] 88) _ _ d4
  have y0 := hal sbl hslt (.cells #[.int .i64 0, .slice none 0 0, .slice none 0 0, .int .i64 0, .int .i64 0] 88) _ _ m0
  have y1 := hal sbl hslt (.cells #[.int .i64 0, .slice none 0 0, .slice none 0 0, .int .i64 0, .int .i64 0] 88) _ _ m1
  have y2 := hal sbl hslt (.cells #[.int .i64 0, .slice none 0 0, .slice none 0 0, .int .i64 0, .int .i64 0] 88) _ _ m2
  have y3 := hal sbl hslt (.cells #[.int .i64 0, .slice none 0 0, .slice none 0 0, .int .i64 0, .int .i64 0] 88) _ _ m3
  have y4 := hal sbl hslt (.cells #[.int .i64 0, .slice none 0 0, .slice none 0 0, .int .i64 0, .int .i64 0] 88) _ _ m4
  have hE1 : Ed b g lb F (ca : Nat) an (.slice (some ⟨sbl, off, none⟩) L.length cap) (n : Nat) w1 := by
    obtain ⟨gn, gcap, gf, gu, gA, hG, hr⟩ := hE.gap
    exact ⟨hb1x, ⟨gn, gcap, gf, gu, gA, hG.kept hk1 hE.bg.symm hE.bl.symm, hr⟩, hE.bg, hE.bl⟩
  have hr1 : Read S w1 oa oc out := r1.kept hk1 (fun k h => h ▸ sb) (fun k h => .inl h)
  have hFl : F = A ++ inn ++ Z := hF.trans e2
  have HT := run.hid (fun (X : World) (hX : Kept (fun _ => False) w1 X) => turn_any (hE1.kept hX (fun h => h) (fun h => h) (fun h => h)) A.length inn.length oa oc (x.ahead : Nat) (hr1.1.kept hX (fun _ _ _ h => h)) (by rw [hFl, List.length_append, List.length_append]; omega) (by rw [hF]; exact hb2) (by rw [e1, List.length_append, List.length_append] at hb1; omega) (fun k off e => ⟨fun h => hr1.2 k off e (h ▸ sg), fun h => hr1.2 k off e (h ▸ sl)⟩))
  have HZ := run.hid (show F.take A.length ++ out ++ F.drop (A.length + inn.length) = x.bef from by rw [hFl, e1]; exact turn_back)
  have HK := run.hid (And.intro hk1 hS2)
  have HO := run.hid (And.intro sb (And.intro sg sl))
  clear hsz1 hal hE hat hS2 r1 r2 k0 k1 k2 k3 k4 hb1x hE1 hr1 e1 e2 hF hFl hx hb1 hb2 hsb hbox hsS hk1 sb sg sl
  generalize A.length = AL at *
  generalize out.length = OL at *
  generalize inn.length = IL at *
  generalize L.length = LL at *
  go_enter Try.func11, Try.ntmps11
  go_upto_region 4 with fail
  rw [← hw1]
  clear hw1 c3 c4 f4
  go_region
  have HKA := run.hid (show Kept (fun _ => False) w1 ((w1.alloc (.cells #[.int .i64 (AL : Nat), .slice oa OL oc, .slice ia IL ic, .int .i64 (x.ahead : Nat), .int .i64 (x.after : Nat)] 88)).drew) from ((Kept.refl _ w1).alloc _).drew)
  have hcel := heap_alloc_new w1 (.cells #[.int .i64 (AL : Nat), .slice oa OL oc, .slice ia IL ic, .int .i64 (x.ahead : Nat), .int .i64 (x.after : Nat)] 88)
  clear x3 x4 y0 y1 y2 y3 y4 m0 m1 m2 m3 m4 d3 d4
  go_wp2_with fail
  refine (HT.out _ HKA.out).mono ?_
  rintro e w2 ⟨rfl, lb2, hE2, hlb2, hk2⟩
  obtain ⟨sb, sg, sl⟩ := HO.out
  obtain ⟨hk1, hs1⟩ := HK.out
  have hkk := (hk1.more (S' := Own b g lb) (fun k _ h => .inl h)).trans ((HKA.out.more (S' := Own b g lb) (fun _ _ h => h.elim)).trans hk2 (fun k _ h => h)) (fun k _ h => h)
  have hsz := hk1.size
  have hsz2 := HKA.out.size
  rw [HZ.out] at hE2
  have HF := run.hid (After.turned (ca := x.ahead) (w := w) hs1 sb sg sl hE2 (hlb2.elim .inl (fun h => .inr (by omega))) hkk)
  clear hE2 hk2 hk1 hs1 hkk HT HZ HK HKA hcel
  go_wp2
  go_ret
  exact ⟨rfl, HF.out⟩
set_option maxRecDepth 100000 in
set_option maxHeartbeats 4000000 in
theorem redo_any {S : Nat → Prop} {b g lb : Nat} {F : List TV} {ca : Nat} {an : Int} {L : List St} {n : Nat} {w : World} (h : EdS S b g lb ⟨F, ca, an, L, n⟩ w) (x : St) (hx : L[n]? = some x) (hF : F = x.bef) (hn : n < 1024) (hb1 : x.bef.length ≤ 1048576) (hb2 : x.aft.length ≤ 1048576) :
    Calls Try.prog 25 #[.pointer (some ⟨b, 0, none⟩)] w fun e w' => e = .returned (.bool true) ∧ After S b g lb ⟨x.aft, x.after, -1, L, n + 1⟩ w w' := by
  obtain ⟨⟨sv, hE, hS⟩, sb, sg, sl⟩ := h
  dsimp only at hE hS
  obtain ⟨a, cap, rfl, hLc, h3⟩ := hS
  have hnL : n < L.length := (List.getElem?_eq_some_iff.1 hx).1
  rcases h3 with ⟨-, rfl⟩ | ⟨sbl, off, rfl, hslt, hsS, hat⟩
  · omega
  have hS2 : StepsAt S (.slice (some ⟨sbl, off, none⟩) L.length cap) L w := ⟨_, _, rfl, hLc, .inr ⟨sbl, off, rfl, hslt, hsS, hat⟩⟩
  obtain ⟨A, out, inn, Z, oa, oc, ia, ic, e1, e2, k0, k1, k2, k3, k4, r1, r2⟩ := hat n x hx
  have hbox := hE.box
  have hne : sbl ≠ b := fun e => hsS (e ▸ sb)
  have hblt := (Array.getElem?_eq_some_iff.1 hbox).1
  have d3 := blk_cell hbox 3
  have d4 := blk_cell hbox 4
  change w.cell? _ = some (.slice (some ⟨sbl, off, none⟩) L.length cap) at d3
  change w.cell? _ = some (.int .i64 (n : Nat)) at d4
  have hFl : F = A ++ out ++ Z := hF.trans e1
  have HT := run.hid (fun (X : World) (hX : Kept (fun k => k = b) w X) (hbX : X.heap[b]? = some (.cells #[.pointer (some ⟨g, 0, none⟩), .int .i64 (ca : Nat), .int .i64 an, .slice (some ⟨sbl, off, none⟩) L.length cap, .int .i64 ((n + 1 : Nat) : Int)] 80 (0, 0))) => turn_any (show Ed b g lb F (ca : Nat) an (.slice (some ⟨sbl, off, none⟩) L.length cap) ((n + 1 : Nat) : Int) X from by
      obtain ⟨gn, gcap, gf, gu, gA, hG, hr⟩ := hE.gap
      exact ⟨hbX, ⟨gn, gcap, gf, gu, gA, hG.kept hX hE.bg.symm hE.bl.symm, hr⟩, hE.bg, hE.bl⟩) A.length out.length ia ic (x.after : Nat) (r2.1.kept hX (fun k off e h => r2.2 k off e (h ▸ sb))) (by rw [hFl, List.length_append, List.length_append]; omega) (by rw [hF]; exact hb1) (by rw [e2, List.length_append, List.length_append] at hb2; omega) (fun k off e => ⟨fun h => r2.2 k off e (h ▸ sg), fun h => r2.2 k off e (h ▸ sl)⟩))
  have HZ := run.hid (show F.take A.length ++ inn ++ F.drop (A.length + out.length) = x.aft from by rw [hFl, e2]; exact turn_back)
  have HK := run.hid hS2
  have HO := run.hid (And.intro sb (And.intro sg sl))
  have HBX := run.hid hbox
  have HKS := run.hid (And.intro k0 (And.intro k1 (And.intro k2 (And.intro k3 k4))))
  clear hE hat hS2 r1 r2 k0 k1 k2 k3 k4 e1 e2 hF hFl hx hb1 hb2 hbox hsS sb sg sl
  generalize A.length = AL at *
  generalize out.length = OL at *
  generalize inn.length = IL at *
  have hnq : ((n : Int) == (L.length : Int)) = false := by
    simp only [beq_eq_false_iff_ne, ne_eq]
    omega
  generalize L.length = LL at *
  go_enter Try.func25, Try.ntmps25
  go_upto_region 1 with fail
  go_quiet (fail)
  go_upto_region 3 with fail
  have hkd : Kept (fun _ => False) w (w.drewN nq) := ⟨rfl, rfl, rfl, Nat.le_refl _, fun _ _ _ => rfl⟩
  have hszd : (w.drewN nq).heap.size = w.heap.size := rfl
  generalize w.drewN nq = wd at *
  obtain ⟨k0, k1, k2, k3, k4⟩ := HKS.out
  have hbd : wd.heap[b]? = _ := (hkd.block b hblt (fun h => h)).trans HBX.out
  have hsd := hkd.block sbl hslt (fun h => h)
  have z3 := blk_cell hbd 3
  have z4 := blk_cell hbd 4
  change wd.cell? _ = some (.slice (some ⟨sbl, off, none⟩) LL cap) at z3
  change wd.cell? _ = some (.int .i64 (n : Nat)) at z4
  have m0 := (World.cell?_of_block (a := ⟨sbl, off + n * 5, none⟩) hsd).trans k0
  have m1 := (World.cell?_of_block (a := ⟨sbl, off + n * 5 + 1, none⟩) hsd).trans k1
  have m2 := (World.cell?_of_block (a := ⟨sbl, off + n * 5 + 2, none⟩) hsd).trans k2
  have m3 := (World.cell?_of_block (a := ⟨sbl, off + n * 5 + 3, none⟩) hsd).trans k3
  have m4 := (World.cell?_of_block (a := ⟨sbl, off + n * 5 + 4, none⟩) hsd).trans k4
  have hal : ∀ q, q < w.heap.size → ∀ o v i, wd.cell? ⟨q, i, none⟩ = some v → (wd.alloc o).cell? ⟨q, i, none⟩ = some v := fun q hq o v i h => (World.cell?_of_block (a := ⟨q, i, none⟩) (blk_old o (show q < wd.heap.size by rw [hszd]; exact hq))).trans h
  have x3 := hal b hblt (.cells #[.int .i64 0, .slice none 0 0, .slice none 0 0, .int .i64 0, .int .i64 0] 88) _ _ z3
  have x4 := hal b hblt (.cells #[.int .i64 0, .slice none 0 0, .slice none 0 0, .int .i64 0, .int .i64 0] 88) _ _ z4
  have y0 := hal sbl hslt (.cells #[.int .i64 0, .slice none 0 0, .slice none 0 0, .int .i64 0, .int .i64 0] 88) _ _ m0
  have y1 := hal sbl hslt (.cells #[.int .i64 0, .slice none 0 0, .slice none 0 0, .int .i64 0, .int .i64 0] 88) _ _ m1
  have y2 := hal sbl hslt (.cells #[.int .i64 0, .slice none 0 0, .slice none 0 0, .int .i64 0, .int .i64 0] 88) _ _ m2
  have y3 := hal sbl hslt (.cells #[.int .i64 0, .slice none 0 0, .slice none 0 0, .int .i64 0, .int .i64 0] 88) _ _ m3
  have y4 := hal sbl hslt (.cells #[.int .i64 0, .slice none 0 0, .slice none 0 0, .int .i64 0, .int .i64 0] 88) _ _ m4
  have HBD := run.hid hbd
  have HLT := run.hid (And.intro hblt hszd)
  have HKD := run.hid hkd
  clear hszd hal k0 k1 k2 k3 k4 hsd hbd HKS HBX d3 d4 hkd
  go_region
  have HKA := run.hid (show Kept (fun _ => False) wd ((wd.alloc (.cells #[.int .i64 (AL : Nat), .slice oa OL oc, .slice ia IL ic, .int .i64 (x.ahead : Nat), .int .i64 (x.after : Nat)] 88)).drew) from ((Kept.refl _ wd).alloc _).drew)
  have hcel := heap_alloc_new wd (.cells #[.int .i64 (AL : Nat), .slice oa OL oc, .slice ia IL ic, .int .i64 (x.ahead : Nat), .int .i64 (x.after : Nat)] 88)
  have hcel2 : ((wd.alloc (.cells #[.int .i64 (AL : Nat), .slice oa OL oc, .slice ia IL ic, .int .i64 (x.ahead : Nat), .int .i64 (x.after : Nat)] 88)).drew).heap[wd.heap.size]? = _ := hcel
  have hbA : ((wd.alloc (.cells #[.int .i64 (AL : Nat), .slice oa OL oc, .slice ia IL ic, .int .i64 (x.ahead : Nat), .int .i64 (x.after : Nat)] 88)).drew).heap[b]? = _ := (HKA.out.block b (by rw [HLT.out.2]; exact HLT.out.1) (fun h => h)).trans HBD.out
  clear hcel x3 x4 y0 y1 y2 y3 y4 m0 m1 m2 m3 m4 z3 z4
  generalize ((wd.alloc (.cells #[.int .i64 (AL : Nat), .slice oa OL oc, .slice ia IL ic, .int .i64 (x.ahead : Nat), .int .i64 (x.after : Nat)] 88)).drew) = wA at *
  have hlt := HLT.out.1
  rw [← HLT.out.2] at hlt
  have hnb : wd.heap.size ≠ b := by omega
  generalize wd.heap.size = kx at *
  have q4 := blk_cell hbA 4
  change wA.cell? _ = some (.int .i64 (n : Nat)) at q4
  have f4 := blk_free hbA 4
  obtain ⟨wB, hwB⟩ : ∃ wB, wB = wA.setCell ⟨b, 4, none⟩ (.int .i64 ((n : Int) + 1)) := ⟨_, rfl⟩
  have hkB : Kept (fun k => k = b) wA wB := by rw [hwB]; exact Kept.setCell (b := b) (S := fun k => k = b) (Kept.refl _ wA) (.inl rfl) _
  have hbB : wB.heap[b]? = some (.cells #[.pointer (some ⟨g, 0, none⟩), .int .i64 (ca : Nat), .int .i64 an, .slice (some ⟨sbl, off, none⟩) LL cap, .int .i64 ((n + 1 : Nat) : Int)] 80 (0, 0)) := by rw [hwB, show ((n : Int) + 1) = ((n + 1 : Nat) : Int) from by omega]; exact heap_setCell_same _ _ 4 _ _ _ hbA
  have hcB := (hkB.block kx (Array.getElem?_eq_some_iff.1 hcel2).1 hnb).trans hcel2
  have i0 := blk_cell hcB 0
  have i1 := blk_cell hcB 1
  have i2 := blk_cell hcB 2
  have i4 := blk_cell hcB 4
  change wB.cell? _ = some (.int .i64 (AL : Nat)) at i0
  change wB.cell? _ = some (.slice oa OL oc) at i1
  change wB.cell? _ = some (.slice ia IL ic) at i2
  change wB.cell? _ = some (.int .i64 (x.after : Nat)) at i4
  have hkw : Kept (fun k => k = b) w wB := ((HKD.out.trans HKA.out (fun _ _ h => h)).more (S' := fun k => k = b) (fun _ _ h => h.elim)).trans hkB (fun k _ h => h)
  have HT1 := run.hid (HT.out wB hkw hbB)
  have HKW := run.hid (And.intro hkw HK.out)
  clear HT hcel2 hbA hbB hcB hkB hkw HKA HK HKD HBD HLT hlt
  go_upto_region 5 with fail
  rw [← hwB]
  clear hwB q4 f4
  go_wp2_with fail
  refine HT1.out.mono ?_
  rintro e w2 ⟨rfl, lb2, hE2, hlb2, hk2⟩
  obtain ⟨sb, sg, sl⟩ := HO.out
  obtain ⟨hk1, hs1⟩ := HKW.out
  have hkk := (hk1.more (S' := Own b g lb) (fun k _ h => .inl h)).trans hk2 (fun k _ h => h)
  have hsz := hk1.size
  rw [HZ.out] at hE2
  have HF := run.hid (After.turned (ca := x.after) (w := w) hs1 sb sg sl hE2 (hlb2.elim .inl (fun h => .inr (by omega))) hkk)
  clear hE2 hk2 hk1 hs1 hkk HT1 HZ HKW
  go_wp2
  go_ret
  exact ⟨rfl, HF.out⟩
theorem undo_none {S : Nat → Prop} {b g lb : Nat} {F : List TV} {ca : Nat} {an : Int} {L : List St} {w : World} (h : EdS S b g lb ⟨F, ca, an, L, 0⟩ w) :
    Calls Try.prog 11 #[.pointer (some ⟨b, 0, none⟩)] w fun e w' => e = .returned (.bool false) ∧ After S b g lb ⟨F, ca, an, L, 0⟩ w w' := by
  have HA := run.hid (After.stay h (Kept.refl _ w))
  obtain ⟨⟨sv, hE, hS⟩, sb, sg, sl⟩ := h
  have c4 := blk_cell hE.box 4
  change w.cell? _ = some (.int .i64 ((0 : Nat) : Int)) at c4
  clear hE hS sb sg sl
  go_enter Try.func11, Try.ntmps11
  go_wp2
  go_ret
  exact ⟨rfl, HA.out⟩
theorem redo_none {S : Nat → Prop} {b g lb : Nat} {F : List TV} {ca : Nat} {an : Int} {L : List St} {w : World} (h : EdS S b g lb ⟨F, ca, an, L, L.length⟩ w) :
    Calls Try.prog 25 #[.pointer (some ⟨b, 0, none⟩)] w fun e w' => e = .returned (.bool false) ∧ After S b g lb ⟨F, ca, an, L, L.length⟩ w w' := by
  have HA := run.hid (fun (X : World) (hX : Kept (fun _ => False) w X) => After.stay h hX)
  obtain ⟨⟨sv, hE, hS⟩, sb, sg, sl⟩ := h
  obtain ⟨a, cap, rfl, hLc, h3⟩ := hS
  have c4 := blk_cell hE.box 4
  have c3 := blk_cell hE.box 3
  change w.cell? _ = some (.int .i64 (L.length : Nat)) at c4
  change w.cell? _ = some (.slice a L.length cap) at c3
  have hLL : ((L.length : Int) == (L.length : Int)) = true := by simp
  clear hE sb sg sl h3
  generalize L.length = LL at *
  go_enter Try.func25, Try.ntmps25
  go_upto_region 1 with fail
  go_quiet (fail)
  have hkd : Kept (fun _ => False) w (w.drewN nq) := ⟨rfl, rfl, rfl, Nat.le_refl _, fun _ _ _ => rfl⟩
  have HF := run.hid (HA.out _ hkd)
  clear HA hkd
  go_wp2
  go_ret
  exact ⟨rfl, HF.out⟩
end Go.Proofs.Ytgfjaegjkklcpaa.ed
