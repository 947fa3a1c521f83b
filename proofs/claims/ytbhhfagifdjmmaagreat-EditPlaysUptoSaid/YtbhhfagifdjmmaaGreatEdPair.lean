/-
  Pairs of editors: the program's and the document's, beside each other; one step of both, whatever it does; what looks tells; one pair more; the walk of EditPlays.
-/
import Derived.Test.YtbhhfagifdjmmaaGreatEdRefB
import Derived.Test.YtbhhfagifdjmmaaGreatEdMany
import Derived.Test.YtbhhfagifdjmmaaGreatEdOpen
import Derived.Test.YtbhhfagifdjmmaaGreatEdAlive
import Derived.Lib.QuietBelow
namespace Go.Proofs.YtbhhfagifdjmmaaGreat.ed
open Go Go.RowKit Go.Proofs
set_option linter.unusedVariables false
/-- a pair: the program's editor (its blocks, and as it stands), the document's (its box, and as it stands) -/
structure Tr where
  b : Nat
  g : Nat
  lb : Nat
  s : Sta
  r : Nat
  t : Sta
abbrev Tr.key (e : Tr) : Nat × Sta × Nat × Sta := (e.b, e.s, e.r, e.t)
structure DuoIn (S : Nat → Prop) (B : Nat) (es : List Tr) (w : World) : Prop where
  ed : ∀ (i : Nat) (e : Tr), es[i]? = some e → EdS S e.b e.g e.lb e.s w
  re : ∀ (i : Nat) (e : Tr), es[i]? = some e → RE S e.r e.t w
  far : ∀ (i j : Nat) (e f : Tr), es[i]? = some e → es[j]? = some f → i ≠ j → ∀ k, Own e.b e.g e.lb k → ¬ Own f.b f.g f.lb k
  rfar : ∀ (i j : Nat) (e f : Tr), es[i]? = some e → es[j]? = some f → ¬ Own e.b e.g e.lb f.r
  rne : ∀ (i j : Nat) (e f : Tr), es[i]? = some e → es[j]? = some f → i ≠ j → e.r ≠ f.r
  lt : ∀ k, S k → k < w.heap.size ∧ B ≤ k
theorem DuoIn.below {S : Nat → Prop} {B : Nat} {es : List Tr} {w w' : World} (h : DuoIn S B es w) (hb : Below w.heap.size w w') : DuoIn S B es w' :=
  ⟨fun i e he => EdS.below (h.ed i e he) hb, fun i e he => (h.re i e he).below hb, h.far, h.rfar, h.rne, fun k hk => by have := h.lt k hk; have := hb.size; omega⟩
theorem DuoIn.nil (w : World) : DuoIn (fun _ => False) w.heap.size [] w := ⟨fun i e h => by simp at h, fun i e h => by simp at h, fun i j e f h => by simp at h, fun i j e f h => by simp at h, fun i j e f h => by simp at h, fun k h => h.elim⟩
theorem set_at {es : List Tr} {i : Nat} {e : Tr} (hil : i < es.length) : ∀ (j : Nat) (f : Tr), (es.set i e)[j]? = some f → (j = i ∧ f = e) ∨ (j ≠ i ∧ es[j]? = some f) := by
  intro j f hj
  by_cases hji : j = i
  · subst hji
    rw [List.getElem?_set_self hil] at hj
    simp only [Option.some.injEq] at hj
    exact .inl ⟨rfl, hj.symm⟩
  · rw [List.getElem?_set_ne (Ne.symm hji)] at hj
    exact .inr ⟨hji, hj⟩
/-- the program's editor of one of them is turned -/
theorem DuoIn.afterE {S : Nat → Prop} {B : Nat} {es : List Tr} {w w' : World} (h : DuoIn S B es w) (hB : B ≤ w.heap.size) {i : Nat} {e : Tr} (hi : es[i]? = some e) {s' : Sta} (ha : After S e.b e.g e.lb s' w w') :
    ∃ lb', DuoIn (fun k => S k ∨ k = lb') B (es.set i ⟨e.b, e.g, lb', s', e.r, e.t⟩) w' ∧ (lb' = e.lb ∨ w.heap.size ≤ lb') ∧ Kept (Own e.b e.g e.lb) w w' := by
  obtain ⟨lb', hE, hlb, hk⟩ := ha
  have hsz := hk.size
  have hlt : lb' < w'.heap.size := by
    obtain ⟨sv, hEd, -⟩ := hE.ed
    obtain ⟨n, cap, f, u, A, hG, -⟩ := hEd.gap
    exact (Array.getElem?_eq_some_iff.1 hG.hl).1
  have hil := (List.getElem?_eq_some_iff.1 hi).1
  have hSe := h.ed i e hi
  have hset := set_at (e := (⟨e.b, e.g, lb', s', e.r, e.t⟩ : Tr)) hil
  have hgrow : ∀ k, (S k ∨ k = lb') → S k ∨ w.heap.size ≤ k := by
    intro k hk2
    rcases hk2 with hk2 | rfl
    · exact .inl hk2
    · rcases hlb with h1 | h1
      · exact .inl (h1 ▸ hSe.sl)
      · exact .inr h1
  have hlbf : ∀ (j : Nat) (f : Tr), j ≠ i → es[j]? = some f → ¬ Own f.b f.g f.lb lb' := by
    intro j f hji hj ho
    rcases hlb with h1 | h1
    · rw [h1] at ho
      exact h.far i j e f hi hj (Ne.symm hji) _ (.inr (.inr rfl)) ho
    · have := (h.lt _ ((h.ed j f hj).own _ ho)).1
      omega
  have hrlb : ∀ (j : Nat) (f : Tr), es[j]? = some f → lb' ≠ f.r := by
    intro j f hj he
    rcases hlb with h1 | h1
    · exact h.rfar i j e f hi hj (.inr (.inr (by rw [← h1, he])))
    · have := (h.re j f hj).lt
      omega
  refine ⟨lb', ⟨fun j f hj => ?_, fun j f hj => ?_, fun j j' f f' hj hj' hne k hk1 hk2 => ?_, fun j j' f f' hj hj' ho => ?_, fun j j' f f' hj hj' hne => ?_, fun k hk' => ?_⟩, hlb, hk⟩
  · rcases hset j f hj with ⟨-, rfl⟩ | ⟨hji, hj2⟩
    · exact hE
    · exact (h.ed j f hj2).kept hk (fun k ho => ⟨hSe.own k ho, h.far i j e f hi hj2 (Ne.symm hji) k ho⟩) hgrow (fun _ h => .inl h)
  · rcases hset j f hj with ⟨-, rfl⟩ | ⟨hji, hj2⟩
    · exact (h.re i e hi).kept hk (fun k ho => hSe.own k ho) (h.rfar i i e e hi hi) hgrow (.inl (h.re i e hi).1)
    · exact (h.re j f hj2).kept hk (fun k ho => hSe.own k ho) (h.rfar i j e f hi hj2) hgrow (.inl (h.re j f hj2).1)
  · rcases hset j f hj with ⟨h1, rfl⟩ | ⟨h1, h2⟩
    · rcases hset j' f' hj' with ⟨h3, rfl⟩ | ⟨h3, h4⟩
      · omega
      · rcases hk1 with h5 | h5 | h5
        · exact h.far i j' e f' hi h4 (Ne.symm h3) k (.inl h5) hk2
        · exact h.far i j' e f' hi h4 (Ne.symm h3) k (.inr (.inl h5)) hk2
        · have h6 : k = lb' := h5
          subst h6
          exact hlbf j' f' h3 h4 hk2
    · rcases hset j' f' hj' with ⟨h3, rfl⟩ | ⟨h3, h4⟩
      · rcases hk2 with h5 | h5 | h5
        · exact h.far j i f e h2 hi h1 k hk1 (.inl h5)
        · exact h.far j i f e h2 hi h1 k hk1 (.inr (.inl h5))
        · have h6 : k = lb' := h5
          subst h6
          exact hlbf j f h1 h2 hk1
      · exact h.far j j' f f' h2 h4 hne k hk1 hk2
  · have hr' : ∃ (q : Nat) (f2 : Tr), es[q]? = some f2 ∧ f2.r = f'.r := by
      rcases hset j' f' hj' with ⟨h3, rfl⟩ | ⟨h3, h4⟩
      · exact ⟨i, e, hi, rfl⟩
      · exact ⟨j', f', h4, rfl⟩
    obtain ⟨q, f2, hq, he⟩ := hr'
    rw [← he] at ho
    rcases hset j f hj with ⟨h1, rfl⟩ | ⟨h1, h2⟩
    · rcases ho with h5 | h5 | h5
      · exact h.rfar i q e f2 hi hq (.inl h5)
      · exact h.rfar i q e f2 hi hq (.inr (.inl h5))
      · exact hrlb q f2 hq h5.symm
    · exact h.rfar j q f f2 h2 hq ho
  · rcases hset j f hj with ⟨h1, rfl⟩ | ⟨h1, h2⟩
    · rcases hset j' f' hj' with ⟨h3, rfl⟩ | ⟨h3, h4⟩
      · omega
      · exact h.rne i j' e f' hi h4 (Ne.symm h3)
    · rcases hset j' f' hj' with ⟨h3, rfl⟩ | ⟨h3, h4⟩
      · exact h.rne j i f e h2 hi h1
      · exact h.rne j j' f f' h2 h4 hne
  · rcases hk' with hk' | rfl
    · have := h.lt k hk'; omega
    · rcases hlb with h1 | h1
      · have := h.lt _ hSe.sl
        rw [h1] at hlt ⊢
        omega
      · omega
/-- the document's -/
theorem DuoIn.afterR {S : Nat → Prop} {B : Nat} {es : List Tr} {w w' : World} (h : DuoIn S B es w) {i : Nat} {e : Tr} (hi : es[i]? = some e) {t' : Sta} (ha : RE S e.r t' w') (hk : Kept (fun x => x = e.r) w w') :
    DuoIn S B (es.set i ⟨e.b, e.g, e.lb, e.s, e.r, t'⟩) w' := by
  have hsz := hk.size
  have hil := (List.getElem?_eq_some_iff.1 hi).1
  have hset := set_at (e := (⟨e.b, e.g, e.lb, e.s, e.r, t'⟩ : Tr)) hil
  have hback : ∀ (j : Nat) (f : Tr), (es.set i ⟨e.b, e.g, e.lb, e.s, e.r, t'⟩)[j]? = some f → ∃ f2, es[j]? = some f2 ∧ f2.b = f.b ∧ f2.g = f.g ∧ f2.lb = f.lb ∧ f2.s = f.s ∧ f2.r = f.r := by
    intro j f hj
    rcases hset j f hj with ⟨rfl, rfl⟩ | ⟨h1, h2⟩
    · exact ⟨e, hi, rfl, rfl, rfl, rfl, rfl⟩
    · exact ⟨f, h2, rfl, rfl, rfl, rfl, rfl⟩
  have hSr : S e.r := (h.re i e hi).1
  refine ⟨fun j f hj => ?_, fun j f hj => ?_, fun j j' f f' hj hj' hne k hk1 hk2 => ?_, fun j j' f f' hj hj' ho => ?_, fun j j' f f' hj hj' hne => ?_, fun k hk' => by have := h.lt k hk'; omega⟩
  · obtain ⟨f2, h2, e1, e2, e3, e4, e5⟩ := hback j f hj
    rw [← e1, ← e2, ← e3, ← e4]
    exact (h.ed j f2 h2).kept hk (fun k hke => by subst hke; exact ⟨hSr, fun ho => h.rfar j i f2 e h2 hi ho⟩) (fun k hk => .inl hk) (fun _ h => h)
  · rcases hset j f hj with ⟨-, rfl⟩ | ⟨hji, hj2⟩
    · exact ha
    · exact (h.re j f hj2).kept hk (fun k hke => hke ▸ hSr) (h.rne j i f e hj2 hi hji) (fun k hk => .inl hk) (h.re j f hj2).1
  · obtain ⟨f2, h2, e1, e2, e3, e4, e5⟩ := hback j f hj
    obtain ⟨f3, h3, d1, d2, d3, d4, d5⟩ := hback j' f' hj'
    rw [← e1, ← e2, ← e3] at hk1
    rw [← d1, ← d2, ← d3] at hk2
    exact h.far j j' f2 f3 h2 h3 hne k hk1 hk2
  · obtain ⟨f2, h2, e1, e2, e3, e4, e5⟩ := hback j f hj
    obtain ⟨f3, h3, d1, d2, d3, d4, d5⟩ := hback j' f' hj'
    rw [← e1, ← e2, ← e3, ← d5] at ho
    exact h.rfar j j' f2 f3 h2 h3 ho
  · obtain ⟨f2, h2, e1, e2, e3, e4, e5⟩ := hback j f hj
    obtain ⟨f3, h3, d1, d2, d3, d4, d5⟩ := hback j' f' hj'
    rw [← e5, ← d5]
    exact h.rne j j' f2 f3 h2 h3 hne
/-! AS THEY STAND BEHIND SOME CALLS -/
/-- pairs, as they stand, seen from a world ahead: what lay beside them there lies as it lay -/
def Du (S0 : Nat → Prop) (w0 : World) (B : Nat) (l : List (Nat × Sta × Nat × Sta)) (w : World) : Prop :=
  ∃ S es, DuoIn S B es w ∧ l = es.map Tr.key ∧ (∀ k, S k → S0 k ∨ w0.heap.size ≤ k) ∧ (∀ k, S0 k → S k) ∧ Kept S0 w0 w
def Duo (B : Nat) (l : List (Nat × Sta × Nat × Sta)) (w : World) : Prop := ∃ S es, DuoIn S B es w ∧ l = es.map Tr.key
theorem Duo.below {B : Nat} {l : List (Nat × Sta × Nat × Sta)} {w w' : World} (h : Duo B l w) (hb : Below w.heap.size w w') : Duo B l w' := by
  obtain ⟨S, es, h, rfl⟩ := h
  exact ⟨S, es, h.below hb, rfl⟩
theorem Duo.du {B : Nat} {l : List (Nat × Sta × Nat × Sta)} {w : World} (h : Duo B l w) : ∃ S0 : Nat → Prop, (∀ k, S0 k → k < w.heap.size ∧ B ≤ k) ∧ ∀ w', Below w.heap.size w w' → Du S0 w' B l w' := by
  obtain ⟨S, es, h, rfl⟩ := h
  exact ⟨S, h.lt, fun w' hb => ⟨S, es, h.below hb, rfl, fun k hk => .inl hk, fun k hk => hk, Kept.refl _ _⟩⟩
section
variable {S0 : Nat → Prop} {w0 w w' : World} {B : Nat} {l : List (Nat × Sta × Nat × Sta)}
theorem Du.duo (h : Du S0 w0 B l w) : Duo B l w := by
  obtain ⟨S, es, h, rfl, -⟩ := h
  exact ⟨S, es, h, rfl⟩
theorem Du.kept (h : Du S0 w0 B l w) : Kept S0 w0 w := by
  obtain ⟨S, es, -, -, -, -, hk⟩ := h
  exact hk
theorem Du.cell (h : Du S0 w0 B l w) {a : Addr} {v : Value} (hc : w0.cell? a = some v) (hn : ¬ S0 a.block) : w.cell? a = some v :=
  (World.cell?_of_block (h.kept.block a.block (World.block_lt_of_cell? w0 a hc) hn)).trans hc
theorem Du.below (h : Du S0 w0 B l w) (hb : Below w.heap.size w w') : Du S0 w0 B l w' := by
  obtain ⟨S, es, h, rfl, h1, h2, hk⟩ := h
  exact ⟨S, es, h.below hb, rfl, h1, h2, hk.trans (Kept.of_below (S := S0) hb) (fun _ _ h => h)⟩
theorem key_at {es : List Tr} {i : Nat} {x : Nat × Sta × Nat × Sta} (h : (es.map Tr.key)[i]? = some x) : ∃ e, es[i]? = some e ∧ x = Tr.key e := by
  rw [List.getElem?_map] at h
  obtain ⟨e, he, hx⟩ := Option.map_eq_some_iff.1 h
  exact ⟨e, he, hx.symm⟩
/-- a method of the program's -/
theorem Du.callE (h : Du S0 w0 B l w) (hB : B ≤ w0.heap.size) {i b r : Nat} {s t : Sta} (hi : l[i]? = some (b, s, r, t)) {f : FuncId} {args : Array Value} {v : Value} {s' : Sta}
    (hc : ∀ (S : Nat → Prop) (g lb : Nat), EdS S b g lb s w → (∀ k, S k → k < w.heap.size) → Calls Tryz.prog f args w fun e w' => e = .returned v ∧ After S b g lb s' w w') :
    Calls Tryz.prog f args w fun e w' => e = .returned v ∧ Du S0 w0 B (l.set i (b, s', r, t)) w' := by
  obtain ⟨S, es, h, rfl, h1, h2, hk⟩ := h
  obtain ⟨e, he, hx⟩ := key_at hi
  simp only [Prod.mk.injEq] at hx
  obtain ⟨rfl, rfl, rfl, rfl⟩ := hx
  have hsz := hk.size
  refine (hc S e.g e.lb (h.ed i e he) (fun k hk => (h.lt k hk).1)).mono ?_
  rintro e' w' ⟨rfl, ha⟩
  obtain ⟨lb', hD, hlb, hk'⟩ := h.afterE (by omega) he ha
  have hSe := h.ed i e he
  refine ⟨rfl, _, _, hD, by rw [List.map_set], fun k hk2 => ?_, fun k hk2 => .inl (h2 k hk2), hk.trans hk' (fun k hlt ho => ?_)⟩
  · rcases hk2 with hk2 | rfl
    · exact h1 k hk2
    · rcases hlb with h3 | h3
      · exact h1 _ (h3 ▸ hSe.sl)
      · exact .inr (by omega)
  · rcases h1 k (hSe.own k ho) with h3 | h3
    · exact h3
    · omega
/-- a method of the document's -/
theorem Du.callR (h : Du S0 w0 B l w) {i b r : Nat} {s t : Sta} (hi : l[i]? = some (b, s, r, t)) {f : FuncId} {args : Array Value} {v : Value} {t' : Sta}
    (hc : ∀ (S : Nat → Prop), RE S r t w → (∀ k, S k → k < w.heap.size) → Calls Tryz.prog f args w fun e w' => e = .returned v ∧ RE S r t' w' ∧ Kept (fun x => x = r) w w') :
    Calls Tryz.prog f args w fun e w' => e = .returned v ∧ Du S0 w0 B (l.set i (b, s, r, t')) w' := by
  obtain ⟨S, es, h, rfl, h1, h2, hk⟩ := h
  obtain ⟨e, he, hx⟩ := key_at hi
  simp only [Prod.mk.injEq] at hx
  obtain ⟨rfl, rfl, rfl, rfl⟩ := hx
  have hsz := hk.size
  refine (hc S (h.re i e he) (fun k hk => (h.lt k hk).1)).mono ?_
  rintro e' w' ⟨rfl, hR, hk'⟩
  refine ⟨rfl, S, _, h.afterR he hR hk', by rw [List.map_set], h1, h2, hk.trans hk' (fun k hlt ho => ?_)⟩
  rcases h1 k (ho ▸ (h.re i e he).1) with h3 | h3
  · exact h3
  · omega
theorem Du.one (h : Du S0 w0 B l w) {i b r : Nat} {s t : Sta} (hi : l[i]? = some (b, s, r, t)) : EdL B b s w ∧ ∃ S, RE S r t w := by
  obtain ⟨S, es, h, rfl, -⟩ := h
  obtain ⟨e, he, hx⟩ := key_at hi
  simp only [Prod.mk.injEq] at hx
  obtain ⟨rfl, rfl, rfl, rfl⟩ := hx
  exact ⟨⟨S, e.g, e.lb, h.ed i e he, h.lt⟩, S, h.re i e he⟩
theorem Du.belowB (h : Du S0 w0 B l w) (hS : ∀ k, S0 k → B ≤ k) (hB : B ≤ w0.heap.size) : Below B w0 w := by
  obtain ⟨S, es, -, -, -, -, hk⟩ := h
  exact hk.below hB (fun k _ ho => hS k ho)
/-- a step from here on: told of the blocks as they are here, it is told of those of old -/
theorem Du.open_ (h : Du S0 w0 B l w) : ∃ S1 : Nat → Prop, (∀ k, S1 k → k < w.heap.size ∧ B ≤ k) ∧ (∀ w', Below w.heap.size w w' → Du S1 w' B l w') ∧ (∀ (wb w' : World) (l' : List (Nat × Sta × Nat × Sta)), Below w.heap.size w wb → Du S1 wb B l' w' → Du S0 w0 B l' w') := by
  obtain ⟨S, es, h, rfl, h1, h2, hk⟩ := h
  have hsz := hk.size
  refine ⟨S, h.lt, fun w' hb => ⟨S, es, h.below hb, rfl, fun k hk => .inl hk, fun k hk => hk, Kept.refl _ _⟩, ?_⟩
  rintro wb w' l' hb ⟨S', es', h', hl, g1, g2, gk⟩
  have hbs := hb.size
  refine ⟨S', es', h', hl, fun k hS => ?_, fun k hS => g2 k (h2 k hS), (hk.trans (Kept.of_below (S := S0) hb) (fun _ _ h => h)).trans gk (fun k hlt hS => ?_)⟩
  · rcases g1 k hS with h3 | h3
    · exact h1 k h3
    · exact .inr (by omega)
  · rcases h1 k hS with h3 | h3
    · exact h3
    · omega
end
end Go.Proofs.YtbhhfagifdjmmaaGreat.ed
namespace Go.Proofs.YtbhhfagifdjmmaaGreat.ed
open Go Go.RowKit Go.Proofs
set_option linter.unusedVariables false
section
variable {S : Nat → Prop} {r : Nat} {s : Sta} {w : World}
theorem rgo_s (h : RE S r s w) (way : Int) (m : Bool) (ok : EdOk s) : Calls Tryz.prog 14 #[.pointer (some ⟨r, 0, none⟩), .int .i64 way, .bool m] w fun e w' => e = .returned (.bool (goT s way m).1) ∧ RE S r (goT s way m).2 w' ∧ Kept (fun x => x = r) w w' := by
  have h1 := ok.h.ca
  have h2 := ok.h.len
  obtain ⟨F, ca, an, L, dn⟩ := s
  exact rgo_any h way m h1 (by dsimp only at h2; omega)
theorem rundo_s (h : RE S r s w) (ok : EdOk s) : Calls Tryz.prog 20 #[.pointer (some ⟨r, 0, none⟩)] w fun e w' => e = .returned (.bool (undoT s).1) ∧ RE S r (undoT s).2 w' ∧ Kept (fun x => x = r) w w' := by
  have h2 := ok.dn
  have h3 := ok.ln
  obtain ⟨F, ca, an, L, dn⟩ := s
  dsimp only at h2 h3
  cases dn with
  | zero =>
    refine (rundo_none h).mono ?_
    rintro e w' ⟨rfl, rfl⟩
    exact ⟨rfl, h, Kept.refl _ _⟩
  | succ n =>
    have hx : L[n]? = some L[n] := List.getElem?_eq_getElem (by omega)
    have e : undoT ⟨F, ca, an, L, n + 1⟩ = (true, ⟨(L[n]).bef, (L[n]).ahead, -1, L, n⟩) := by
      unfold undoT
      dsimp only
      rw [hx]
    rw [e]
    exact rundo_any h hx (by omega)
theorem rredo_s (h : RE S r s w) (ok : EdOk s) : Calls Tryz.prog 22 #[.pointer (some ⟨r, 0, none⟩)] w fun e w' => e = .returned (.bool (redoT s).1) ∧ RE S r (redoT s).2 w' ∧ Kept (fun x => x = r) w w' := by
  have h2 := ok.dn
  have h3 := ok.ln
  obtain ⟨F, ca, an, L, dn⟩ := s
  dsimp only at h2 h3
  rcases Nat.lt_or_ge dn L.length with hlt | hge
  · have hx : L[dn]? = some L[dn] := List.getElem?_eq_getElem hlt
    have e : redoT ⟨F, ca, an, L, dn⟩ = (true, ⟨(L[dn]).aft, (L[dn]).after, -1, L, dn + 1⟩) := by
      unfold redoT
      dsimp only
      rw [hx]
    rw [e]
    exact rredo_any h hx (by omega)
  · have e : redoT ⟨F, ca, an, L, dn⟩ = (false, ⟨F, ca, an, L, dn⟩) := by
      unfold redoT
      dsimp only
      rw [List.getElem?_eq_none hge]
    rw [e]
    refine (rredo_none h (by omega)).mono ?_
    rintro e w' ⟨rfl, hb⟩
    exact ⟨rfl, h.below hb, Kept.of_below hb⟩
end
abbrev pairV (b r : Nat) : Value := .agg #[.pointer (some ⟨b, 0, none⟩), .pointer (some ⟨r, 0, none⟩)]
abbrev stepV (d who n : Int) (m : Bool) (t : ByteArray) : Value := .agg #[.int .i64 d, .int .i64 who, .int .i64 n, .bool m, .string t]
/-- the world of a step whose arguments lie in boxes -/
def boxed (w : World) (b r : Nat) (d who n : Int) (m : Bool) (t : ByteArray) : World :=
  (w.alloc (.cells #[.pointer (some ⟨b, 0, none⟩), .pointer (some ⟨r, 0, none⟩)] 31)).alloc (.cells #[.int .i64 d, .int .i64 who, .int .i64 n, .bool m, .string t] 33)
structure Box (B b r : Nat) (d n : Int) (m : Bool) (t : ByteArray) (w : World) : Prop where
  p0 : w.cell? ⟨B, 0, none⟩ = some (.pointer (some ⟨b, 0, none⟩))
  p1 : w.cell? ⟨B, 1, none⟩ = some (.pointer (some ⟨r, 0, none⟩))
  s0 : w.cell? ⟨B + 1, 0, none⟩ = some (.int .i64 d)
  s2 : w.cell? ⟨B + 1, 2, none⟩ = some (.int .i64 n)
  s3 : w.cell? ⟨B + 1, 3, none⟩ = some (.bool m)
  s4 : w.cell? ⟨B + 1, 4, none⟩ = some (.string t)
theorem boxed_box (w : World) (b r : Nat) (d who n : Int) (m : Bool) (t : ByteArray) : Box w.heap.size b r d n m t (boxed w b r d who n m t) := by
  have hs : (w.alloc (.cells #[.pointer (some ⟨b, 0, none⟩), .pointer (some ⟨r, 0, none⟩)] 31)).heap.size = w.heap.size + 1 := by simp
  unfold boxed
  constructor
  · refine (Below.cell ((Below.refl _ _).alloc (Nat.le_refl _) _) (p := ⟨w.heap.size, 0, none⟩) (by rw [hs]; simp)).trans (World.cell?_alloc_at _ _ _ _ rfl)
  · refine (Below.cell ((Below.refl _ _).alloc (Nat.le_refl _) _) (p := ⟨w.heap.size, 1, none⟩) (by rw [hs]; simp)).trans (World.cell?_alloc_at _ _ _ _ rfl)
  all_goals
    rw [← hs]
    exact World.cell?_alloc_at _ _ _ _ rfl
theorem Box.du {B b r : Nat} {d n : Int} {m : Bool} {t : ByteArray} {w w' : World} {S0 : Nat → Prop} {B0 : Nat} {l : List (Nat × Sta × Nat × Sta)} (h : Box B b r d n m t w) (hD : Du S0 w B0 l w') (h1 : ¬ S0 B) (h2 : ¬ S0 (B + 1)) : Box B b r d n m t w' :=
  ⟨hD.cell h.p0 h1, hD.cell h.p1 h1, hD.cell h.s0 h2, hD.cell h.s2 h2, hD.cell h.s3 h2, hD.cell h.s4 h2⟩
theorem boxed_below (w : World) (b r : Nat) (d who n : Int) (m : Bool) (t : ByteArray) : Below w.heap.size w (boxed w b r d who n m t) := run.below_two _ _ _
theorem set_twice {l : List (Nat × Sta × Nat × Sta)} {i : Nat} {x : Nat × Sta × Nat × Sta} (h : l[i]? = some x) (y : Nat × Sta × Nat × Sta) : (l.set i y)[i]? = some y := by rw [List.getElem?_set_self (List.getElem?_eq_some_iff.1 h).1]
section
variable {S0 : Nat → Prop} {w0 w : World} {B i b r : Nat} {l : List (Nat × Sta × Nat × Sta)} {s : Sta}
set_option maxRecDepth 100000 in
set_option maxHeartbeats 4000000 in
theorem pstep_go (hD : Du S0 w0 B l w) (hB : B ≤ w.heap.size) (hi : l[i]? = some (b, s, r, s)) (ok : EdOk s) (who n : Int) (m : Bool) (t : ByteArray) (ht : t.size ≤ 1048576) :
    Calls Tryz.prog 7 #[pairV b r, stepV 0 who n m t] w fun e w' => e = .returned (.bool true) ∧ Du S0 w0 B (l.set i (b, (goT s n m).2, r, (goT s n m).2)) w' := by
  obtain ⟨S1, hS1, hdu, hfin⟩ := hD.open_
  have hw1 := boxed_below w b r 0 who n m t
  have hA2 := hdu _ hw1
  have hB1 : B ≤ (boxed w b r 0 who n m t).heap.size := Nat.le_trans hB hw1.size
  have hn0 : ¬ S1 w.heap.size := fun h => Nat.lt_irrefl _ (hS1 _ h).1
  have hn1 : ¬ S1 (w.heap.size + 1) := fun h => Nat.lt_irrefl _ (Nat.lt_of_succ_lt (hS1 _ h).1)
  have b0 := boxed_box w b r 0 who n m t
  have s0 := b0.s0
  have HB1 := run.hid (fun l w' (h : Du S1 (boxed w b r 0 who n m t) B l w') => b0.du h hn0 hn1)
  have HW1 := run.hid (fun l w' (h : Du S1 (boxed w b r 0 who n m t) B l w') => hfin _ _ l hw1 h)
  obtain ⟨ft, hft⟩ : ∃ ft, ft = goT s n m := ⟨_, rfl⟩
  have D1 := run.hid (fun w' (h : Du S1 (boxed w b r 0 who n m t) B l w') => h.callE hB1 hi (fun S g lb hE hl => go_any hE n m ok.h.ca (by have := ok.h.len; omega)))
  have D2 := run.hid (fun w' (h : Du S1 (boxed w b r 0 who n m t) B (l.set i (b, (goT s n m).2, r, s)) w') => h.callR (set_twice hi _) (fun S hR hl => rgo_s hR n m ok))
  rw [← hft] at D1 D2 ⊢
  rw [List.set_set] at D2
  clear hft hD hdu hfin hS1 hn0 hn1 b0 hw1 hB1
  clear hB
  obtain ⟨f1, f2⟩ := ft
  dsimp only at D1 D2 ⊢
  go_enter Tryz.func7, Tryz.ntmps7
  go_upto_region 1 with fail
  unfold boxed at *
  generalize (w.alloc (.cells #[.pointer (some ⟨b, 0, none⟩), .pointer (some ⟨r, 0, none⟩)] 31)).alloc (.cells #[.int .i64 0, .int .i64 who, .int .i64 n, .bool m, .string t] 33) = w1 at *
  generalize w.heap.size = BB at *
  go_upto_region 3 with fail
  go_region_held3 (fun w' => w'.cell? ⟨BB, 0, none⟩ = some (.pointer (some ⟨b, 0, none⟩)) ∧ w'.cell? ⟨BB, 1, none⟩ = some (.pointer (some ⟨r, 0, none⟩)) ∧ w'.cell? ⟨BB + 1, 2, none⟩ = some (.int .i64 n) ∧ w'.cell? ⟨BB + 1, 3, none⟩ = some (.bool m) ∧ w'.cell? ⟨BB + 1, 4, none⟩ = some (.string t))
    (first
      | assumption
      | exact ⟨(HB1.out _ _ (hA2.below (Below.drew (Below.refl _ _)))).p0, (HB1.out _ _ (hA2.below (Below.drew (Below.refl _ _)))).p1, (HB1.out _ _ (hA2.below (Below.drew (Below.refl _ _)))).s2, (HB1.out _ _ (hA2.below (Below.drew (Below.refl _ _)))).s3, (HB1.out _ _ (hA2.below (Below.drew (Below.refl _ _)))).s4⟩
      | exact ⟨(HB1.out _ _ hA3).p0, (HB1.out _ _ hA3).p1, (HB1.out _ _ hA3).s2, (HB1.out _ _ hA3).s3, (HB1.out _ _ hA3).s4⟩
      | exact ⟨(HB1.out _ _ hA4).p0, (HB1.out _ _ hA4).p1, (HB1.out _ _ hA4).s2, (HB1.out _ _ hA4).s3, (HB1.out _ _ hA4).s4⟩
      | go_keep
      | (trace_state; fail))
    (first
      | (go_at_call 13; refine (D1.out _ (hA2.below (Below.drew (Below.refl _ _)))).mono ?_; rintro e w7 ⟨rfl, hA3⟩)
      | (go_at_call 14; refine (D2.out _ hA3).mono ?_; rintro e w8 ⟨rfl, hA4⟩))
  all_goals
    have HF := run.hid (HW1.out _ _ hA4)
    clear hA2 hA3 hA4 HB1 HW1 D1 D2
    cases f1 <;> go_wp2 <;> go_ret <;> exact ⟨rfl, HF.out⟩
set_option maxRecDepth 100000 in
set_option maxHeartbeats 4000000 in
theorem pstep_ins (hD : Du S0 w0 B l w) (hB : B ≤ w.heap.size) (hi : l[i]? = some (b, s, r, s)) (ok : EdOk s) (who n : Int) (m : Bool) (t : ByteArray) (ht : t.size ≤ 1048576) :
    Calls Tryz.prog 7 #[pairV b r, stepV 1 who n m t] w fun e w' => e = .returned (.bool true) ∧ Du S0 w0 B (l.set i (b, (insT s t).2, r, (insT s t).2)) w' := by
  obtain ⟨S1, hS1, hdu, hfin⟩ := hD.open_
  have hw1 := boxed_below w b r 1 who n m t
  have hA2 := hdu _ hw1
  have hB1 : B ≤ (boxed w b r 1 who n m t).heap.size := Nat.le_trans hB hw1.size
  have hn0 : ¬ S1 w.heap.size := fun h => Nat.lt_irrefl _ (hS1 _ h).1
  have hn1 : ¬ S1 (w.heap.size + 1) := fun h => Nat.lt_irrefl _ (Nat.lt_of_succ_lt (hS1 _ h).1)
  have b0 := boxed_box w b r 1 who n m t
  have s0 := b0.s0
  have HB1 := run.hid (fun l w' (h : Du S1 (boxed w b r 1 who n m t) B l w') => b0.du h hn0 hn1)
  have HW1 := run.hid (fun l w' (h : Du S1 (boxed w b r 1 who n m t) B l w') => hfin _ _ l hw1 h)
  obtain ⟨ft, hft⟩ : ∃ ft, ft = insT s t := ⟨_, rfl⟩
  have D1 := run.hid (fun w' (h : Du S1 (boxed w b r 1 who n m t) B l w') => h.callE hB1 hi (fun S g lb hE hl => insert_any hE t (by omega) hl ok.h.len ok.h.size ok.h.ca ok.an.2 ok.dn (by have := ok.ln; have := ok.dn; omega)))
  have D2 := run.hid (fun w' (h : Du S1 (boxed w b r 1 who n m t) B (l.set i (b, (insT s t).2, r, s)) w') => h.callR (set_twice hi _) (fun S hR hl => rins_any hR hl t (by omega) ok.h.len ok.h.size ok.h.ca ok.an.2 ok.dn (by have := ok.ln; have := ok.dn; omega)))
  rw [← hft] at D1 D2 ⊢
  rw [List.set_set] at D2
  clear hft hD hdu hfin hS1 hn0 hn1 b0 hw1 hB1
  clear hB
  obtain ⟨f1, f2⟩ := ft
  dsimp only at D1 D2 ⊢
  go_enter Tryz.func7, Tryz.ntmps7
  go_upto_region 1 with fail
  unfold boxed at *
  generalize (w.alloc (.cells #[.pointer (some ⟨b, 0, none⟩), .pointer (some ⟨r, 0, none⟩)] 31)).alloc (.cells #[.int .i64 1, .int .i64 who, .int .i64 n, .bool m, .string t] 33) = w1 at *
  generalize w.heap.size = BB at *
  go_upto_region 5 with fail
  go_region_held3 (fun w' => w'.cell? ⟨BB, 0, none⟩ = some (.pointer (some ⟨b, 0, none⟩)) ∧ w'.cell? ⟨BB, 1, none⟩ = some (.pointer (some ⟨r, 0, none⟩)) ∧ w'.cell? ⟨BB + 1, 2, none⟩ = some (.int .i64 n) ∧ w'.cell? ⟨BB + 1, 3, none⟩ = some (.bool m) ∧ w'.cell? ⟨BB + 1, 4, none⟩ = some (.string t))
    (first
      | assumption
      | exact ⟨(HB1.out _ _ (hA2.below (Below.drew (Below.refl _ _)))).p0, (HB1.out _ _ (hA2.below (Below.drew (Below.refl _ _)))).p1, (HB1.out _ _ (hA2.below (Below.drew (Below.refl _ _)))).s2, (HB1.out _ _ (hA2.below (Below.drew (Below.refl _ _)))).s3, (HB1.out _ _ (hA2.below (Below.drew (Below.refl _ _)))).s4⟩
      | exact ⟨(HB1.out _ _ hA3).p0, (HB1.out _ _ hA3).p1, (HB1.out _ _ hA3).s2, (HB1.out _ _ hA3).s3, (HB1.out _ _ hA3).s4⟩
      | exact ⟨(HB1.out _ _ hA4).p0, (HB1.out _ _ hA4).p1, (HB1.out _ _ hA4).s2, (HB1.out _ _ hA4).s3, (HB1.out _ _ hA4).s4⟩
      | go_keep
      | (trace_state; fail))
    (first
      | (go_at_call 15; refine (D1.out _ (hA2.below (Below.drew (Below.refl _ _)))).mono ?_; rintro e w7 ⟨rfl, hA3⟩)
      | (go_at_call 16; refine (D2.out _ hA3).mono ?_; rintro e w8 ⟨rfl, hA4⟩))
  all_goals
    have HF := run.hid (HW1.out _ _ hA4)
    clear hA2 hA3 hA4 HB1 HW1 D1 D2
    cases f1 <;> go_wp2 <;> go_ret <;> exact ⟨rfl, HF.out⟩
set_option maxRecDepth 100000 in
set_option maxHeartbeats 4000000 in
theorem pstep_del (hD : Du S0 w0 B l w) (hB : B ≤ w.heap.size) (hi : l[i]? = some (b, s, r, s)) (ok : EdOk s) (who n : Int) (m : Bool) (t : ByteArray) (ht : t.size ≤ 1048576) :
    Calls Tryz.prog 7 #[pairV b r, stepV 2 who n m t] w fun e w' => e = .returned (.bool true) ∧ Du S0 w0 B (l.set i (b, (delT s n).2, r, (delT s n).2)) w' := by
  obtain ⟨S1, hS1, hdu, hfin⟩ := hD.open_
  have hw1 := boxed_below w b r 2 who n m t
  have hA2 := hdu _ hw1
  have hB1 : B ≤ (boxed w b r 2 who n m t).heap.size := Nat.le_trans hB hw1.size
  have hn0 : ¬ S1 w.heap.size := fun h => Nat.lt_irrefl _ (hS1 _ h).1
  have hn1 : ¬ S1 (w.heap.size + 1) := fun h => Nat.lt_irrefl _ (Nat.lt_of_succ_lt (hS1 _ h).1)
  have b0 := boxed_box w b r 2 who n m t
  have s0 := b0.s0
  have HB1 := run.hid (fun l w' (h : Du S1 (boxed w b r 2 who n m t) B l w') => b0.du h hn0 hn1)
  have HW1 := run.hid (fun l w' (h : Du S1 (boxed w b r 2 who n m t) B l w') => hfin _ _ l hw1 h)
  obtain ⟨ft, hft⟩ : ∃ ft, ft = delT s n := ⟨_, rfl⟩
  have D1 := run.hid (fun w' (h : Du S1 (boxed w b r 2 who n m t) B l w') => h.callE hB1 hi (fun S g lb hE hl => delete_any hE n hl ok.h.lin ok.h.size ok.h.ca ok.an.2 ok.dn (by have := ok.ln; have := ok.dn; omega)))
  have D2 := run.hid (fun w' (h : Du S1 (boxed w b r 2 who n m t) B (l.set i (b, (delT s n).2, r, s)) w') => h.callR (set_twice hi _) (fun S hR hl => rdel_any hR hl n ok.h.len ok.h.size ok.h.ca ok.an.2 ok.dn (by have := ok.ln; have := ok.dn; omega)))
  rw [← hft] at D1 D2 ⊢
  rw [List.set_set] at D2
  clear hft hD hdu hfin hS1 hn0 hn1 b0 hw1 hB1
  clear hB
  obtain ⟨f1, f2⟩ := ft
  dsimp only at D1 D2 ⊢
  go_enter Tryz.func7, Tryz.ntmps7
  go_upto_region 1 with fail
  unfold boxed at *
  generalize (w.alloc (.cells #[.pointer (some ⟨b, 0, none⟩), .pointer (some ⟨r, 0, none⟩)] 31)).alloc (.cells #[.int .i64 2, .int .i64 who, .int .i64 n, .bool m, .string t] 33) = w1 at *
  generalize w.heap.size = BB at *
  go_upto_region 7 with fail
  go_region_held3 (fun w' => w'.cell? ⟨BB, 0, none⟩ = some (.pointer (some ⟨b, 0, none⟩)) ∧ w'.cell? ⟨BB, 1, none⟩ = some (.pointer (some ⟨r, 0, none⟩)) ∧ w'.cell? ⟨BB + 1, 2, none⟩ = some (.int .i64 n) ∧ w'.cell? ⟨BB + 1, 3, none⟩ = some (.bool m) ∧ w'.cell? ⟨BB + 1, 4, none⟩ = some (.string t))
    (first
      | assumption
      | exact ⟨(HB1.out _ _ (hA2.below (Below.drew (Below.refl _ _)))).p0, (HB1.out _ _ (hA2.below (Below.drew (Below.refl _ _)))).p1, (HB1.out _ _ (hA2.below (Below.drew (Below.refl _ _)))).s2, (HB1.out _ _ (hA2.below (Below.drew (Below.refl _ _)))).s3, (HB1.out _ _ (hA2.below (Below.drew (Below.refl _ _)))).s4⟩
      | exact ⟨(HB1.out _ _ hA3).p0, (HB1.out _ _ hA3).p1, (HB1.out _ _ hA3).s2, (HB1.out _ _ hA3).s3, (HB1.out _ _ hA3).s4⟩
      | exact ⟨(HB1.out _ _ hA4).p0, (HB1.out _ _ hA4).p1, (HB1.out _ _ hA4).s2, (HB1.out _ _ hA4).s3, (HB1.out _ _ hA4).s4⟩
      | go_keep
      | (trace_state; fail))
    (first
      | (go_at_call 17; refine (D1.out _ (hA2.below (Below.drew (Below.refl _ _)))).mono ?_; rintro e w7 ⟨rfl, hA3⟩)
      | (go_at_call 18; refine (D2.out _ hA3).mono ?_; rintro e w8 ⟨rfl, hA4⟩))
  all_goals
    have HF := run.hid (HW1.out _ _ hA4)
    clear hA2 hA3 hA4 HB1 HW1 D1 D2
    cases f1 <;> go_wp2 <;> go_ret <;> exact ⟨rfl, HF.out⟩
set_option maxRecDepth 100000 in
set_option maxHeartbeats 4000000 in
theorem pstep_undo (hD : Du S0 w0 B l w) (hB : B ≤ w.heap.size) (hi : l[i]? = some (b, s, r, s)) (ok : EdOk s) (who n : Int) (m : Bool) (t : ByteArray) (ht : t.size ≤ 1048576) :
    Calls Tryz.prog 7 #[pairV b r, stepV 3 who n m t] w fun e w' => e = .returned (.bool true) ∧ Du S0 w0 B (l.set i (b, (undoT s).2, r, (undoT s).2)) w' := by
  obtain ⟨S1, hS1, hdu, hfin⟩ := hD.open_
  have hw1 := boxed_below w b r 3 who n m t
  have hA2 := hdu _ hw1
  have hB1 : B ≤ (boxed w b r 3 who n m t).heap.size := Nat.le_trans hB hw1.size
  have hn0 : ¬ S1 w.heap.size := fun h => Nat.lt_irrefl _ (hS1 _ h).1
  have hn1 : ¬ S1 (w.heap.size + 1) := fun h => Nat.lt_irrefl _ (Nat.lt_of_succ_lt (hS1 _ h).1)
  have b0 := boxed_box w b r 3 who n m t
  have s0 := b0.s0
  have HB1 := run.hid (fun l w' (h : Du S1 (boxed w b r 3 who n m t) B l w') => b0.du h hn0 hn1)
  have HW1 := run.hid (fun l w' (h : Du S1 (boxed w b r 3 who n m t) B l w') => hfin _ _ l hw1 h)
  obtain ⟨ft, hft⟩ : ∃ ft, ft = undoT s := ⟨_, rfl⟩
  have D1 := run.hid (fun w' (h : Du S1 (boxed w b r 3 who n m t) B l w') => h.callE hB1 hi (fun S g lb hE hl => undo_s hE ok))
  have D2 := run.hid (fun w' (h : Du S1 (boxed w b r 3 who n m t) B (l.set i (b, (undoT s).2, r, s)) w') => h.callR (set_twice hi _) (fun S hR hl => rundo_s hR ok))
  rw [← hft] at D1 D2 ⊢
  rw [List.set_set] at D2
  clear hft hD hdu hfin hS1 hn0 hn1 b0 hw1 hB1
  clear hB
  obtain ⟨f1, f2⟩ := ft
  dsimp only at D1 D2 ⊢
  go_enter Tryz.func7, Tryz.ntmps7
  go_upto_region 1 with fail
  unfold boxed at *
  generalize (w.alloc (.cells #[.pointer (some ⟨b, 0, none⟩), .pointer (some ⟨r, 0, none⟩)] 31)).alloc (.cells #[.int .i64 3, .int .i64 who, .int .i64 n, .bool m, .string t] 33) = w1 at *
  generalize w.heap.size = BB at *
  go_upto_region 9 with fail
  go_region_held3 (fun w' => w'.cell? ⟨BB, 0, none⟩ = some (.pointer (some ⟨b, 0, none⟩)) ∧ w'.cell? ⟨BB, 1, none⟩ = some (.pointer (some ⟨r, 0, none⟩)) ∧ w'.cell? ⟨BB + 1, 2, none⟩ = some (.int .i64 n) ∧ w'.cell? ⟨BB + 1, 3, none⟩ = some (.bool m) ∧ w'.cell? ⟨BB + 1, 4, none⟩ = some (.string t))
    (first
      | assumption
      | exact ⟨(HB1.out _ _ (hA2.below (Below.drew (Below.refl _ _)))).p0, (HB1.out _ _ (hA2.below (Below.drew (Below.refl _ _)))).p1, (HB1.out _ _ (hA2.below (Below.drew (Below.refl _ _)))).s2, (HB1.out _ _ (hA2.below (Below.drew (Below.refl _ _)))).s3, (HB1.out _ _ (hA2.below (Below.drew (Below.refl _ _)))).s4⟩
      | exact ⟨(HB1.out _ _ hA3).p0, (HB1.out _ _ hA3).p1, (HB1.out _ _ hA3).s2, (HB1.out _ _ hA3).s3, (HB1.out _ _ hA3).s4⟩
      | exact ⟨(HB1.out _ _ hA4).p0, (HB1.out _ _ hA4).p1, (HB1.out _ _ hA4).s2, (HB1.out _ _ hA4).s3, (HB1.out _ _ hA4).s4⟩
      | go_keep
      | (trace_state; fail))
    (first
      | (go_at_call 19; refine (D1.out _ (hA2.below (Below.drew (Below.refl _ _)))).mono ?_; rintro e w7 ⟨rfl, hA3⟩)
      | (go_at_call 20; refine (D2.out _ hA3).mono ?_; rintro e w8 ⟨rfl, hA4⟩))
  all_goals
    have HF := run.hid (HW1.out _ _ hA4)
    clear hA2 hA3 hA4 HB1 HW1 D1 D2
    cases f1 <;> go_wp2 <;> go_ret <;> exact ⟨rfl, HF.out⟩
set_option maxRecDepth 100000 in
set_option maxHeartbeats 4000000 in
theorem pstep_redo (hD : Du S0 w0 B l w) (hB : B ≤ w.heap.size) (hi : l[i]? = some (b, s, r, s)) (ok : EdOk s) (who n : Int) (m : Bool) (t : ByteArray) (ht : t.size ≤ 1048576) :
    Calls Tryz.prog 7 #[pairV b r, stepV 4 who n m t] w fun e w' => e = .returned (.bool true) ∧ Du S0 w0 B (l.set i (b, (redoT s).2, r, (redoT s).2)) w' := by
  obtain ⟨S1, hS1, hdu, hfin⟩ := hD.open_
  have hw1 := boxed_below w b r 4 who n m t
  have hA2 := hdu _ hw1
  have hB1 : B ≤ (boxed w b r 4 who n m t).heap.size := Nat.le_trans hB hw1.size
  have hn0 : ¬ S1 w.heap.size := fun h => Nat.lt_irrefl _ (hS1 _ h).1
  have hn1 : ¬ S1 (w.heap.size + 1) := fun h => Nat.lt_irrefl _ (Nat.lt_of_succ_lt (hS1 _ h).1)
  have b0 := boxed_box w b r 4 who n m t
  have s0 := b0.s0
  have HB1 := run.hid (fun l w' (h : Du S1 (boxed w b r 4 who n m t) B l w') => b0.du h hn0 hn1)
  have HW1 := run.hid (fun l w' (h : Du S1 (boxed w b r 4 who n m t) B l w') => hfin _ _ l hw1 h)
  obtain ⟨ft, hft⟩ : ∃ ft, ft = redoT s := ⟨_, rfl⟩
  have D1 := run.hid (fun w' (h : Du S1 (boxed w b r 4 who n m t) B l w') => h.callE hB1 hi (fun S g lb hE hl => redo_s hE ok))
  have D2 := run.hid (fun w' (h : Du S1 (boxed w b r 4 who n m t) B (l.set i (b, (redoT s).2, r, s)) w') => h.callR (set_twice hi _) (fun S hR hl => rredo_s hR ok))
  rw [← hft] at D1 D2 ⊢
  rw [List.set_set] at D2
  clear hft hD hdu hfin hS1 hn0 hn1 b0 hw1 hB1
  clear hB
  obtain ⟨f1, f2⟩ := ft
  dsimp only at D1 D2 ⊢
  go_enter Tryz.func7, Tryz.ntmps7
  go_upto_region 1 with fail
  unfold boxed at *
  generalize (w.alloc (.cells #[.pointer (some ⟨b, 0, none⟩), .pointer (some ⟨r, 0, none⟩)] 31)).alloc (.cells #[.int .i64 4, .int .i64 who, .int .i64 n, .bool m, .string t] 33) = w1 at *
  generalize w.heap.size = BB at *
  go_upto_region 11 with fail
  go_region_held3 (fun w' => w'.cell? ⟨BB, 0, none⟩ = some (.pointer (some ⟨b, 0, none⟩)) ∧ w'.cell? ⟨BB, 1, none⟩ = some (.pointer (some ⟨r, 0, none⟩)) ∧ w'.cell? ⟨BB + 1, 2, none⟩ = some (.int .i64 n) ∧ w'.cell? ⟨BB + 1, 3, none⟩ = some (.bool m) ∧ w'.cell? ⟨BB + 1, 4, none⟩ = some (.string t))
    (first
      | assumption
      | exact ⟨(HB1.out _ _ (hA2.below (Below.drew (Below.refl _ _)))).p0, (HB1.out _ _ (hA2.below (Below.drew (Below.refl _ _)))).p1, (HB1.out _ _ (hA2.below (Below.drew (Below.refl _ _)))).s2, (HB1.out _ _ (hA2.below (Below.drew (Below.refl _ _)))).s3, (HB1.out _ _ (hA2.below (Below.drew (Below.refl _ _)))).s4⟩
      | exact ⟨(HB1.out _ _ hA3).p0, (HB1.out _ _ hA3).p1, (HB1.out _ _ hA3).s2, (HB1.out _ _ hA3).s3, (HB1.out _ _ hA3).s4⟩
      | exact ⟨(HB1.out _ _ hA4).p0, (HB1.out _ _ hA4).p1, (HB1.out _ _ hA4).s2, (HB1.out _ _ hA4).s3, (HB1.out _ _ hA4).s4⟩
      | go_keep
      | (trace_state; fail))
    (first
      | (go_at_call 21; refine (D1.out _ (hA2.below (Below.drew (Below.refl _ _)))).mono ?_; rintro e w7 ⟨rfl, hA3⟩)
      | (go_at_call 22; refine (D2.out _ hA3).mono ?_; rintro e w8 ⟨rfl, hA4⟩))
  all_goals
    have HF := run.hid (HW1.out _ _ hA4)
    clear hA2 hA3 hA4 HB1 HW1 D1 D2
    cases f1 <;> go_wp2 <;> go_ret <;> exact ⟨rfl, HF.out⟩
end
end Go.Proofs.YtbhhfagifdjmmaaGreat.ed
namespace Go.Proofs.YtbhhfagifdjmmaaGreat.ed
open Go Go.RowKit Go.Proofs
set_option linter.unusedVariables false
theorem pview_l {B b : Nat} {s : Sta} {w : World} (h : EdL B b s w) (ok : EdOk s) (x : Int) :
    Calls Tryz.prog 23 #[.pointer (some ⟨b, 0, none⟩), .int .i64 x] w fun e w' => e = .returned (.tuple #[.string (viewT s.F s.ca x).1, .int .i64 ((viewT s.F s.ca x).2 : Nat)]) ∧ Below w.heap.size w w' := by
  obtain ⟨S, g, lb, ⟨⟨sv, hE, -⟩, -, -, -⟩, -⟩ := h
  exact viewW_any hE x ok.h.ca ok.h.len ok.h.size (lin_wd ok.h.lin)
/-- a method that asks -/
theorem Du.ask {S0 : Nat → Prop} {w0 w : World} {B : Nat} {l : List (Nat × Sta × Nat × Sta)} (h : Du S0 w0 B l w) {f : FuncId} {args : Array Value} {v : Value}
    (hc : Calls Tryz.prog f args w fun e w' => e = .returned v ∧ Below w.heap.size w w') : Calls Tryz.prog f args w fun e w' => e = .returned v ∧ Du S0 w0 B l w' :=
  hc.mono fun e w' hh => ⟨hh.1, h.below hh.2⟩
theorem view_is_small (F : List TV) (ca : Nat) (x : Int) : ∃ v : Nat, ((viewT F ca x).2 : Int) = (v : Nat) := ⟨_, rfl⟩
section
variable {S0 : Nat → Prop} {w0 w : World} {B i b r : Nat} {l : List (Nat × Sta × Nat × Sta)} {s : Sta}
set_option maxRecDepth 100000 in
set_option maxHeartbeats 4000000 in
theorem pstep_view (hD : Du S0 w0 B l w) (hB : B ≤ w.heap.size) (hi : l[i]? = some (b, s, r, s)) (ok : EdOk s) (who n : Int) (m : Bool) (t : ByteArray) :
    Calls Tryz.prog 7 #[pairV b r, stepV 5 who n m t] w fun e w' => e = .returned (.bool true) ∧ Du S0 w0 B l w' := by
  obtain ⟨S1, hS1, hdu, hfin⟩ := hD.open_
  have hw1 := boxed_below w b r 5 who n m t
  have hA2 := hdu _ hw1
  have hB1 : B ≤ (boxed w b r 5 who n m t).heap.size := Nat.le_trans hB hw1.size
  have hn0 : ¬ S1 w.heap.size := fun h => Nat.lt_irrefl _ (hS1 _ h).1
  have hn1 : ¬ S1 (w.heap.size + 1) := fun h => Nat.lt_irrefl _ (Nat.lt_of_succ_lt (hS1 _ h).1)
  have b0 := boxed_box w b r 5 who n m t
  have s0 := b0.s0
  have HB1 := run.hid (fun l w' (h : Du S1 (boxed w b r 5 who n m t) B l w') => b0.du h hn0 hn1)
  have HW1 := run.hid (fun l w' (h : Du S1 (boxed w b r 5 who n m t) B l w') => hfin _ _ l hw1 h)
  have D1 := run.hid (fun w' (h : Du S1 (boxed w b r 5 who n m t) B l w') => h.ask (pview_l (h.one hi).1 ok n))
  have D2 := run.hid (fun w' (h : Du S1 (boxed w b r 5 who n m t) B l w') => h.ask (by obtain ⟨-, S, hR⟩ := h.one hi; exact rview_any hR n ok.h.len ok.h.size ok.h.ca (lin_wd ok.h.lin)))
  obtain ⟨vb, hvb⟩ : ∃ vb, vb = (viewT s.F s.ca n).1 := ⟨_, rfl⟩
  obtain ⟨vn, hvn⟩ : ∃ vn : Int, vn = ((viewT s.F s.ca n).2 : Nat) := ⟨_, rfl⟩
  rw [← hvb, ← hvn] at D1 D2
  clear hvb hvn
  clear hdu hfin hS1 hn0 hn1 b0 hw1 hB1 hD
  clear hB
  go_enter Tryz.func7, Tryz.ntmps7
  go_upto_region 1 with fail
  unfold boxed at *
  generalize (w.alloc (.cells #[.pointer (some ⟨b, 0, none⟩), .pointer (some ⟨r, 0, none⟩)] 31)).alloc (.cells #[.int .i64 5, .int .i64 who, .int .i64 n, .bool m, .string t] 33) = w1 at *
  generalize w.heap.size = BB at *
  go_upto_region 13 with fail
  have hBx := HB1.out _ _ hA2
  have b1 := hBx.p0
  have b3 := hBx.s2
  clear hBx
  go_wp2_with fail
  refine (D1.out _ hA2).mono ?_
  rintro e w2 ⟨rfl, hA3⟩
  clear hA2 b1 b3 s0
  have hBx := HB1.out _ _ hA3
  have b1 := hBx.p1
  have b3 := hBx.s2
  clear hBx
  go_wp2_with fail
  refine (D2.out _ hA3).mono ?_
  rintro e w3 ⟨rfl, hA4⟩
  have HF := run.hid (HW1.out _ _ hA4)
  clear hA3 hA4 HB1 HW1 D1 D2 b1 b3
  go_wp2
  go_ret
  exact ⟨rfl, HF.out⟩
set_option maxRecDepth 100000 in
set_option maxHeartbeats 4000000 in
theorem pstep_marked (hD : Du S0 w0 B l w) (hB : B ≤ w.heap.size) (hi : l[i]? = some (b, s, r, s)) (ok : EdOk s) (who n : Int) (m : Bool) (t : ByteArray) :
    Calls Tryz.prog 7 #[pairV b r, stepV 7 who n m t] w fun e w' => e = .returned (.bool true) ∧ Du S0 w0 B l w' := by
  obtain ⟨S1, hS1, hdu, hfin⟩ := hD.open_
  have hw1 := boxed_below w b r 7 who n m t
  have hA2 := hdu _ hw1
  have hB1 : B ≤ (boxed w b r 7 who n m t).heap.size := Nat.le_trans hB hw1.size
  have hn0 : ¬ S1 w.heap.size := fun h => Nat.lt_irrefl _ (hS1 _ h).1
  have hn1 : ¬ S1 (w.heap.size + 1) := fun h => Nat.lt_irrefl _ (Nat.lt_of_succ_lt (hS1 _ h).1)
  have b0 := boxed_box w b r 7 who n m t
  have s0 := b0.s0
  have HB1 := run.hid (fun l w' (h : Du S1 (boxed w b r 7 who n m t) B l w') => b0.du h hn0 hn1)
  have HW1 := run.hid (fun l w' (h : Du S1 (boxed w b r 7 who n m t) B l w') => hfin _ _ l hw1 h)
  have D1 := run.hid (fun w' (h : Du S1 (boxed w b r 7 who n m t) B l w') => h.ask (marked_l (h.one hi).1))
  have D2 := run.hid (fun w' (h : Du S1 (boxed w b r 7 who n m t) B l w') => h.ask (by obtain ⟨-, S, hR⟩ := h.one hi; exact (rmarked_any hR).mono fun e w' hh => ⟨hh.1, hh.2.below⟩))
  obtain ⟨vb, hvb⟩ : ∃ vb : Int, vb = ((mkT s.an s.ca).1 : Nat) := ⟨_, rfl⟩
  obtain ⟨vn, hvn⟩ : ∃ vn : Int, vn = ((mkT s.an s.ca).2 : Nat) := ⟨_, rfl⟩
  rw [← hvb, ← hvn] at D1 D2
  clear hvb hvn
  clear hdu hfin hS1 hn0 hn1 b0 hw1 hB1 hD
  clear hB
  go_enter Tryz.func7, Tryz.ntmps7
  go_upto_region 1 with fail
  unfold boxed at *
  generalize (w.alloc (.cells #[.pointer (some ⟨b, 0, none⟩), .pointer (some ⟨r, 0, none⟩)] 31)).alloc (.cells #[.int .i64 7, .int .i64 who, .int .i64 n, .bool m, .string t] 33) = w1 at *
  generalize w.heap.size = BB at *
  go_upto_region 19 with fail
  have hBx := HB1.out _ _ hA2
  have b1 := hBx.p0
  have b3 := hBx.s2
  clear hBx
  go_wp2_with fail
  refine (D1.out _ hA2).mono ?_
  rintro e w2 ⟨rfl, hA3⟩
  clear hA2 b1 b3 s0
  have hBx := HB1.out _ _ hA3
  have b1 := hBx.p1
  have b3 := hBx.s2
  clear hBx
  go_wp2_with fail
  refine (D2.out _ hA3).mono ?_
  rintro e w3 ⟨rfl, hA4⟩
  have HF := run.hid (HW1.out _ _ hA4)
  clear hA3 hA4 HB1 HW1 D1 D2 b1 b3
  go_wp2
  go_ret
  exact ⟨rfl, HF.out⟩
set_option maxRecDepth 100000 in
set_option maxHeartbeats 4000000 in
theorem pstep_text (hD : Du S0 w0 B l w) (hB : B ≤ w.heap.size) (hi : l[i]? = some (b, s, r, s)) (ok : EdOk s) (who n : Int) (m : Bool) (t : ByteArray) :
    Calls Tryz.prog 7 #[pairV b r, stepV 6 who n m t] w fun e w' => e = .returned (.bool true) ∧ Du S0 w0 B l w' := by
  obtain ⟨S1, hS1, hdu, hfin⟩ := hD.open_
  have hw1 := boxed_below w b r 6 who n m t
  have hA2 := hdu _ hw1
  have hB1 : B ≤ (boxed w b r 6 who n m t).heap.size := Nat.le_trans hB hw1.size
  have hn0 : ¬ S1 w.heap.size := fun h => Nat.lt_irrefl _ (hS1 _ h).1
  have hn1 : ¬ S1 (w.heap.size + 1) := fun h => Nat.lt_irrefl _ (Nat.lt_of_succ_lt (hS1 _ h).1)
  have b0 := boxed_box w b r 6 who n m t
  have s0 := b0.s0
  have HB1 := run.hid (fun l w' (h : Du S1 (boxed w b r 6 who n m t) B l w') => b0.du h hn0 hn1)
  have HW1 := run.hid (fun l w' (h : Du S1 (boxed w b r 6 who n m t) B l w') => hfin _ _ l hw1 h)
  have D1 := run.hid (fun w' (h : Du S1 (boxed w b r 6 who n m t) B l w') => h.ask (text_l (h.one hi).1 ok))
  have D2 := run.hid (fun w' (h : Du S1 (boxed w b r 6 who n m t) B l w') => h.ask (by obtain ⟨-, S, hR⟩ := h.one hi; exact rtext_any hR ok.h.len ok.h.size))
  have D3 := run.hid (fun w' (h : Du S1 (boxed w b r 6 who n m t) B l w') => h.ask (caret_l (h.one hi).1))
  have D4 := run.hid (fun w' (h : Du S1 (boxed w b r 6 who n m t) B l w') => h.ask (by obtain ⟨-, S, hR⟩ := h.one hi; exact (rcaret_any hR).mono fun e w' hh => ⟨hh.1, by rw [hh.2]; exact Below.refl _ _⟩))
  obtain ⟨vb, hvb⟩ : ∃ vb, vb = textB s.F := ⟨_, rfl⟩
  obtain ⟨vn, hvn⟩ : ∃ vn : Int, vn = (s.ca : Nat) := ⟨_, rfl⟩
  rw [← hvb] at D1 D2
  rw [← hvn] at D3 D4
  clear hvb hvn
  clear hdu hfin hS1 hn0 hn1 b0 hw1 hB1 hD
  clear hB
  go_enter Tryz.func7, Tryz.ntmps7
  go_upto_region 1 with fail
  unfold boxed at *
  generalize (w.alloc (.cells #[.pointer (some ⟨b, 0, none⟩), .pointer (some ⟨r, 0, none⟩)] 31)).alloc (.cells #[.int .i64 6, .int .i64 who, .int .i64 n, .bool m, .string t] 33) = w1 at *
  generalize w.heap.size = BB at *
  go_upto_region 17 with fail
  go_region_held3 (fun w' => w'.cell? ⟨BB, 0, none⟩ = some (.pointer (some ⟨b, 0, none⟩)) ∧ w'.cell? ⟨BB, 1, none⟩ = some (.pointer (some ⟨r, 0, none⟩)))
    (first
      | assumption
      | exact ⟨(HB1.out _ _ (hA2.below (Below.drew (Below.refl _ _)))).p0, (HB1.out _ _ (hA2.below (Below.drew (Below.refl _ _)))).p1⟩
      | exact ⟨(HB1.out _ _ hA6).p0, (HB1.out _ _ hA6).p1⟩
      | exact ⟨(HB1.out _ _ hA5).p0, (HB1.out _ _ hA5).p1⟩
      | exact ⟨(HB1.out _ _ hA4).p0, (HB1.out _ _ hA4).p1⟩
      | exact ⟨(HB1.out _ _ hA3).p0, (HB1.out _ _ hA3).p1⟩
      | go_keep
      | (trace_state; fail))
    (first
      | (go_at_call 25; refine (D1.out _ (hA2.below (Below.drew (Below.refl _ _)))).mono ?_; rintro e w7 ⟨rfl, hA3⟩)
      | (go_at_call 26; refine (D2.out _ hA3).mono ?_; rintro e w8 ⟨rfl, hA4⟩)
      | (go_at_call 27; refine (D3.out _ hA4).mono ?_; rintro e w8 ⟨rfl, hA5⟩)
      | (go_at_call 28; refine (D4.out _ hA5).mono ?_; rintro e w8 ⟨rfl, hA6⟩))
  all_goals
    have HF := run.hid (HW1.out _ _ hA6)
    clear hA2 hA3 hA4 hA5 hA6 HB1 HW1 D1 D2 D3 D4
    go_wp2
    go_ret
    exact ⟨rfl, HF.out⟩
set_option maxRecDepth 100000 in
set_option maxHeartbeats 4000000 in
theorem pstep_other (hD : Du S0 w0 B l w) (hB : B ≤ w.heap.size) (hi : l[i]? = some (b, s, r, s)) (ok : EdOk s) (d : Int) (hd : ∀ k : Nat, k ≤ 7 → d ≠ k) (who n : Int) (m : Bool) (t : ByteArray) :
    Calls Tryz.prog 7 #[pairV b r, stepV d who n m t] w fun e w' => e = .returned (.bool true) ∧ Du S0 w0 B l w' := by
  obtain ⟨S1, hS1, hdu, hfin⟩ := hD.open_
  have hw1 := boxed_below w b r d who n m t
  have hA2 := hdu _ hw1
  have hB1 : B ≤ (boxed w b r d who n m t).heap.size := Nat.le_trans hB hw1.size
  have hn0 : ¬ S1 w.heap.size := fun h => Nat.lt_irrefl _ (hS1 _ h).1
  have hn1 : ¬ S1 (w.heap.size + 1) := fun h => Nat.lt_irrefl _ (Nat.lt_of_succ_lt (hS1 _ h).1)
  have b0 := boxed_box w b r d who n m t
  have s0 := b0.s0
  have HB1 := run.hid (fun l w' (h : Du S1 (boxed w b r d who n m t) B l w') => b0.du h hn0 hn1)
  have HW1 := run.hid (fun l w' (h : Du S1 (boxed w b r d who n m t) B l w') => hfin _ _ l hw1 h)
  have d0 : d ≠ 0 := hd 0 (by omega)
  have d1 : d ≠ 1 := hd 1 (by omega)
  have d2 : d ≠ 2 := hd 2 (by omega)
  have d3 : d ≠ 3 := hd 3 (by omega)
  have d4 : d ≠ 4 := hd 4 (by omega)
  have d5 : d ≠ 5 := hd 5 (by omega)
  have d6 : d ≠ 6 := hd 6 (by omega)
  have d7 : d ≠ 7 := hd 7 (by omega)
  clear hd
  clear hdu hfin hS1 hn0 hn1 b0 hw1 hB1 hD
  clear hB
  go_enter Tryz.func7, Tryz.ntmps7
  go_upto_region 1 with fail
  unfold boxed at *
  generalize (w.alloc (.cells #[.pointer (some ⟨b, 0, none⟩), .pointer (some ⟨r, 0, none⟩)] 31)).alloc (.cells #[.int .i64 d, .int .i64 who, .int .i64 n, .bool m, .string t] 33) = w1 at *
  generalize w.heap.size = BB at *
  have HF := run.hid (HW1.out _ _ hA2)
  clear hA2 HB1 HW1
  go_wp2
  go_ret
  exact ⟨rfl, HF.out⟩
end
end Go.Proofs.YtbhhfagifdjmmaaGreat.ed
namespace Go.Proofs.YtbhhfagifdjmmaaGreat.ed
open Go Go.RowKit Go.Proofs
set_option linter.unusedVariables false
/-- an editor behind one step -/
def stT (s : Sta) (d n : Int) (m : Bool) (t : ByteArray) : Sta :=
  if d = 0 then (goT s n m).2 else if d = 1 then (insT s t).2 else if d = 2 then (delT s n).2 else if d = 3 then (undoT s).2 else if d = 4 then (redoT s).2 else s
theorem ok_st {s : Sta} (ok : EdOk s) (d n : Int) (m : Bool) (t : ByteArray) : EdOk (stT s d n m t) := by
  unfold stT
  split
  · exact ok_go ok n m
  split
  · exact ok_ins ok t
  split
  · exact ok_del ok n
  split
  · exact ok_undo ok
  split
  · exact ok_redo ok
  exact ok
theorem set_same {l : List (Nat × Sta × Nat × Sta)} {i : Nat} {x : Nat × Sta × Nat × Sta} (h : l[i]? = some x) : l.set i x = l := by
  apply List.ext_getElem?
  intro j
  by_cases hj : i = j
  · subst hj
    rw [List.getElem?_set_self (List.getElem?_eq_some_iff.1 h).1, h]
  · rw [List.getElem?_set_ne hj]
section
variable {S0 : Nat → Prop} {w0 w : World} {B i b r : Nat} {l : List (Nat × Sta × Nat × Sta)} {s : Sta}
theorem pstep_any (hD : Du S0 w0 B l w) (hB : B ≤ w.heap.size) (hi : l[i]? = some (b, s, r, s)) (ok : EdOk s) (d who n : Int) (m : Bool) (t : ByteArray) (ht : t.size ≤ 1048576) :
    Calls Tryz.prog 7 #[pairV b r, stepV d who n m t] w fun e w' => e = .returned (.bool true) ∧ Du S0 w0 B (l.set i (b, stT s d n m t, r, stT s d n m t)) w' := by
  by_cases h0 : d = 0
  · subst h0
    exact pstep_go hD hB hi ok who n m t ht
  by_cases h1 : d = 1
  · subst h1
    exact pstep_ins hD hB hi ok who n m t ht
  by_cases h2 : d = 2
  · subst h2
    exact pstep_del hD hB hi ok who n m t ht
  by_cases h3 : d = 3
  · subst h3
    exact pstep_undo hD hB hi ok who n m t ht
  by_cases h4 : d = 4
  · subst h4
    exact pstep_redo hD hB hi ok who n m t ht
  have e : stT s d n m t = s := by
    unfold stT
    rw [if_neg h0, if_neg h1, if_neg h2, if_neg h3, if_neg h4]
  rw [e, set_same hi]
  by_cases h5 : d = 5
  · subst h5
    exact pstep_view hD hB hi ok who n m t
  by_cases h6 : d = 6
  · subst h6
    exact pstep_text hD hB hi ok who n m t
  by_cases h7 : d = 7
  · subst h7
    exact pstep_marked hD hB hi ok who n m t
  refine pstep_other hD hB hi ok d (fun k hk => ?_) who n m t
  omega
set_option maxRecDepth 100000 in
set_option maxHeartbeats 4000000 in
theorem looks_any (hD : Du S0 w0 B l w) (hB : B ≤ w.heap.size) (hi : l[i]? = some (b, s, r, s)) (ok : EdOk s) :
    Calls Tryz.prog 8 #[pairV b r] w fun e w' => e = .returned (.bool true) ∧ Du S0 w0 B l w' := by
  obtain ⟨S1, hS1, hdu, hfin⟩ := hD.open_
  have hw1 : Below w.heap.size w (w.alloc (.cells #[.pointer (some ⟨b, 0, none⟩), .pointer (some ⟨r, 0, none⟩)] 31)) := (Below.refl _ _).alloc (Nat.le_refl _) _
  have hA1 := hdu _ hw1
  have hn0 : ¬ S1 w.heap.size := fun h => Nat.lt_irrefl _ (hS1 _ h).1
  have p0 : (w.alloc (.cells #[.pointer (some ⟨b, 0, none⟩), .pointer (some ⟨r, 0, none⟩)] 31)).cell? ⟨w.heap.size, 0, none⟩ = some (.pointer (some ⟨b, 0, none⟩)) := World.cell?_alloc_at _ _ _ _ rfl
  have p1 : (w.alloc (.cells #[.pointer (some ⟨b, 0, none⟩), .pointer (some ⟨r, 0, none⟩)] 31)).cell? ⟨w.heap.size, 1, none⟩ = some (.pointer (some ⟨r, 0, none⟩)) := World.cell?_alloc_at _ _ _ _ rfl
  have hB1 : B ≤ (w.alloc (.cells #[.pointer (some ⟨b, 0, none⟩), .pointer (some ⟨r, 0, none⟩)] 31)).heap.size := Nat.le_trans hB hw1.size
  have HB := run.hid (fun w' (h : Du S1 (w.alloc (.cells #[.pointer (some ⟨b, 0, none⟩), .pointer (some ⟨r, 0, none⟩)] 31)) B l w') => And.intro (h.cell p0 hn0) (h.cell p1 hn0))
  have HW := run.hid (fun w' (h : Du S1 (w.alloc (.cells #[.pointer (some ⟨b, 0, none⟩), .pointer (some ⟨r, 0, none⟩)] 31)) B l w') => hfin _ _ l hw1 h)
  have D1 := run.hid (fun w' (h : Du S1 (w.alloc (.cells #[.pointer (some ⟨b, 0, none⟩), .pointer (some ⟨r, 0, none⟩)] 31)) B l w') => pstep_text h (Nat.le_trans hB1 h.kept.size) hi ok 0 0 false ⟨#[]⟩)
  have D2 := run.hid (fun w' (h : Du S1 (w.alloc (.cells #[.pointer (some ⟨b, 0, none⟩), .pointer (some ⟨r, 0, none⟩)] 31)) B l w') => pstep_marked h (Nat.le_trans hB1 h.kept.size) hi ok 0 0 false ⟨#[]⟩)
  have D3 := run.hid (fun w' (h : Du S1 (w.alloc (.cells #[.pointer (some ⟨b, 0, none⟩), .pointer (some ⟨r, 0, none⟩)] 31)) B l w') => pstep_view h (Nat.le_trans hB1 h.kept.size) hi ok 0 7 false ⟨#[]⟩)
  clear hdu hfin hS1 hn0 hw1 hB1 hD hB
  go_enter Tryz.func8, Tryz.ntmps8
  go_upto_region 1 with fail
  generalize w.alloc (.cells #[.pointer (some ⟨b, 0, none⟩), .pointer (some ⟨r, 0, none⟩)] 31) = w1 at *
  generalize w.heap.size = BB at *
  go_wp2_with fail
  refine (D1.out _ hA1).mono ?_
  rintro e w2 ⟨rfl, hA2⟩
  clear p0 p1 hA1
  obtain ⟨p0, p1⟩ := HB.out _ hA2
  go_wp2_with fail
  refine (D2.out _ hA2).mono ?_
  rintro e w3 ⟨rfl, hA3⟩
  clear p0 p1 hA2
  obtain ⟨p0, p1⟩ := HB.out _ hA3
  go_wp2_with fail
  refine (D3.out _ hA3).mono ?_
  rintro e w4 ⟨rfl, hA4⟩
  have HF := run.hid (HW.out _ hA4)
  clear p0 p1 hA3 hA4 HB HW D1 D2 D3
  go_wp2
  go_ret
  exact ⟨rfl, HF.out⟩
end
end Go.Proofs.YtbhhfagifdjmmaaGreat.ed
namespace Go.Proofs.YtbhhfagifdjmmaaGreat.ed
open Go Go.RowKit Go.Proofs
set_option linter.unusedVariables false
theorem snoc_at {es : List Tr} {x : Tr} : ∀ (i : Nat) (e : Tr), (es ++ [x])[i]? = some e → (es[i]? = some e ∧ i < es.length) ∨ (i = es.length ∧ e = x) := by
  intro i e h
  by_cases h1 : i < es.length
  · rw [List.getElem?_append_left h1] at h
    exact .inl ⟨h, h1⟩
  · have h3 := (List.getElem?_eq_some_iff.1 h).1
    rw [List.length_append] at h3
    simp only [List.length_cons, List.length_nil] at h3
    have h4 : i = es.length := by omega
    subst h4
    rw [List.getElem?_append_right (Nat.le_refl _), Nat.sub_self] at h
    simp only [List.getElem?_cons_zero, Option.some.injEq] at h
    exact .inr ⟨rfl, h.symm⟩
/-- a block that is let be -/
def Free (g : Option Nat) (S : Nat → Prop) (es : List Tr) : Prop := ∀ k, g = some k → S k ∧ ∀ (i : Nat) (e : Tr), es[i]? = some e → ¬ Own e.b e.g e.lb k ∧ e.r ≠ k
/-- pairs, and a block g that is let be: it may be written in, and is none of theirs -/
def DuoF (B : Nat) (q : Option Nat) (l : List (Nat × Sta × Nat × Sta)) (w : World) : Prop := ∃ S es, DuoIn S B es w ∧ l = es.map Tr.key ∧ Free q S es
/-- pairs, and an editor of the program's that has no fellow yet -/
def Half (B : Nat) (q : Option Nat) (l : List (Nat × Sta × Nat × Sta)) (b : Nat) (s : Sta) (w : World) : Prop :=
  ∃ S es g lb, DuoIn S B es w ∧ l = es.map Tr.key ∧ EdS S b g lb s w ∧ (∀ (i : Nat) (e : Tr), es[i]? = some e → ∀ k, Own e.b e.g e.lb k → ¬ Own b g lb k) ∧ (∀ (i : Nat) (e : Tr), es[i]? = some e → ¬ Own b g lb e.r) ∧ Free q S es ∧ (∀ k, q = some k → ¬ Own b g lb k)
theorem DuoF.new {B : Nat} {q : Option Nat} {l : List (Nat × Sta × Nat × Sta)} {w : World} (h : DuoF B q l w) (hB : B ≤ w.heap.size) (t : ByteArray) (ht : t.size ≤ 68719476736) :
    Calls Tryz.prog 5 #[.string t] w fun e w' => ∃ b, e = .returned (.pointer (some ⟨b, 0, none⟩)) ∧ Half B q l b (newE t) w' ∧ Below w.heap.size w w' := by
  obtain ⟨S, es, h, rfl, hfr⟩ := h
  have hlen : (newT t).length ≤ 65536 := (held_new t).len
  have HN := new_any t w ht
  unfold NewIs at HN
  have he : newE t = ⟨newT t, (newT t).length, -1, [], 0⟩ := rfl
  rw [he]
  clear he
  generalize newT t = F at *
  refine HN.mono ?_
  rintro e w' ⟨b, g, lb, cap, A, rfl, hbx, hG, hc, hg, hl, hgb, hlb, hbel⟩
  have hblt := (Array.getElem?_eq_some_iff.1 hbx).1
  have hsz := hbel.size
  have hgrow : ∀ k, (S k ∨ Own b g lb k) → S k ∨ w.heap.size ≤ k := by
    intro k hk
    rcases hk with hk | hk
    · exact .inl hk
    · right
      rcases hk with rfl | rfl | rfl <;> omega
  refine ⟨b, rfl, ⟨fun k => S k ∨ Own b g lb k, es, g, lb, ⟨fun i e hi => ?_, fun i e hi => ?_, h.far, h.rfar, h.rne, fun k hk => ?_⟩, rfl, ?_, fun i e hi k hk => ?_, fun i e hi hk => ?_, fun k hk => ⟨.inl (hfr k hk).1, (hfr k hk).2⟩, fun k hk ho => ?_⟩, hbel⟩
  · exact (h.ed i e hi).kept (Kept.of_below (S := fun _ => False) hbel) (fun _ h => h.elim) hgrow (fun _ h => .inl h)
  · exact (h.re i e hi).kept (S1 := fun _ => False) (Kept.of_below hbel) (fun _ h => h.elim) (fun h => h) hgrow (.inl (h.re i e hi).1)
  · rcases hk with hk | hk
    · have := h.lt k hk; omega
    · rcases hk with rfl | rfl | rfl <;> omega
  · refine ⟨⟨.slice none 0 0, ⟨hbx, ⟨_, _, _, _, A, hG, hc, by omega, ?_⟩, Nat.ne_of_gt hgb, Nat.ne_of_gt hlb⟩, ⟨none, 0, rfl, Nat.le_refl _, .inl ⟨rfl, rfl⟩⟩⟩, .inr (.inl rfl), .inr (.inr (.inl rfl)), .inr (.inr (.inr rfl))⟩
    show F.length + (F.length - F.length) = F.length
    omega
  · have := (h.lt k ((h.ed i e hi).own k hk)).1
    rintro (rfl | rfl | rfl) <;> omega
  · have := (h.re i e hi).lt
    rcases hk with hk | hk | hk <;> omega
  · have := (h.lt k (hfr k hk).1).1
    rcases ho with rfl | rfl | rfl <;> omega
theorem Half.more {B b : Nat} {q : Option Nat} {l : List (Nat × Sta × Nat × Sta)} {s : Sta} {w : World} (h : Half B q l b s w) (hB : B ≤ w.heap.size) (t : ByteArray) (ht : t.size ≤ 68719476736) :
    Calls Tryz.prog 6 #[.string t] w fun e w' => ∃ r, e = .returned (.pointer (some ⟨r, 0, none⟩)) ∧ DuoF B q (l ++ [(b, s, r, newE t)]) w' ∧ Below w.heap.size w w' := by
  obtain ⟨S, es, g, lb, h, rfl, hE, hfar, hr, hfr, hfo⟩ := h
  refine (rnew_any t w ht S (fun k hk => (h.lt k hk).1)).mono ?_
  rintro e w' ⟨r, rfl, hrw, hR, hbel⟩
  have hsz := hbel.size
  have hrlt := hR.lt
  have hgrow : ∀ k, (S k ∨ k = r) → S k ∨ w.heap.size ≤ k := by
    rintro k (hk | rfl)
    · exact .inl hk
    · exact .inr hrw
  have hsn := fun i e => snoc_at (es := es) (x := ⟨b, g, lb, s, r, newE t⟩) i e
  have hown : ∀ k, Own b g lb k → k < w.heap.size := fun k hk => (h.lt k (hE.own k hk)).1
  refine ⟨r, rfl, ⟨fun k => S k ∨ k = r, es ++ [⟨b, g, lb, s, r, newE t⟩], ⟨fun i e hi => ?_, fun i e hi => ?_, fun i j e f hi hj hne k hk hk2 => ?_, fun i j e f hi hj hk => ?_, fun i j e f hi hj hne => ?_, fun k hk => ?_⟩, by rw [List.map_append]; rfl, fun k hk => ⟨.inl (hfr k hk).1, fun i e hi => ?_⟩⟩, hbel⟩
  · rcases hsn i e hi with ⟨hi, -⟩ | ⟨-, rfl⟩
    · exact (h.ed i e hi).kept (Kept.of_below (S := fun _ => False) hbel) (fun _ h => h.elim) hgrow (fun _ h => .inl h)
    · exact hE.kept (Kept.of_below (S := fun _ => False) hbel) (fun _ h => h.elim) hgrow (fun _ h => .inl h)
  · rcases hsn i e hi with ⟨hi, -⟩ | ⟨-, rfl⟩
    · exact (h.re i e hi).kept (S1 := fun _ => False) (Kept.of_below hbel) (fun _ h => h.elim) (fun h => h) hgrow (.inl (h.re i e hi).1)
    · exact hR
  · rcases hsn i e hi with ⟨hi, -⟩ | ⟨h1, rfl⟩
    · rcases hsn j f hj with ⟨hj, -⟩ | ⟨h2, rfl⟩
      · exact h.far i j e f hi hj hne k hk hk2
      · exact hfar i e hi k hk hk2
    · rcases hsn j f hj with ⟨hj, -⟩ | ⟨h2, rfl⟩
      · exact hfar j f hj k hk2 hk
      · omega
  · rcases hsn i e hi with ⟨hi, -⟩ | ⟨h1, rfl⟩
    · rcases hsn j f hj with ⟨hj, -⟩ | ⟨h2, rfl⟩
      · exact h.rfar i j e f hi hj hk
      · have := (h.lt _ ((h.ed i e hi).own _ hk)).1
        dsimp only at this
        omega
    · rcases hsn j f hj with ⟨hj, -⟩ | ⟨h2, rfl⟩
      · exact hr j f hj hk
      · have := hown _ hk
        dsimp only at this
        omega
  · rcases hsn i e hi with ⟨hi, -⟩ | ⟨h1, rfl⟩
    · rcases hsn j f hj with ⟨hj, -⟩ | ⟨h2, rfl⟩
      · exact h.rne i j e f hi hj hne
      · have := (h.re i e hi).lt
        dsimp only
        omega
    · rcases hsn j f hj with ⟨hj, -⟩ | ⟨h2, rfl⟩
      · have := (h.re j f hj).lt
        dsimp only
        omega
      · omega
  · rcases hk with hk | rfl
    · have := h.lt k hk; omega
    · omega
  · have hlt := (h.lt k (hfr k hk).1).1
    rcases hsn i e hi with ⟨hi, -⟩ | ⟨h1, rfl⟩
    · exact (hfr k hk).2 i e hi
    · exact ⟨hfo k hk, fun h => by dsimp only at h; omega⟩
theorem DuoF.nil (w : World) : DuoF w.heap.size none [] w := ⟨_, _, DuoIn.nil w, rfl, fun k hk => by cases hk⟩
theorem Kept.grew {S : Nat → Prop} {w w' : World} {o : Option Nat} (hg : w.grownBy w' o) (ho : ∀ k, o = some k → S k) : Kept S w w' :=
  ⟨hg.os, hg.tape, hg.output, hg.size, fun k hk hn => hg.block k hk (fun e => hn (ho k e.symm))⟩
/-- a row is appended to -/
theorem DuoF.append {B : Nat} {q q' : Option Nat} {l : List (Nat × Sta × Nat × Sta)} {w w' : World} (h : DuoF B q l w) (hB : B ≤ w.heap.size) (hg : w.grownBy w' q) (hq : ∀ k, q' = some k → q = some k ∨ w.heap.size ≤ k) (hlt : ∀ k, q' = some k → k < w'.heap.size) : DuoF B q' l w' := by
  obtain ⟨S, es, h, rfl, hfr⟩ := h
  have hk : Kept (fun k => q = some k) w w' := Kept.grew hg (fun _ h => h)
  have hsz := hk.size
  have hgrow : ∀ k, (S k ∨ q' = some k) → S k ∨ w.heap.size ≤ k := by
    rintro k (hk | hk)
    · exact .inl hk
    · rcases hq k hk with h1 | h1
      · exact .inl (hfr k h1).1
      · exact .inr h1
  refine ⟨fun k => S k ∨ q' = some k, es, ⟨fun i e hi => ?_, fun i e hi => ?_, h.far, h.rfar, h.rne, fun k hk => ?_⟩, rfl, fun k hk => ⟨.inr hk, fun i e hi => ?_⟩⟩
  · exact (h.ed i e hi).kept hk (fun k hk => ⟨(hfr k hk).1, ((hfr k hk).2 i e hi).1⟩) hgrow (fun _ h => .inl h)
  · exact (h.re i e hi).kept hk (fun k hk => (hfr k hk).1) (fun hk => ((hfr _ hk).2 i e hi).2 rfl) hgrow (.inl (h.re i e hi).1)
  · rcases hk with hk | hk
    · have := h.lt k hk; omega
    · have h1 := hlt k hk
      rcases hq k hk with h2 | h2
      · have := (h.lt k (hfr k h2).1)
        omega
      · omega
  · rcases hq k hk with h1 | h1
    · exact (hfr k h1).2 i e hi
    · refine ⟨fun ho => ?_, fun hr => ?_⟩
      · have := (h.lt k ((h.ed i e hi).own k ho)).1
        omega
      · have := (h.re i e hi).lt
        omega
theorem EdS.less {S S' : Nat → Prop} {b g lb : Nat} {s : Sta} {w : World} (h : EdS S b g lb s w) (h1 : ∀ k, S' k → S k) (h2 : ∀ k, Own b g lb k → S' k) : EdS S' b g lb s w := by
  obtain ⟨sv, hE, hS⟩ := h.ed
  exact ⟨⟨sv, hE, hS.kept (S1 := fun _ => False) (Kept.refl _ _) (fun k h => h.elim) (fun k h => .inl (h1 k h))⟩, h2 _ (.inl rfl), h2 _ (.inr (.inl rfl)), h2 _ (.inr (.inr rfl))⟩
theorem RE.less {S S' : Nat → Prop} {r : Nat} {s : Sta} {w : World} (h : RE S r s w) (h1 : ∀ k, S' k → S k) (h2 : S' r) : RE S' r s w :=
  h.kept (S1 := fun _ => False) (Kept.refl _ _) (fun k h => h.elim) (fun h => h) (fun k h => .inl (h1 k h)) h2
/-- from here on the block that was let be stays as it is -/
theorem DuoF.du {B : Nat} {q : Option Nat} {l : List (Nat × Sta × Nat × Sta)} {w : World} (h : DuoF B q l w) : ∃ S0 : Nat → Prop, (∀ k, S0 k → k < w.heap.size ∧ B ≤ k) ∧ (∀ k, q = some k → ¬ S0 k) ∧ ∀ w', Below w.heap.size w w' → Du S0 w' B l w' := by
  obtain ⟨S, es, h, rfl, hfr⟩ := h
  have hD : DuoIn (fun k => S k ∧ q ≠ some k) B es w := ⟨fun i e hi => (h.ed i e hi).less (fun k hk => hk.1) (fun k hk => ⟨(h.ed i e hi).own k hk, fun hq => ((hfr k hq).2 i e hi).1 hk⟩),
    fun i e hi => (h.re i e hi).less (fun k hk => hk.1) ⟨(h.re i e hi).1, fun hq => ((hfr _ hq).2 i e hi).2 rfl⟩, h.far, h.rfar, h.rne, fun k hk => h.lt k hk.1⟩
  exact ⟨fun k => S k ∧ q ≠ some k, hD.lt, fun k hq hk => hk.2 hq, fun w' hb => ⟨_, es, hD.below hb, rfl, fun k hk => .inl hk, fun k hk => hk, Kept.refl _ _⟩⟩
end Go.Proofs.YtbhhfagifdjmmaaGreat.ed
namespace Go.Proofs.YtbhhfagifdjmmaaGreat.ed
open Go Go.RowKit Go.Proofs
set_option linter.unusedVariables false
abbrev Key := Nat × Sta × Nat × Sta
/-- each pair stands alike, and well -/
def Alike (l : List Key) : Prop := ∀ (i : Nat) (x : Key), l[i]? = some x → ∃ b s r, x = (b, s, r, s) ∧ EdOk s
def pairC (x : Key) : List Value := [.pointer (some ⟨x.1, 0, none⟩), .pointer (some ⟨x.2.2.1, 0, none⟩)]
def cellsK (l : List Key) : List Value := l.flatMap pairC
theorem cellsK_snoc (l : List Key) (x : Key) : cellsK (l ++ [x]) = cellsK l ++ pairC x := by unfold cellsK; rw [List.flatMap_append]; simp
theorem Alike.nil : Alike [] := fun i x h => by simp at h
theorem Alike.snoc {l : List Key} {b r : Nat} {s : Sta} (h : Alike l) (ok : EdOk s) : Alike (l ++ [(b, s, r, s)]) := by
  intro i x hi
  by_cases h1 : i < l.length
  · rw [List.getElem?_append_left h1] at hi
    exact h i x hi
  · rw [List.getElem?_append_right (by omega)] at hi
    have h2 := (List.getElem?_eq_some_iff.1 hi).1
    simp only [List.length_cons, List.length_nil] at h2
    rw [show i - l.length = 0 by omega] at hi
    simp only [List.getElem?_cons_zero, Option.some.injEq] at hi
    exact ⟨b, s, r, hi.symm, ok⟩
theorem Alike.set {l : List Key} {b r i : Nat} {s : Sta} (h : Alike l) (ok : EdOk s) : Alike (l.set i (b, s, r, s)) := by
  intro j x hj
  by_cases hji : i = j
  · subst hji
    have h1 := (List.getElem?_eq_some_iff.1 hj).1
    rw [List.length_set] at h1
    rw [List.getElem?_set_self h1] at hj
    simp only [Option.some.injEq] at hj
    exact ⟨b, s, r, hj.symm, ok⟩
  · rw [List.getElem?_set_ne hji] at hj
    exact h j x hj
/-- a list of pairs whose boxes are these two -/
def TwoK (b0 r0 b1 r1 : Nat) (l : List Key) : Prop := ∃ s0 s1, l = [(b0, s0, r0, s0), (b1, s1, r1, s1)] ∧ EdOk s0 ∧ EdOk s1
theorem Alike.two {l : List Key} (h : Alike l) (hl : l.length = 2) : ∃ b0 r0 b1 r1, TwoK b0 r0 b1 r1 l ∧ cellsK l = [.pointer (some ⟨b0, 0, none⟩), .pointer (some ⟨r0, 0, none⟩), .pointer (some ⟨b1, 0, none⟩), .pointer (some ⟨r1, 0, none⟩)] := by
  match l, hl with
  | [x, y], _ =>
    obtain ⟨b0, s0, r0, rfl, h0⟩ := h 0 x rfl
    obtain ⟨b1, s1, r1, rfl, h1⟩ := h 1 y rfl
    exact ⟨b0, r0, b1, r1, ⟨s0, s1, rfl, h0, h1⟩, rfl⟩
theorem DuoF.below {B : Nat} {q : Option Nat} {l : List Key} {w w' : World} (h : DuoF B q l w) (hb : Below w.heap.size w w') : DuoF B q l w' := by
  obtain ⟨S, es, h, rfl, hf⟩ := h
  exact ⟨S, es, h.below hb, rfl, hf⟩
theorem made_more {B i : Nat} {l : List Key} {b r : Nat} {s t : Sta} {v v8 : Value} {w w8 : World} (hF : DuoF B v.ownBlock (l ++ [(b, s, r, t)]) w) (hB : B ≤ w.heap.size)
    (hown : w8.ownsRow B 31 2 v8 (i + 1) (cellsK l ++ [.pointer (some ⟨b, 0, none⟩), .pointer (some ⟨r, 0, none⟩)])) (hg : w.grownBy w8 v.ownBlock) (hs : run.Step w v i v8 (i + 1)) :
    w8.ownsRow B 31 2 v8 (i + 1) (cellsK (l ++ [(b, s, r, t)])) ∧ DuoF B v8.ownBlock (l ++ [(b, s, r, t)]) w8 := by
  refine ⟨by rw [cellsK_snoc]; exact hown, hF.append hB hg (fun k hk => ?_) (fun k hk => (hown.lt k hk).2)⟩
  rcases hs with ⟨g, cap, rfl, rfl⟩ | h
  · exact .inl hk
  · exact .inr (h k hk)
theorem info_pair : (Tryz.prog.info? 31).map (fun i => (i.zero, i.size, i.bytes)) = some (some (.agg #[.pointer none, .pointer none]), 2, 16) := by kernel_rfl
theorem i64_and1P (n : Int) : bits .and .i64 n 1 = n % 2 := by
  have h1 : (BitVec.ofInt 64 1).toNat = 2 ^ 1 - 1 := by decide
  have key : (BitVec.ofInt 64 n &&& BitVec.ofInt 64 1).toNat = (n % ((2 ^ 64 : Nat) : Int)).toNat % 2 ^ 1 := by
    rw [BitVec.toNat_and, BitVec.toNat_ofInt, h1, Nat.and_two_pow_sub_one_eq_mod]
  show IntKind.i64.wrap ((BitVec.ofInt 64 n &&& BitVec.ofInt 64 1).toNat : Nat) = n % 2
  rw [key, IntKind.wrap_i64]
  omega
theorem two_step0 {S0 : Nat → Prop} {w0 w : World} {B b0 r0 b1 r1 : Nat} {l : List Key} (h : TwoK b0 r0 b1 r1 l) (hD : Du S0 w0 B l w) (hB : B ≤ w.heap.size) (q : SV) (hq : q.t.size ≤ 1048576) :
    Calls Tryz.prog 7 #[pairV b0 r0, stepV q.d q.who q.n q.m q.t] w fun e w' => e = .returned (.bool true) ∧ ∃ l', TwoK b0 r0 b1 r1 l' ∧ Du S0 w0 B l' w' := by
  obtain ⟨s0, s1, rfl, h0, h1⟩ := h
  exact (pstep_any (i := 0) hD hB rfl h0 q.d q.who q.n q.m q.t hq).mono fun e w' hh => ⟨hh.1, _, ⟨_, _, rfl, ok_st h0 _ _ _ _, h1⟩, hh.2⟩
theorem two_step1 {S0 : Nat → Prop} {w0 w : World} {B b0 r0 b1 r1 : Nat} {l : List Key} (h : TwoK b0 r0 b1 r1 l) (hD : Du S0 w0 B l w) (hB : B ≤ w.heap.size) (q : SV) (hq : q.t.size ≤ 1048576) :
    Calls Tryz.prog 7 #[pairV b1 r1, stepV q.d q.who q.n q.m q.t] w fun e w' => e = .returned (.bool true) ∧ ∃ l', TwoK b0 r0 b1 r1 l' ∧ Du S0 w0 B l' w' := by
  obtain ⟨s0, s1, rfl, h0, h1⟩ := h
  exact (pstep_any (i := 1) hD hB rfl h1 q.d q.who q.n q.m q.t hq).mono fun e w' hh => ⟨hh.1, _, ⟨_, _, rfl, h0, ok_st h1 _ _ _ _⟩, hh.2⟩
theorem two_looks0 {S0 : Nat → Prop} {w0 w : World} {B b0 r0 b1 r1 : Nat} {l : List Key} (h : TwoK b0 r0 b1 r1 l) (hD : Du S0 w0 B l w) (hB : B ≤ w.heap.size) :
    Calls Tryz.prog 8 #[pairV b0 r0] w fun e w' => e = .returned (.bool true) ∧ Du S0 w0 B l w' := by
  obtain ⟨s0, s1, rfl, h0, h1⟩ := h
  exact looks_any (i := 0) hD hB rfl h0
theorem two_looks1 {S0 : Nat → Prop} {w0 w : World} {B b0 r0 b1 r1 : Nat} {l : List Key} (h : TwoK b0 r0 b1 r1 l) (hD : Du S0 w0 B l w) (hB : B ≤ w.heap.size) :
    Calls Tryz.prog 8 #[pairV b1 r1] w fun e w' => e = .returned (.bool true) ∧ Du S0 w0 B l w' := by
  obtain ⟨s0, s1, rfl, h0, h1⟩ := h
  exact looks_any (i := 1) hD hB rfl h1
/-- what stands by when the script is played -/
structure Stand (S0 : Nat → Prop) (w0 : World) (B g b0 r0 b1 r1 : Nat) (a : Option Addr) (SL : List SV) (w : World) : Prop where
  k0 : w.cell? ⟨g, 0, none⟩ = some (.pointer (some ⟨b0, 0, none⟩))
  k1 : w.cell? ⟨g, 1, none⟩ = some (.pointer (some ⟨r0, 0, none⟩))
  k2 : w.cell? ⟨g, 2, none⟩ = some (.pointer (some ⟨b1, 0, none⟩))
  k3 : w.cell? ⟨g, 3, none⟩ = some (.pointer (some ⟨r1, 0, none⟩))
  sc : ∀ i, i < SL.length → ∃ b off, a = some ⟨b, off, none⟩ ∧ Cell5 w b (off + i * 5) (SL.getD i sv0) ∧ (SL.getD i sv0).t.size ≤ 1048576
theorem Cell5.via {w w' : World} {b o : Nat} {q : SV} (h : Cell5 w b o q) (hc : ∀ k v, w.cell? ⟨b, k, none⟩ = some v → w'.cell? ⟨b, k, none⟩ = some v) : Cell5 w' b o q := by
  obtain ⟨h0, h1, h2, h3, h4⟩ := h
  exact ⟨hc _ _ h0, hc _ _ h1, hc _ _ h2, hc _ _ h3, hc _ _ h4⟩
theorem Stand.du {S0 : Nat → Prop} {w0 w : World} {B g b0 r0 b1 r1 : Nat} {a : Option Addr} {SL : List SV} {l : List Key} (h : Stand S0 w0 B g b0 r0 b1 r1 a SL w0) (hg : ¬ S0 g) (hs : ∀ i, i < SL.length → ∀ b off, a = some ⟨b, off, none⟩ → ¬ S0 b) (hD : Du S0 w0 B l w) : Stand S0 w0 B g b0 r0 b1 r1 a SL w :=
  ⟨hD.cell h.k0 hg, hD.cell h.k1 hg, hD.cell h.k2 hg, hD.cell h.k3 hg, fun i hi => by
    obtain ⟨b, off, e, hc, ht⟩ := h.sc i hi
    exact ⟨b, off, e, hc.via (fun k v hv => hD.cell hv (hs i hi b off e)), ht⟩⟩
set_option maxRecDepth 100000 in
set_option maxHeartbeats 8000000 in
theorem lawPlays_any (s0 s1 : ByteArray) (a : Option Addr) (SL : List SV) (c : Nat) (w : World) (hz0 : s0.size ≤ 1048576) (hz1 : s1.size ≤ 1048576) (hS : ScriptIn w a SL) (hSL : SL.length ≤ 1048576) :
    Calls Tryz.prog 3 #[.agg #[.string s0, .string s1], .slice a SL.length c] w fun e w' => e = .returned (.bool true) ∧ Below w.heap.size w w' := by
  obtain ⟨it, hi0, hi1, hi2, hi3⟩ := info_parts info_pair
  have hb1 := run.below_one w (.cells #[.string s0, .string s1] 22)
  have hsz1 : (w.alloc (.cells #[.string s0, .string s1] 22)).heap.size = w.heap.size + 1 := by simp
  have k0 : (w.alloc (.cells #[.string s0, .string s1] 22)).cell? ⟨w.heap.size, 0, none⟩ = some (.string s0) := World.cell?_alloc_at _ _ _ _ rfl
  have k1 : (w.alloc (.cells #[.string s0, .string s1] 22)).cell? ⟨w.heap.size, 1, none⟩ = some (.string s1) := World.cell?_alloc_at _ _ _ _ rfl
  have HTY := run.hid (typed_any (cap := c) (hS.below hb1) hSL)
  have HSC := run.hid (hS.below hb1)
  have HALV := run.hid alive_any
  obtain ⟨N, hN⟩ : ∃ N, N = SL.length := ⟨_, rfl⟩
  rw [← hN] at hSL HTY ⊢
  have HN := run.hid hN
  clear hN hS
  generalize hn : w.heap.size = n at *
  go_enter Tryz.func3, Tryz.ntmps3
  go_upto_region 1 with fail
  generalize w.alloc (.cells #[.string s0, .string s1] 22) = w1 at *
  have HB0 := run.hid hb1
  clear hb1
  go_wp2_with fail
  refine HTY.out.mono ?_
  rintro e w2 ⟨⟨t, rfl⟩, hb2⟩
  have hs2 := hb2.size
  have HB2 : Hid (Below n w w2) := HB0.out.trans (hb2.mono (by omega))
  have HTX : Hid (∀ w', Below w2.heap.size w2 w' → w'.cell? ⟨n, 0, none⟩ = some (.string s0) ∧ w'.cell? ⟨n, 1, none⟩ = some (.string s1)) := by
    intro w' hb
    have hb3 := (hb2.trans (hb.mono hb2.size))
    exact ⟨(hb3.cell (p := ⟨n, 0, none⟩) (by simp; omega)).trans k0, (hb3.cell (p := ⟨n, 1, none⟩) (by simp; omega)).trans k1⟩
  have HSC2 := run.hid (HSC.out.below hb2)
  clear HTY HSC k0 k1 hb2 HB0
  cases t
  case true =>
    clear HTX HSC2 HALV
    go_wp2
    go_ret
    exact ⟨rfl, HB2.out⟩
  have HF0 := run.hid (DuoF.nil w2)
  have HO0 := run.hid (World.ownsRow_nil w2 w2.heap.size 31 2)
  have HB20 : Hid (Below w2.heap.size w2 w2) := Below.refl _ _
  generalize hB : w2.heap.size = B at *
  go_wp2
  go_loopw [5, 6, 7] (fun vl vi ve wr => ∃ (i : Nat) (l : List Key), i ≤ 2 ∧ vi = .int .i64 i ∧ l.length = i ∧ Hid (Alike l) ∧ Hid (wr.ownsRow B 31 2 vl i (cellsK l)) ∧ Hid (DuoF B vl.ownBlock l wr) ∧ Hid (Below B w2 wr)) (fun _ vi _ _ => (2 - intOf vi).toNat)
  case atStart => exact ⟨0, [], by omega, rfl, rfl, Alike.nil, HO0, HF0, HB20⟩
  case round =>
    clear HF0 HO0 HB20
    obtain ⟨i, l, hi, rfl, hll, HA, HO, HF, HBr⟩ := hrel
    have hBr : B ≤ wr.heap.size := by have := HBr.out.size; omega
    obtain ⟨la, lc, rfl⟩ := run.own_value HO.out
    rcases (show i = 0 ∨ i = 1 ∨ i = 2 by omega) with rfl | rfl | rfl
    · have hti := HTX.out _ HBr.out
      obtain ⟨htx0, htx1⟩ := hti
      go_wp2_with fail
      refine (HF.out.new hBr s0 (by omega)).mono ?_
      rintro e w4 ⟨b, rfl, hH4, hb4⟩
      have HB4 : Hid (Below B w2 w4) := HBr.out.trans (hb4.mono hBr)
      have hs4 := hb4.size
      have HH4 := run.hid hH4
      have HO4 := run.hid (run.own_below HO.out hb4)
      have hti := HTX.out _ HB4.out
      obtain ⟨htx2, htx3⟩ := hti
      clear htx0 htx1 hH4 hb4 HBr HF HO
      go_wp2_with fail
      refine (HH4.out.more (by omega) s0 (by omega)).mono ?_
      rintro e w5 ⟨r, rfl, hF5, hb5⟩
      have HB5 : Hid (Below B w2 w5) := HB4.out.trans (hb5.mono (by omega))
      have hs5 := hb5.size
      have HF5 := run.hid hF5
      have HO5 := run.hid (run.own_below HO4.out hb5)
      clear htx2 htx3 hF5 hb5 HB4 HH4 HO4
      go_wp2_with (at_builtin; refine run.wpList_append_any _ rfl _ _ 25 rfl B 31 it (.agg #[.pointer none, .pointer none]) 2 16 Tryz.underlying25 hi0 hi1 hi2 hi3 rfl (by decide) _ _ _ rfl (HO5.out.alloc _) _ 1 [.pointer (some ⟨b, 0, none⟩), .pointer (some ⟨r, 0, none⟩)] rfl (run.readsN_new w5 [.pointer (some ⟨b, 0, none⟩), .pointer (some ⟨r, 0, none⟩)] 1 2 _ rfl) (by intro u hu; simp only [List.mem_cons, List.not_mem_nil, or_false] at hu; rcases hu with rfl | rfl <;> rfl) (by unfold maxLen; omega) (by omega) (by simp; omega) ?_)
      intro v8 w8 hown8 hgrow _ hst
      have hbp := run.below_one w5 (.cells #[.pointer (some ⟨b, 0, none⟩), .pointer (some ⟨r, 0, none⟩)] 31)
      obtain ⟨hown9, hF9⟩ := made_more (HF5.out.below hbp) (by simp; omega) hown8 hgrow hst
      have HB9 : Hid (Below B w2 w8) := run.below_append (HB5.out.alloc (by omega) _) (HO5.out.alloc (.cells #[.pointer (some ⟨b, 0, none⟩), .pointer (some ⟨r, 0, none⟩)] 31)) hgrow (by simp; omega)
      have HO9 := run.hid hown9
      have HF9 := run.hid hF9
      have HA9 := run.hid (HA.out.snoc (b := b) (r := r) (ok_new s0))
      clear hown8 hgrow hst hbp hown9 hF9 HB5 HO5 HF5 HA
      go_wp2
      go_roundw
      case rel => exact ⟨0 + 1, _, by omega, by go_num, by simp [hll], HA9, HO9, HF9, HB9⟩
      case measure => simp [intOf]
    · have hti := HTX.out _ HBr.out
      obtain ⟨htx0, htx1⟩ := hti
      go_wp2_with fail
      refine (HF.out.new hBr s1 (by omega)).mono ?_
      rintro e w4 ⟨b, rfl, hH4, hb4⟩
      have HB4 : Hid (Below B w2 w4) := HBr.out.trans (hb4.mono hBr)
      have hs4 := hb4.size
      have HH4 := run.hid hH4
      have HO4 := run.hid (run.own_below HO.out hb4)
      have hti := HTX.out _ HB4.out
      obtain ⟨htx2, htx3⟩ := hti
      clear htx0 htx1 hH4 hb4 HBr HF HO
      go_wp2_with fail
      refine (HH4.out.more (by omega) s1 (by omega)).mono ?_
      rintro e w5 ⟨r, rfl, hF5, hb5⟩
      have HB5 : Hid (Below B w2 w5) := HB4.out.trans (hb5.mono (by omega))
      have hs5 := hb5.size
      have HF5 := run.hid hF5
      have HO5 := run.hid (run.own_below HO4.out hb5)
      clear htx2 htx3 hF5 hb5 HB4 HH4 HO4
      go_wp2_with (at_builtin; refine run.wpList_append_any _ rfl _ _ 25 rfl B 31 it (.agg #[.pointer none, .pointer none]) 2 16 Tryz.underlying25 hi0 hi1 hi2 hi3 rfl (by decide) _ _ _ rfl (HO5.out.alloc _) _ 1 [.pointer (some ⟨b, 0, none⟩), .pointer (some ⟨r, 0, none⟩)] rfl (run.readsN_new w5 [.pointer (some ⟨b, 0, none⟩), .pointer (some ⟨r, 0, none⟩)] 1 2 _ rfl) (by intro u hu; simp only [List.mem_cons, List.not_mem_nil, or_false] at hu; rcases hu with rfl | rfl <;> rfl) (by unfold maxLen; omega) (by omega) (by simp; omega) ?_)
      intro v8 w8 hown8 hgrow _ hst
      have hbp := run.below_one w5 (.cells #[.pointer (some ⟨b, 0, none⟩), .pointer (some ⟨r, 0, none⟩)] 31)
      obtain ⟨hown9, hF9⟩ := made_more (HF5.out.below hbp) (by simp; omega) hown8 hgrow hst
      have HB9 : Hid (Below B w2 w8) := run.below_append (HB5.out.alloc (by omega) _) (HO5.out.alloc (.cells #[.pointer (some ⟨b, 0, none⟩), .pointer (some ⟨r, 0, none⟩)] 31)) hgrow (by simp; omega)
      have HO9 := run.hid hown9
      have HF9 := run.hid hF9
      have HA9 := run.hid (HA.out.snoc (b := b) (r := r) (ok_new s1))
      clear hown8 hgrow hst hbp hown9 hF9 HB5 HO5 HF5 HA
      go_wp2
      go_roundw
      case rel => exact ⟨1 + 1, _, by omega, by go_num, by simp [hll], HA9, HO9, HF9, HB9⟩
      case measure => simp [intOf]
    · obtain ⟨g, cap, e1⟩ := own_some2 HO.out (by omega)
      simp only [Value.slice.injEq, true_and] at e1
      obtain ⟨rfl, rfl⟩ := e1
      obtain ⟨b0, r0, b1, r1, hT, hcl⟩ := HA.out.two hll
      have hO := HO.out
      rw [hcl] at hO
      have k0 := (hO.cellAt 0 (by omega)).trans rfl
      have k1 := (hO.cellAt 1 (by omega)).trans rfl
      have k2 := (hO.cellAt 2 (by omega)).trans rfl
      have k3 := (hO.cellAt 3 (by omega)).trans rfl
      obtain ⟨S0, hS0, hnq, hdu⟩ := HF.out.du
      have HST : Hid (∀ (l : List Key) w', Du S0 wr B l w' → Stand S0 wr B g b0 r0 b1 r1 a SL w') := by
        intro l' w' hd
        have hsc := HSC2.out.below (by rw [hB]; exact HBr.out)
        refine Stand.du (w0 := wr) ⟨k0, k1, k2, k3, fun i hi => ?_⟩ (hnq g rfl) (fun i hi b off e hs => ?_) hd
        · obtain ⟨b, off, e, -, hc, ht⟩ := hsc i hi
          exact ⟨b, off, e, hc, ht⟩
        · obtain ⟨b2, off2, e2, hlt, -⟩ := HSC2.out i hi
          rw [e] at e2
          simp only [Option.some.injEq, Addr.mk.injEq, and_true] at e2
          obtain ⟨rfl, rfl⟩ := e2
          have := (hS0 _ hs).2
          omega
      have HD0 := run.hid (hdu wr (Below.refl _ _))
      have HFIN : Hid (∀ (l : List Key) w4 w5, Du S0 wr B l w4 → Below w4.heap.size w4 w5 → Below n w w5) := by
        intro l4 w4 w5 hd hb5
        have h1 := hd.belowB (fun k hk => (hS0 k hk).2) hBr
        have h2 := h1.size
        exact (HB2.out.trans ((HBr.out.trans h1).mono (by omega))).trans (hb5.mono (by omega))
      have HSZ : Hid (∀ (l : List Key) w', Du S0 wr B l w' → B ≤ w'.heap.size) := fun l w' hd => Nat.le_trans hBr hd.kept.size
      have HT0 := run.hid hT
      clear HO HF HA HBr HTX HSC2 HB2 hO k0 k1 k2 k3 hS0 hnq hdu hT hcl hll
      generalize wr = w3 at *
      rw [show ((2 : Nat) : Int) = 2 from rfl]
      go_wp2
      go_loopw [8, 9] (fun vi vk wr => ∃ (i : Nat) (l' : List Key), i ≤ N ∧ vi = .int .i64 i ∧ Hid (TwoK b0 r0 b1 r1 l') ∧ Hid (Du S0 w3 B l' wr)) (fun vi _ _ => (N - intOf vi).toNat)
      case atStart => exact ⟨0, l, by omega, rfl, HT0, HD0⟩
      case round =>
        clear HT0 HD0
        obtain ⟨i, l', hi, rfl, HT, HD⟩ := hrel
        have hBr := HSZ.out _ _ HD.out
        have hstd := HST.out _ _ HD.out
        have k0 := hstd.k0
        have k1 := hstd.k1
        have k2 := hstd.k2
        have k3 := hstd.k3
        have HSCi := run.hid hstd.sc
        clear hstd
        by_cases hil : i < N
        · obtain ⟨bd, od, rfl, ⟨x0, x1, x2, x3, x4⟩, hst⟩ := HSCi.out i (by rw [← HN.out]; exact hil)
          obtain ⟨q, hq⟩ : ∃ q, SL.getD i sv0 = q := ⟨_, rfl⟩
          have HQ := run.hid hq
          rw [hq] at x0 x1 x2 x3 x4 hst
          clear hq
          obtain ⟨sd, sw, sn, sm, st⟩ := q
          dsimp only at x0 x1 x2 x3 x4 hst
          have hm : bits .and .i64 sw 1 = 0 ∨ bits .and .i64 sw 1 = 1 := by rw [i64_and1P]; omega
          have hz0' : (0 : Int) ≤ (i : Int) := by omega
          rcases hm with hm | hm
          · have HP := run.hid (two_step0 HT.out (HD.out.below ((Below.refl _ _).drew)) (w := wr.drew) hBr ⟨sd, sw, sn, sm, st⟩ hst)
            dsimp only at HP
            have HKM : Hid (∀ (l : List Key) w', Du S0 w3 B l w' → w'.cell? ⟨g, 0, none⟩ = some (.pointer (some ⟨b0, 0, none⟩)) ∧ w'.cell? ⟨g, 1, none⟩ = some (.pointer (some ⟨r0, 0, none⟩)) ∧ w'.cell? ⟨bd, od + i * 5, none⟩ = some (.int .i64 sd) ∧ w'.cell? ⟨bd, od + i * 5 + 1, none⟩ = some (.int .i64 sw) ∧ w'.cell? ⟨bd, od + i * 5 + 2, none⟩ = some (.int .i64 sn) ∧ w'.cell? ⟨bd, od + i * 5 + 3, none⟩ = some (.bool sm) ∧ w'.cell? ⟨bd, od + i * 5 + 4, none⟩ = some (.string st)) := by
              intro l w' hd
              have h := HST.out _ _ hd
              obtain ⟨bd2, od2, e2, hc2, -⟩ := h.sc i (by rw [← HN.out]; exact hil)
              simp only [Option.some.injEq, Addr.mk.injEq, and_true] at e2
              obtain ⟨rfl, rfl⟩ := e2
              rw [HQ.out] at hc2
              exact ⟨h.k0, h.k1, hc2⟩
            have HK0 : Hid (∀ w', w' = wr.drew → w'.cell? ⟨g, 0, none⟩ = some (.pointer (some ⟨b0, 0, none⟩)) ∧ w'.cell? ⟨g, 1, none⟩ = some (.pointer (some ⟨r0, 0, none⟩)) ∧ w'.cell? ⟨bd, od + i * 5, none⟩ = some (.int .i64 sd) ∧ w'.cell? ⟨bd, od + i * 5 + 1, none⟩ = some (.int .i64 sw) ∧ w'.cell? ⟨bd, od + i * 5 + 2, none⟩ = some (.int .i64 sn) ∧ w'.cell? ⟨bd, od + i * 5 + 3, none⟩ = some (.bool sm) ∧ w'.cell? ⟨bd, od + i * 5 + 4, none⟩ = some (.string st)) := by
              rintro w' rfl
              exact HKM.out _ _ (HD.out.below ((Below.refl _ _).drew))
            clear HSCi x0 x1 x2 x3 x4 k0 k1 k2 k3
            obtain ⟨c0, c1, x0, x1, x2, x3, x4⟩ := HKM.out _ _ HD.out
            go_upto_region 14 with fail
            go_region_held3 (fun w' => w'.cell? ⟨g, 0, none⟩ = some (.pointer (some ⟨b0, 0, none⟩)) ∧ w'.cell? ⟨g, 1, none⟩ = some (.pointer (some ⟨r0, 0, none⟩)) ∧ w'.cell? ⟨bd, od + i * 5, none⟩ = some (.int .i64 sd) ∧ w'.cell? ⟨bd, od + i * 5 + 1, none⟩ = some (.int .i64 sw) ∧ w'.cell? ⟨bd, od + i * 5 + 2, none⟩ = some (.int .i64 sn) ∧ w'.cell? ⟨bd, od + i * 5 + 3, none⟩ = some (.bool sm) ∧ w'.cell? ⟨bd, od + i * 5 + 4, none⟩ = some (.string st))
              (first
                | assumption
                | exact HK0.out _ rfl
                | exact HKM.out _ _ hD9
                | go_keep
                | (trace_state; fail))
              (first
                | (go_at_call 7; refine HP.out.mono ?_; rintro e w9 ⟨rfl, l9, hT9, hD9⟩))
            all_goals
              have HT9 := run.hid hT9
              have HD9 := run.hid hD9
              clear hT9 hD9 HP HKM HK0 HT HD x0 x1 x2 x3 x4 c0 c1
              go_wp2
              go_roundw
              case rel => exact ⟨i + 1, l9, by omega, by go_num, HT9, HD9⟩
              case measure => simp [intOf]; omega
          · have HP := run.hid (two_step1 HT.out (HD.out.below ((Below.refl _ _).drew)) (w := wr.drew) hBr ⟨sd, sw, sn, sm, st⟩ hst)
            dsimp only at HP
            have HKM : Hid (∀ (l : List Key) w', Du S0 w3 B l w' → w'.cell? ⟨g, 2, none⟩ = some (.pointer (some ⟨b1, 0, none⟩)) ∧ w'.cell? ⟨g, 3, none⟩ = some (.pointer (some ⟨r1, 0, none⟩)) ∧ w'.cell? ⟨bd, od + i * 5, none⟩ = some (.int .i64 sd) ∧ w'.cell? ⟨bd, od + i * 5 + 1, none⟩ = some (.int .i64 sw) ∧ w'.cell? ⟨bd, od + i * 5 + 2, none⟩ = some (.int .i64 sn) ∧ w'.cell? ⟨bd, od + i * 5 + 3, none⟩ = some (.bool sm) ∧ w'.cell? ⟨bd, od + i * 5 + 4, none⟩ = some (.string st)) := by
              intro l w' hd
              have h := HST.out _ _ hd
              obtain ⟨bd2, od2, e2, hc2, -⟩ := h.sc i (by rw [← HN.out]; exact hil)
              simp only [Option.some.injEq, Addr.mk.injEq, and_true] at e2
              obtain ⟨rfl, rfl⟩ := e2
              rw [HQ.out] at hc2
              exact ⟨h.k2, h.k3, hc2⟩
            have HK0 : Hid (∀ w', w' = wr.drew → w'.cell? ⟨g, 2, none⟩ = some (.pointer (some ⟨b1, 0, none⟩)) ∧ w'.cell? ⟨g, 3, none⟩ = some (.pointer (some ⟨r1, 0, none⟩)) ∧ w'.cell? ⟨bd, od + i * 5, none⟩ = some (.int .i64 sd) ∧ w'.cell? ⟨bd, od + i * 5 + 1, none⟩ = some (.int .i64 sw) ∧ w'.cell? ⟨bd, od + i * 5 + 2, none⟩ = some (.int .i64 sn) ∧ w'.cell? ⟨bd, od + i * 5 + 3, none⟩ = some (.bool sm) ∧ w'.cell? ⟨bd, od + i * 5 + 4, none⟩ = some (.string st)) := by
              rintro w' rfl
              exact HKM.out _ _ (HD.out.below ((Below.refl _ _).drew))
            clear HSCi x0 x1 x2 x3 x4 k0 k1 k2 k3
            obtain ⟨c0, c1, x0, x1, x2, x3, x4⟩ := HKM.out _ _ HD.out
            go_upto_region 14 with fail
            go_region_held3 (fun w' => w'.cell? ⟨g, 2, none⟩ = some (.pointer (some ⟨b1, 0, none⟩)) ∧ w'.cell? ⟨g, 3, none⟩ = some (.pointer (some ⟨r1, 0, none⟩)) ∧ w'.cell? ⟨bd, od + i * 5, none⟩ = some (.int .i64 sd) ∧ w'.cell? ⟨bd, od + i * 5 + 1, none⟩ = some (.int .i64 sw) ∧ w'.cell? ⟨bd, od + i * 5 + 2, none⟩ = some (.int .i64 sn) ∧ w'.cell? ⟨bd, od + i * 5 + 3, none⟩ = some (.bool sm) ∧ w'.cell? ⟨bd, od + i * 5 + 4, none⟩ = some (.string st))
              (first
                | assumption
                | exact HK0.out _ rfl
                | exact HKM.out _ _ hD9
                | go_keep
                | (trace_state; fail))
              (first
                | (go_at_call 7; refine HP.out.mono ?_; rintro e w9 ⟨rfl, l9, hT9, hD9⟩))
            all_goals
              have HT9 := run.hid hT9
              have HD9 := run.hid hD9
              clear hT9 hD9 HP HKM HK0 HT HD x0 x1 x2 x3 x4 c0 c1
              go_wp2
              go_roundw
              case rel => exact ⟨i + 1, l9, by omega, by go_num, HT9, HD9⟩
              case measure => simp [intOf]; omega
        · obtain rfl : i = N := by omega
          clear HSCi
          go_wp2_with fail
          refine (two_looks0 HT.out HD.out hBr).mono ?_
          rintro e w4 ⟨rfl, hD4⟩
          have hBr4 := HSZ.out _ _ hD4
          have hstd := HST.out _ _ hD4
          clear k0 k1 k2 k3
          have k2 := hstd.k2
          have k3 := hstd.k3
          have HD4 := run.hid hD4
          clear hstd hD4 HD
          go_wp2_with fail
          refine (two_looks1 HT.out HD4.out hBr4).mono ?_
          rintro e w5 ⟨rfl, hD5⟩
          have HD5 := run.hid hD5
          clear hD5 HD4 k2 k3
          go_wp2_with fail
          refine (HALV.out _).mono ?_
          rintro e w6 ⟨rfl, hb6⟩
          have HE := run.hid (HFIN.out _ _ _ HD5.out hb6)
          clear hb6 HD5 HT HST HFIN
          go_wp2
          go_ret
          exact ⟨rfl, HE.out⟩
end Go.Proofs.YtbhhfagifdjmmaaGreat.ed
