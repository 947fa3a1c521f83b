/-
  Several editors beside each other.
-/
import Derived.Test.YtgfjaegjkklcpaaEdD
namespace Go.Proofs.Ytgfjaegjkklcpaa.ed
open Go Go.RowKit Go.Proofs
set_option linter.unusedVariables false
/-- an editor: its blocks, and as it stands -/
structure En where
  b : Nat
  g : Nat
  lb : Nat
  s : Sta
structure EdsIn (S : Nat → Prop) (B : Nat) (es : List En) (w : World) : Prop where
  ed : ∀ (i : Nat) (e : En), es[i]? = some e → EdS S e.b e.g e.lb e.s w
  far : ∀ (i j : Nat) (e f : En), es[i]? = some e → es[j]? = some f → i ≠ j → ∀ k, Own e.b e.g e.lb k → ¬ Own f.b f.g f.lb k
  lt : ∀ k, S k → k < w.heap.size ∧ B ≤ k
/-- editors, by their boxes and as they stand -/
def Eds (B : Nat) (l : List (Nat × Sta)) (w : World) : Prop := ∃ S es, EdsIn S B es w ∧ l = es.map fun e => (e.b, e.s)
theorem Eds.below {B : Nat} {l : List (Nat × Sta)} {w w' : World} (h : Eds B l w) (hb : Below w.heap.size w w') : Eds B l w' := by
  obtain ⟨S, es, h, rfl⟩ := h
  exact ⟨S, es, ⟨fun i e he => EdS.below (h.ed i e he) hb, h.far, fun k hk => by have := h.lt k hk; have := hb.size; omega⟩, rfl⟩
theorem Eds.nil (w : World) : Eds w.heap.size [] w := ⟨fun _ => False, [], ⟨fun i e h => by simp at h, fun i j e f h => by simp at h, fun k h => h.elim⟩, rfl⟩
/-- one more -/
theorem Eds.more {B : Nat} {l : List (Nat × Sta)} {w : World} (h : Eds B l w) (hB : B ≤ w.heap.size) (t : ByteArray) (ht : t.size ≤ 68719476736) :
    Calls Try.prog 9 #[.string t] w fun e w' => ∃ b, e = .returned (.pointer (some ⟨b, 0, none⟩)) ∧ Eds B (l ++ [(b, newE t)]) w' ∧ Below w.heap.size w w' := by
  obtain ⟨S, es, h, rfl⟩ := h
  have hlen : (newT t).length ≤ 65536 := (held_new t).len
  have HN := new_any t w ht
  unfold NewIs at HN
  have he : newE t = ⟨newT t, (newT t).length, -1, [], 0⟩ := rfl
  rw [he]
  clear he
  generalize newT t = F at *
  refine HN.mono ?_
  rintro e w' ⟨b, g, lb, cap, A, rfl, hbx, hG, hc, hg, hl, hgb, hlb, hbel⟩
  have hblt := (Array.getElem?_eq_some_iff.1 hbx).1
  have hsz := hbel.size
  refine ⟨b, rfl, ⟨fun k => S k ∨ Own b g lb k, es ++ [⟨b, g, lb, ⟨F, F.length, -1, [], 0⟩⟩], ⟨fun i e hi => ?_, fun i j e f hi hj hne k hk => ?_, fun k hk => ?_⟩, by rw [List.map_append]; rfl⟩, hbel⟩
  · rcases Nat.lt_or_ge i es.length with h1 | h1
    · rw [List.getElem?_append_left h1] at hi
      refine (h.ed i e hi).kept (Kept.of_below (S := fun _ => False) hbel) (fun _ h => h.elim) (fun k hk => ?_) (fun _ h => .inl h)
      rcases hk with hk | hk
      · exact .inl hk
      · right
        rcases hk with rfl | rfl | rfl <;> omega
    · rw [List.getElem?_append_right h1] at hi
      have h0 : i - es.length = 0 := by
        have := (List.getElem?_eq_some_iff.1 hi).1
        simpa using this
      rw [h0] at hi
      simp only [List.getElem?_cons_zero, Option.some.injEq] at hi
      subst hi
      refine ⟨⟨.slice none 0 0, ⟨hbx, ⟨_, _, _, _, A, hG, hc, by omega, ?_⟩, Nat.ne_of_gt hgb, Nat.ne_of_gt hlb⟩, ⟨none, 0, rfl, Nat.le_refl _, .inl ⟨rfl, rfl⟩⟩⟩, .inr (.inl rfl), .inr (.inr (.inl rfl)), .inr (.inr (.inr rfl))⟩
      show F.length + (F.length - F.length) = F.length
      omega
  · have hold : ∀ (i : Nat) (e : En), i < es.length → (es ++ [(⟨b, g, lb, ⟨F, F.length, -1, [], 0⟩⟩ : En)])[i]? = some e → es[i]? = some e := fun i e h1 h2 => by rw [List.getElem?_append_left h1] at h2; exact h2
    have hnew : ∀ (i : Nat) (e : En), ¬ i < es.length → (es ++ [(⟨b, g, lb, ⟨F, F.length, -1, [], 0⟩⟩ : En)])[i]? = some e → i = es.length ∧ e = ⟨b, g, lb, ⟨F, F.length, -1, [], 0⟩⟩ := fun i e h1 h2 => by
      have h3 := (List.getElem?_eq_some_iff.1 h2).1
      rw [List.length_append] at h3
      simp only [List.length_cons, List.length_nil] at h3
      have h4 : i = es.length := by omega
      subst h4
      rw [List.getElem?_append_right (Nat.le_refl _), Nat.sub_self] at h2
      simp only [List.getElem?_cons_zero, Option.some.injEq] at h2
      exact ⟨rfl, h2.symm⟩
    by_cases h1 : i < es.length
    · have hei := hold i e h1 hi
      by_cases h2 : j < es.length
      · exact h.far i j e f hei (hold j f h2 hj) hne k hk
      · obtain ⟨-, rfl⟩ := hnew j f h2 hj
        have := (h.lt k ((h.ed i e hei).own k hk)).1
        rintro (rfl | rfl | rfl) <;> omega
    · obtain ⟨h3, rfl⟩ := hnew i e h1 hi
      by_cases h2 : j < es.length
      · have hfj := hold j f h2 hj
        intro hk2
        have := (h.lt k ((h.ed j f hfj).own k hk2)).1
        rcases hk with rfl | rfl | rfl <;> omega
      · obtain ⟨h4, -⟩ := hnew j f h2 hj
        omega
  · rcases hk with hk | hk
    · have := h.lt k hk; omega
    · rcases hk with rfl | rfl | rfl <;> omega
/-- one of them is turned -/
theorem EdsIn.after {S : Nat → Prop} {B : Nat} {es : List En} {w w' : World} (h : EdsIn S B es w) (hB : B ≤ w.heap.size) {i : Nat} {e : En} (hi : es[i]? = some e) {s' : Sta} (ha : After S e.b e.g e.lb s' w w') :
    Eds B ((es.map fun e => (e.b, e.s)).set i (e.b, s')) w' ∧ Below B w w' := by
  obtain ⟨lb', hE, hlb, hk⟩ := ha
  have hsz := hk.size
  have hlt : lb' < w'.heap.size := by
    obtain ⟨sv, hEd, -⟩ := hE.ed
    obtain ⟨n, cap, f, u, A, hG, -⟩ := hEd.gap
    exact (Array.getElem?_eq_some_iff.1 hG.hl).1
  have hil := (List.getElem?_eq_some_iff.1 hi).1
  have hSe := h.ed i e hi
  have hset : ∀ (j : Nat) (f : En), (es.set i ⟨e.b, e.g, lb', s'⟩)[j]? = some f → (j = i ∧ f = ⟨e.b, e.g, lb', s'⟩) ∨ (j ≠ i ∧ es[j]? = some f) := by
    intro j f hj
    by_cases hji : j = i
    · subst hji
      rw [List.getElem?_set_self hil] at hj
      simp only [Option.some.injEq] at hj
      exact .inl ⟨rfl, hj.symm⟩
    · rw [List.getElem?_set_ne (Ne.symm hji)] at hj
      exact .inr ⟨hji, hj⟩
  have hlbf : ∀ (j : Nat) (f : En), j ≠ i → es[j]? = some f → ¬ Own f.b f.g f.lb lb' := by
    intro j f hji hj ho
    rcases hlb with h1 | h1
    · rw [h1] at ho
      exact h.far i j e f hi hj (Ne.symm hji) _ (.inr (.inr rfl)) ho
    · have := (h.lt _ ((h.ed j f hj).own _ ho)).1
      omega
  refine ⟨⟨fun x => S x ∨ x = lb', es.set i ⟨e.b, e.g, lb', s'⟩, ⟨fun j f hj => ?_, fun j j' f f' hj hj' hne k hk1 hk2 => ?_, fun k hk' => ?_⟩, by rw [List.map_set]⟩, hk.below hB (fun k _ ho => (h.lt k (hSe.own k ho)).2)⟩
  · rcases hset j f hj with ⟨-, rfl⟩ | ⟨hji, hj2⟩
    · exact hE
    · refine (h.ed j f hj2).kept hk (fun k ho => ⟨hSe.own k ho, h.far i j e f hi hj2 (Ne.symm hji) k ho⟩) (fun k hk2 => ?_) (fun _ h => .inl h)
      rcases hk2 with hk2 | rfl
      · exact .inl hk2
      · rcases hlb with h1 | h1
        · exact .inl (h1 ▸ hSe.sl)
        · exact .inr h1
  · rcases hset j f hj with ⟨h1, rfl⟩ | ⟨h1, h2⟩
    · rcases hset j' f' hj' with ⟨h3, rfl⟩ | ⟨h3, h4⟩
      · omega
      · rcases hk1 with h5 | h5 | h5
        · exact h.far i j' e f' hi h4 (Ne.symm h3) k (.inl h5) hk2
        · exact h.far i j' e f' hi h4 (Ne.symm h3) k (.inr (.inl h5)) hk2
        · have h6 : k = lb' := h5
          subst h6
          exact hlbf j' f' h3 h4 hk2
    · rcases hset j' f' hj' with ⟨h3, rfl⟩ | ⟨h3, h4⟩
      · rcases hk2 with h5 | h5 | h5
        · exact h.far j i f e h2 hi h1 k hk1 (.inl h5)
        · exact h.far j i f e h2 hi h1 k hk1 (.inr (.inl h5))
        · have h6 : k = lb' := h5
          subst h6
          exact hlbf j f h1 h2 hk1
      · exact h.far j j' f f' h2 h4 hne k hk1 hk2
  · rcases hk' with hk' | rfl
    · have := h.lt k hk'; omega
    · rcases hlb with h1 | h1
      · have := h.lt _ hSe.sl
        rw [h1] at hlt ⊢
        omega
      · omega
/-- a method on one of them -/
theorem Eds.call {B : Nat} {l : List (Nat × Sta)} {w : World} (h : Eds B l w) (hB : B ≤ w.heap.size) {i b : Nat} {s : Sta} (hi : l[i]? = some (b, s)) {f : FuncId} {args : Array Value} {v : Value} {s' : Sta}
    (hc : ∀ (S : Nat → Prop) (g lb : Nat), EdS S b g lb s w → (∀ k, S k → k < w.heap.size) → Calls Try.prog f args w fun e w' => e = .returned v ∧ After S b g lb s' w w') :
    Calls Try.prog f args w fun e w' => e = .returned v ∧ Eds B (l.set i (b, s')) w' ∧ Below B w w' := by
  obtain ⟨S, es, h, rfl⟩ := h
  rw [List.getElem?_map] at hi
  obtain ⟨e, he, hbs⟩ := Option.map_eq_some_iff.1 hi
  simp only [Prod.mk.injEq] at hbs
  obtain ⟨rfl, rfl⟩ := hbs
  refine (hc S e.g e.lb (h.ed i e he) (fun k hk => (h.lt k hk).1)).mono ?_
  rintro e' w' ⟨rfl, ha⟩
  exact ⟨rfl, h.after hB he ha⟩
/-- one of them is asked -/
theorem Eds.one {B : Nat} {l : List (Nat × Sta)} {w : World} (h : Eds B l w) {i b : Nat} {s : Sta} (hi : l[i]? = some (b, s)) : EdL B b s w := by
  obtain ⟨S, es, h, rfl⟩ := h
  rw [List.getElem?_map] at hi
  obtain ⟨e, he, hbs⟩ := Option.map_eq_some_iff.1 hi
  simp only [Prod.mk.injEq] at hbs
  obtain ⟨rfl, rfl⟩ := hbs
  exact ⟨S, e.g, e.lb, h.ed i e he, h.lt⟩
end Go.Proofs.Ytgfjaegjkklcpaa.ed
