/-
  XLx's walk, for a region that keeps the text's order.
-/
import Derived.Test.YtgpgbbbcodnieaaLx
namespace Go.Proofs.Ytgpgbbbcodnieaa.lx
open Go
set_option linter.unusedVariables false

section
variable {P : Program} {ops : Array Oper} {C : (Nat → Bool) → World → Prop}
def upTo (k : Nat) : Nat → Bool := fun i => decide (i < k)
theorem upTo_mark (k : Nat) : mark (upTo k) k = upTo (k + 1) := by
  funext i
  unfold mark upTo
  rw [Bool.eq_iff_iff]
  simp
  omega
theorem straight_ops {Q : Act → Prop} {Q' : Exit → Act → World → Prop} (hf : fwd .any ops = true) (hQ : ∀ a w d, (∀ i, i < ops.size → d i = true) → C d w → Q a → Q' .normal a w) : ∀ (rest : List Oper) (k : Nat) (a : Act) (w : World),
    (∀ j, rest[j]? = ops[k + j]?) → C (upTo k) w → walk P (Calls P) ops C Q k rest a → wpOps P ops Q' (List.range' k rest.length) a w
  | [], k, a, w, hl, hc, h => by
    refine hQ _ _ _ (fun i hi => ?_) hc h
    have := hl 0
    simp at this
    simp [upTo]; omega
  | o :: rest, k, a, w, hl, hc, h => by
    have h0 : ops[k]? = some o := by simpa using (hl 0).symm
    have hk : k < ops.size := (Array.getElem?_eq_some_iff.1 h0).1
    have hdep : Dep o (upTo k) := by
      intro e he hb
      unfold fwd at hf
      have h1 := List.all_eq_true.1 hf k (by simpa using hk)
      rw [h0] at h1
      have h2 := List.all_eq_true.1 h1 e (by simpa using he)
      rw [hb] at h2
      simpa [upTo] using h2
    have hd0 : upTo k k = false := by simp [upTo]
    obtain ⟨v, hg, hK⟩ := h
    have next : ∀ w', C (upTo (k + 1)) w' → wpOps P ops Q' (List.range' (k + 1) rest.length) (a.put o.dst v) w' := fun w' hc' =>
      straight_ops hf hQ rest (k + 1) _ w' (fun j => by have := hl (j + 1); simpa [Nat.add_assoc, Nat.add_comm 1 j] using this) hc' hK
    rw [List.length_cons, List.range'_succ]
    unfold wpOps
    simp only [h0]
    rcases hg with ⟨hw, hv⟩ | ⟨hw, rfl, hv⟩
    · simp only [hw, if_true]
      left
      have h3 := hv _ w ⟨hd0, hdep⟩ hc
      unfold Oper.wp
      generalize (execOp a.eval o).run P w = r at *
      cases r with
      | ok x w' =>
        cases x <;> simp only [Upon] at h3 <;> simp only [Oper.upon]
        case value u => obtain ⟨rfl, h4⟩ := h3; exact next _ (by rw [← upTo_mark]; exact h4)
        case skip => obtain ⟨rfl, h4⟩ := h3; exact next _ (by rw [← upTo_mark]; exact h4)
        case enter f args => exact Calls.mono h3 fun e w'' ⟨he, h4⟩ => by subst he; exact next _ (by rw [← upTo_mark]; exact h4)
      | halt x w' => simp only [Upon] at h3
    · simp only [hw, Bool.false_eq_true, if_false]
      exact next _ (by rw [← upTo_mark]; exact hv _ w ⟨hd0, hdep⟩ hc)

/-- A REGION THAT KEEPS THE TEXT's ORDER. -/
theorem straight {id : Nat} {Q : Exit → Act → World → Prop} {a : Act} {w : World} {l : List Oper} (C : (Nat → Bool) → World → Prop) (hf : fwd .any l.toArray = true)
    (hC : C (fun _ => false) w)
    (h : walk P (Calls P) l.toArray C (fun a' => ∀ w' d, (∀ i, i < l.length → d i = true) → C d w' → Q .normal a' w') 0 l a) : (Code.region id l.toArray false).wp P Q a w := by
  refine wp_region ?_
  have := straight_ops (P := P) (ops := l.toArray) (C := C) (Q' := Q) (Q := fun a' => ∀ w' d, (∀ i, i < l.length → d i = true) → C d w' → Q .normal a' w') hf (fun a w d hd hc hq => hq w d (by simpa using hd) hc) l 0 a w (fun j => by simp) (by have : upTo 0 = fun _ => false := by { funext i; simp [upTo] }; rw [this]; exact hC) h
  simpa [List.range_eq_range'] using this
end
end Go.Proofs.Ytgpgbbbcodnieaa.lx
