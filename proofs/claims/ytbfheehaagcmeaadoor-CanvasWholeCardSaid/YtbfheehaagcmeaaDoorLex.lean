/-
  A REGION THAT DRAWS ITS ORDER, WALKED ONCE IN THE ORDER OF THE TEXT, its effects let in: what a region's operations keep is a class of worlds that knows which of them have come up.
-/
import Derived.Still
import Derived.OrdersIn
import Derived.WalkKit
namespace Go.Proofs.YtbfheehaagcmeaaDoor.lex
open Go

def mark (d : Nat → Bool) (i : Nat) : Nat → Bool := fun j => j == i || d j

def Upon (Cal : FuncId → Array Value → World → (Ending → World → Prop) → Prop) (R : World → Prop) (v : Value) : Result Next → Prop
  | .ok (.value u) w' => u = v ∧ R w'
  | .ok .skip w' => v = undef ∧ R w'
  | .ok (.enter f args) w' => Cal f args w' (fun e w'' => e = .returned v ∧ R w'')
  | _ => False

section
variable {P : Program} {Cal : FuncId → Array Value → World → (Ending → World → Prop) → Prop} {ops : Array Oper} {md : Region.Mode} {C : (Nat → Bool) → World → Prop}

def Gives (P : Program) (Cal : FuncId → Array Value → World → (Ending → World → Prop) → Prop) (ops : Array Oper) (C : (Nat → Bool) → World → Prop) (i : Nat) (o : Oper) (v : Value) (a : Act) : Prop :=
  (Region.wanted o (yielded ops a.tmps) = true ∧ ∀ d w, d i = false → C d w → Upon Cal (C (mark d i)) v ((execOp a.eval o).run P w)) ∨
  (Region.wanted o (yielded ops a.tmps) = false ∧ v = undef ∧ ∀ d w, d i = false → C d w → C (mark d i) w)

theorem Gives.of_same {i : Nat} {o : Oper} {v : Value} {a a' : Act} (hy : Gives P Cal ops C i o v a) (he : execOp a'.eval o = execOp a.eval o)
    (hw : Region.wanted o (yielded ops a'.tmps) = Region.wanted o (yielded ops a.tmps)) : Gives P Cal ops C i o v a' := by
  unfold Gives at *
  rw [he, hw]
  exact hy

def opL (P : Program) (Cal : FuncId → Array Value → World → (Ending → World → Prop) → Prop) (ops : Array Oper) (C : (Nat → Bool) → World → Prop) (i : Nat) (K : Act → Prop) (a : Act) : Prop :=
  match ops[i]? with
  | none => K a
  | some o => ∃ v, Gives P Cal ops C i o v a ∧ K (a.put o.dst v)

def anyL (P : Program) (Cal : FuncId → Array Value → World → (Ending → World → Prop) → Prop) (md : Region.Mode) (ops : Array Oper) (C : (Nat → Bool) → World → Prop) (Q : Act → Prop) : Nat → Array Bool → Act → Prop
  | 0, listed, a => Region.ready md ops listed = [] ∧ Q a
  | fuel + 1, listed, a => (Region.ready md ops listed = [] → Q a) ∧ ∀ i ∈ Region.ready md ops listed, opL P Cal ops C i (anyL P Cal md ops C Q fuel (listed.setIfInBounds i true)) a

/-- the walk in the order of the text -/
def walk (P : Program) (Cal : FuncId → Array Value → World → (Ending → World → Prop) → Prop) (ops : Array Oper) (C : (Nat → Bool) → World → Prop) (Q : Act → Prop) : Nat → List Oper → Act → Prop
  | _, [], a => Q a
  | i, o :: rest, a => ∃ v, Gives P Cal ops C i o v a ∧ walk P Cal ops C Q (i + 1) rest (a.put o.dst v)

/-- one operation of that walk -/
theorem at_pure {Q : Act → Prop} {i : Nat} {o : Oper} {rest : List Oper} {a : Act} (v : Value) (hw : Region.wanted o (yielded ops a.tmps) = true) (hi : ∀ d w, C d w → C (mark d i) w)
    (hv : ∀ d w, C d w → (execOp a.eval o).run P w = .ok (.value v) w) (h : walk P Cal ops C Q (i + 1) rest (a.put o.dst v)) : walk P Cal ops C Q i (o :: rest) a :=
  ⟨v, .inl ⟨hw, fun d w _ hc => by rw [hv d w hc]; exact ⟨rfl, hi d w hc⟩⟩, h⟩
theorem at_store {Q : Act → Prop} {i : Nat} {o : Oper} {rest : List Oper} {a : Act} (hw : Region.wanted o (yielded ops a.tmps) = true)
    (hv : ∀ d w, C d w → ∃ w', (execOp a.eval o).run P w = .ok .skip w' ∧ C (mark d i) w') (h : walk P Cal ops C Q (i + 1) rest (a.put o.dst undef)) : walk P Cal ops C Q i (o :: rest) a :=
  ⟨undef, .inl ⟨hw, fun d w _ hc => by obtain ⟨w', h1, h2⟩ := hv d w hc; rw [h1]; exact ⟨rfl, h2⟩⟩, h⟩
theorem at_call {Q : Act → Prop} {i : Nat} {o : Oper} {rest : List Oper} {a : Act} (v : Value) (f : FuncId) (args : Array Value) (hw : Region.wanted o (yielded ops a.tmps) = true)
    (hv : ∀ d w, C d w → (execOp a.eval o).run P w = .ok (.enter f args) w) (hc : ∀ d w, C d w → Cal f args w (fun e w'' => e = .returned v ∧ C (mark d i) w''))
    (h : walk P Cal ops C Q (i + 1) rest (a.put o.dst v)) : walk P Cal ops C Q i (o :: rest) a :=
  ⟨v, .inl ⟨hw, fun d w _ hC => by rw [hv d w hC]; exact hc d w hC⟩, h⟩
theorem at_skip {Q : Act → Prop} {i : Nat} {o : Oper} {rest : List Oper} {a : Act} (hw : Region.wanted o (yielded ops a.tmps) = false) (hi : ∀ d w, C d w → C (mark d i) w)
    (h : walk P Cal ops C Q (i + 1) rest (a.put o.dst undef)) : walk P Cal ops C Q i (o :: rest) a :=
  ⟨undef, .inr ⟨hw, rfl, fun d w _ hc => hi d w hc⟩, h⟩
theorem at_end {Q : Act → Prop} {i : Nat} {a : Act} (h : Q a) : walk P Cal ops C Q i [] a := h

theorem opL_mono {i : Nat} {a : Act} {K K' : Act → Prop} (h : ∀ a, K a → K' a) (hh : opL P Cal ops C i K a) : opL P Cal ops C i K' a := by
  unfold opL at *
  split
  · rename_i ho; simp only [ho] at hh; exact h _ hh
  · rename_i o ho
    simp only [ho] at hh
    obtain ⟨v, h1, h2⟩ := hh
    exact ⟨v, h1, h _ h2⟩

theorem opL_put {i j : Nat} {oi oj : Oper} {v : Value} (hj : ops[j]? = some oj) (hap : oi.apart ops oj = true)
    (hsi : ∀ cs b, oi.op ≠ .select cs b) (hsj : ∀ cs b, oj.op ≠ .select cs b) {K : Act → Prop} {a : Act}
    (hy : Gives P Cal ops C i oi v a) (h : opL P Cal ops C j K (a.put oi.dst v)) :
    opL P Cal ops C j (fun a' => Gives P Cal ops C i oi v a' ∧ K (a'.put oi.dst v)) a := by
  obtain ⟨h1, h2, h3⟩ := Oper.apart_spec hap
  unfold opL at *
  simp only [hj] at *
  obtain ⟨u, hu, hn⟩ := h
  refine ⟨u, hu.of_same (execOp_put oj hsj a oi.dst v h1).symm (wanted_put oj a oi.dst v h1).symm, hy.of_same (execOp_put oi hsi a oj.dst u h3) (wanted_put oi a oj.dst u h3), ?_⟩
  rw [← Act.put_comm a v u h2]
  exact hn

theorem opL_of {i : Nat} {o : Oper} {v : Value} {a : Act} {K : Act → Prop} (hi : ops[i]? = some o) (hy : Gives P Cal ops C i o v a) (h : K (a.put o.dst v)) : opL P Cal ops C i K a := by
  unfold opL
  simp only [hi]
  exact ⟨v, hy, h⟩

theorem anyL_first {Q : Act → Prop} {i : Nat} {oi : Oper} {v : Value} (hi : ops[i]? = some oi) (hsel : ∀ (j : Nat) (o : Oper) cs b, ops[j]? = some o → o.op ≠ .select cs b) :
    ∀ (fuel : Nat) (listed : Array Bool) (a : Act),
      (∀ j oj, ops[j]? = some oj → j ≠ i → listed.getD j true = false → (∀ e ∈ oj.after, Region.binds md e = true → e.on ≠ i) → oi.apart ops oj = true) →
      i ∈ Region.ready md ops listed → Gives P Cal ops C i oi v a →
      anyL P Cal md ops C Q fuel (listed.setIfInBounds i true) (a.put oi.dst v) → anyL P Cal md ops C Q (fuel + 1) listed a := by
  intro fuel
  induction fuel with
  | zero =>
    intro listed a _ hr hy H
    refine ⟨fun h => absurd hr (by rw [h]; simp), fun j hj => ?_⟩
    rcases Decidable.em (j = i) with e | hne
    · subst e; exact opL_of hi hy H
    · have := ready_mono hj hne
      rw [H.1] at this
      simp at this
  | succ fuel ih =>
    intro listed a hfree hr hy H
    refine ⟨fun h => absurd hr (by rw [h]; simp), fun j hj => ?_⟩
    rcases Decidable.em (j = i) with e | hne
    · subst e; exact opL_of hi hy H
    · obtain ⟨hjun, oj, hoj, hall⟩ := mem_ready.1 hj
      have hiun := (mem_ready.1 hr).1
      have hnot : ∀ e ∈ oj.after, Region.binds md e = true → e.on ≠ i := by
        intro e he hb heq
        have h1 := hall e he hb
        rw [heq] at h1
        by_cases hlt : i < listed.size
        · simp [hlt] at hiun h1
          rw [hiun] at h1
          cases h1
        · simp [Array.getElem?_eq_none (Nat.le_of_not_lt hlt)] at h1
      have h2 := opL_put hoj (hfree j oj hoj hne hjun hnot) (fun cs b => hsel i oi cs b hi) (fun cs b => hsel j oj cs b hoj) hy (H.2 j (ready_mono hj hne))
      refine opL_mono (fun a' h3 => ih (listed.setIfInBounds j true) a' ?_ (ready_mono hr (Ne.symm hne)) h3.1 ?_) h2
      · intro k ok hk hki hun hno
        refine hfree k ok hk hki ?_ hno
        rcases Decidable.em (j = k) with e | hjk
        · subst e; exact hjun
        · rwa [getD_set_ne true hjk] at hun
      · rw [Array.setIfInBounds_comm _ _ hne]
        exact h3.2

theorem anyL_walk {Q : Act → Prop} (hs : Region.noSelect ops = true) : ∀ (l : List Oper) (k : Nat) (listed : Array Bool) (a : Act), (∀ j, l[j]? = ops[k + j]?) →
    Region.lexFrom md ops l.length k listed = true → walk P Cal ops C Q k l a → anyL P Cal md ops C Q l.length listed a
  | [], _, _, _, _, hB, h => ⟨by simpa [Region.lexFrom] using hB, h⟩
  | o :: l, k, listed, a, hl, hB, h => by
    have h0 : ops[k]? = some o := by simpa using (hl 0).symm
    simp only [List.length_cons, Region.lexFrom, Bool.and_eq_true] at hB
    obtain ⟨⟨hr, hf⟩, hB'⟩ := hB
    obtain ⟨v, hy, hK⟩ := h
    exact anyL_first h0 (Region.noSelect_spec hs) l.length listed a (Region.free_spec h0 hf) (by simpa using hr) hy
      (anyL_walk hs l (k + 1) _ _ (fun j => by have := hl (j + 1); simpa [Nat.add_assoc, Nat.add_comm 1 j] using this) hB' hK)

/-- every edge leads back -/
def fwd (md : Region.Mode) (ops : Array Oper) : Bool := (List.range ops.size).all fun j => match ops[j]? with | some o => o.after.toList.all (fun e => !Region.binds md e || decide (e.on < j)) | none => true
def dn (listed : Array Bool) : Nat → Bool := fun i => listed.getD i false

theorem all_done (hf : fwd md ops = true) {listed : Array Bool} (hs : listed.size = ops.size) (hr : Region.ready md ops listed = []) : ∀ i, i < ops.size → dn listed i = true := by
  intro i
  induction i using Nat.strongRecOn with
  | _ i ih =>
    intro hi
    rcases Bool.eq_false_or_eq_true (dn listed i) with h | h
    · exact h
    · exfalso
      have hmem : i ∈ Region.ready md ops listed := by
        refine mem_ready.2 ⟨?_, ops[i], Array.getElem?_eq_getElem hi, ?_⟩
        · have : i < listed.size := by omega
          simpa [dn, this] using h
        · intro e he hb
          unfold fwd at hf
          have h1 := List.all_eq_true.1 hf i (by simpa using hi)
          rw [Array.getElem?_eq_getElem hi] at h1
          have h2 := List.all_eq_true.1 h1 e (by simpa using he)
          rw [hb] at h2
          have h3 : e.on < i := by simpa using h2
          exact ih e.on h3 (by omega)
      rw [hr] at hmem
      simp at hmem

theorem dn_mark {listed : Array Bool} {i : Nat} (h : i < listed.size) : dn (listed.setIfInBounds i true) = mark (dn listed) i := by
  funext j
  unfold dn mark
  by_cases e : j = i
  · subst e; simp [h]
  · have : (j == i) = false := by simpa using e
    simp [this, Array.getElem?_setIfInBounds_ne (Ne.symm e)]

theorem ready_un {i : Nat} {listed : Array Bool} (hs : listed.size = ops.size) (h : i ∈ Region.ready md ops listed) : i < listed.size ∧ dn listed i = false := by
  obtain ⟨h0, o, ho, -⟩ := mem_ready.1 h
  have hi : i < listed.size := by rw [hs]; exact (Array.getElem?_eq_some_iff.1 ho).1
  exact ⟨hi, by simpa [dn, hi] using h0⟩
end

section
variable {P : Program} {ops : Array Oper} {md : Region.Mode} {C : (Nat → Bool) → World → Prop}

theorem sound {Q : Act → Prop} {Q' : Exit → Act → World → Prop} (hf : fwd md ops = true) (hQ : ∀ a w d, (∀ i, i < ops.size → d i = true) → C d w → Q a → Q' .normal a w) : ∀ (fuel : Nat) (listed : Array Bool) (a : Act) (w : World),
    listed.size = ops.size → C (dn listed) w → anyL P (Calls P) md ops C Q fuel listed a → wpAny P md ops Q' fuel listed a w
  | 0, listed, a, w, hs, hc, h => ⟨h.1, hQ _ _ _ (all_done hf hs h.1) hc h.2⟩
  | fuel + 1, listed, a, w, hs, hc, h => by
    refine ⟨fun h0 => hQ _ _ _ (all_done hf hs h0) hc (h.1 h0), fun i hi => ?_⟩
    have hop := h.2 i hi
    obtain ⟨hil, hun⟩ := ready_un hs hi
    have next : ∀ a' w', C (mark (dn listed) i) w' → anyL P (Calls P) md ops C Q fuel (listed.setIfInBounds i true) a' → wpAny P md ops Q' fuel (listed.setIfInBounds i true) a' w' := fun a' w' hc' h' =>
      sound hf hQ fuel _ a' w' (by simpa using hs) (by rw [dn_mark hil]; exact hc') h'
    unfold opL at hop
    unfold wpOp
    split
    · rename_i ho
      have := (Array.getElem?_eq_none_iff.1 ho)
      omega
    · rename_i o ho
      simp only [ho] at hop
      obtain ⟨v, hg, hk⟩ := hop
      rcases hg with ⟨hw, hv⟩ | ⟨hw, rfl, hv⟩
      · simp only [hw, if_true]
        left
        have h3 := hv _ w hun hc
        unfold Oper.wp
        generalize (execOp a.eval o).run P w = r at *
        cases r with
        | ok x w' =>
          cases x <;> simp only [Upon] at h3 <;> simp only [Oper.upon]
          case value u => obtain ⟨rfl, h4⟩ := h3; exact next _ _ h4 hk
          case skip => obtain ⟨rfl, h4⟩ := h3; exact next _ _ h4 hk
          case enter f args => exact Calls.mono h3 fun e w'' ⟨he, h4⟩ => by subst he; exact next _ _ h4 hk
        | halt x w' => simp only [Upon] at h3
      · simp only [hw, Bool.false_eq_true, if_false]
        exact next _ _ (hv _ w hun hc) hk

/-- ONE WALK IN THE ORDER OF THE TEXT. -/
theorem region {id : Nat} {Q : Exit → Act → World → Prop} {a : Act} {w : World} {l : List Oper} (C : (Nat → Bool) → World → Prop) (hm : P.follows .mixedOrders = true) (hB : Region.lexB .any l.toArray = true) (hf : fwd .any l.toArray = true)
    (hC : C (fun _ => false) w.drew)
    (h : walk P (Calls P) l.toArray C (fun a' => ∀ w' d, (∀ i, i < l.length → d i = true) → C d w' → Q .normal a' w') 0 l a) : (Code.region id l.toArray true).wp P Q a w := by
  simp only [Region.lexB, Bool.and_eq_true] at hB
  refine wp_region_any hm (sound (C := C) (Q := fun a' => ∀ w' d, (∀ i, i < l.length → d i = true) → C d w' → Q .normal a' w') hf (fun a w d hd hc hq => hq w d (by simpa using hd) hc) _ _ _ _ (by simp) ?_ ?_)
  · have : dn (Array.replicate l.toArray.size false) = fun _ => false := by funext i; unfold dn; simp [Array.getElem?_replicate]; split <;> rfl
    rw [this]; exact hC
  · have := anyL_walk (md := .any) hB.1 l 0 (Array.replicate l.toArray.size false) a (by simp) (by simpa using hB.2) h
    simpa using this

theorem soundIn {F : Fence} {n : Nat} {Q : Act → Prop} {Q' : Exit → Act → World → Prop} (hF : ∀ f, F.fn f) (hf : fwd md ops = true) (hQ : ∀ a w d, (∀ i, i < ops.size → d i = true) → C d w → Q a → Q' .normal a w) : ∀ (fuel : Nat) (listed : Array Bool) (a : Act) (w : World),
    listed.size = ops.size → C (dn listed) w → anyL P (fun f args w R => (F.depth.isSome = true → 1 ≤ n) ∧ CallsIn F (n - 1) P f args w R) md ops C Q fuel listed a → wpAnyIn F n P md ops Q' fuel listed a w
  | 0, listed, a, w, hs, hc, h => ⟨h.1, hQ _ _ _ (all_done hf hs h.1) hc h.2⟩
  | fuel + 1, listed, a, w, hs, hc, h => by
    refine ⟨fun h0 => hQ _ _ _ (all_done hf hs h0) hc (h.1 h0), fun i hi => ?_⟩
    have hop := h.2 i hi
    obtain ⟨hil, hun⟩ := ready_un hs hi
    have next : ∀ a' w', C (mark (dn listed) i) w' → anyL P (fun f args w R => (F.depth.isSome = true → 1 ≤ n) ∧ CallsIn F (n - 1) P f args w R) md ops C Q fuel (listed.setIfInBounds i true) a' → wpAnyIn F n P md ops Q' fuel (listed.setIfInBounds i true) a' w' := fun a' w' hc' h' =>
      soundIn hF hf hQ fuel _ a' w' (by simpa using hs) (by rw [dn_mark hil]; exact hc') h'
    unfold opL at hop
    unfold wpOpIn
    split
    · rename_i ho
      have := (Array.getElem?_eq_none_iff.1 ho)
      omega
    · rename_i o ho
      simp only [ho] at hop
      obtain ⟨v, hg, hk⟩ := hop
      rcases hg with ⟨hw, hv⟩ | ⟨hw, rfl, hv⟩
      · simp only [hw, if_true]
        have h3 := hv _ w hun hc
        unfold Oper.wpIn
        refine ⟨fun f _ => hF f, ?_⟩
        have hnd : ∀ c, o.op ≠ .defer c := by
          intro c hd
          unfold execOp at h3
          simp only [hd] at h3
          rw [Sem.run_bind] at h3
          generalize (resolve a.eval c o.type).run P w = r at h3
          cases r <;> simp [Result.andThen, Upon] at h3
        rw [Oper.semAt_eq _ _ _ hnd]
        generalize (execOp a.eval o).run P w = r at *
        cases r with
        | ok x w' =>
          cases x <;> simp only [Upon] at h3 <;> simp only [Oper.uponIn]
          case value u => obtain ⟨rfl, h4⟩ := h3; exact next _ _ h4 hk
          case skip => obtain ⟨rfl, h4⟩ := h3; exact next _ _ h4 hk
          case enter f args => exact ⟨h3.1, CallsIn.mono h3.2 fun e w'' ⟨he, h4⟩ => by subst he; exact next _ _ h4 hk⟩
        | halt x w' => simp only [Upon] at h3
      · simp only [hw, Bool.false_eq_true, if_false]
        exact ⟨fun f _ => hF f, next _ _ (hv _ w hun hc) hk⟩

theorem regionIn {F : Fence} {n : Nat} {id : Nat} {Q : Exit → Act → World → Prop} {a : Act} {w : World} {l : List Oper} (C : (Nat → Bool) → World → Prop) (hF : ∀ f, F.fn f) (hm : P.follows .mixedOrders = true) (hB : Region.lexB .any l.toArray = true) (hf : fwd .any l.toArray = true)
    (hC : C (fun _ => false) w.drew)
    (h : walk P (fun f args w R => (F.depth.isSome = true → 1 ≤ n) ∧ CallsIn F (n - 1) P f args w R) l.toArray C (fun a' => ∀ w' d, (∀ i, i < l.length → d i = true) → C d w' → Q .normal a' w') 0 l a) : (Code.region id l.toArray true).wpIn F n P Q a w := by
  simp only [Region.lexB, Bool.and_eq_true] at hB
  refine wpIn_region_any hm (soundIn (C := C) (Q := fun a' => ∀ w' d, (∀ i, i < l.length → d i = true) → C d w' → Q .normal a' w') hF hf (fun a w d hd hc hq => hq w d (by simpa using hd) hc) _ _ _ _ (by simp) ?_ ?_)
  · have : dn (Array.replicate l.toArray.size false) = fun _ => false := by funext i; unfold dn; simp [Array.getElem?_replicate]; split <;> rfl
    rw [this]; exact hC
  · have := anyL_walk (md := .any) hB.1 l 0 (Array.replicate l.toArray.size false) a (by simp) (by simpa using hB.2) h
    simpa using this
end

end Go.Proofs.YtbfheehaagcmeaaDoor.lex
