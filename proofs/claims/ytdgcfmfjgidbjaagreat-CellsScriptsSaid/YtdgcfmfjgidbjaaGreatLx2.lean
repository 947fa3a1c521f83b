/-
  XLx, where two operations of a region make memory: one walk for each order of the two. (Printed by gen_lx2.py out of XLx.)
-/
import Derived.Test.YtdgcfmfjgidbjaaGreatLx
namespace Go.Proofs.YtdgcfmfjgidbjaaGreat.lx.two
open Go
set_option linter.unusedVariables false

section
variable {P : Program} {Cal : FuncId → Array Value → World → (Ending → World → Prop) → Prop} {Pm : Nat → (Nat → Bool) → Prop} {ops : Array Oper} {md : Region.Mode} {C : (Nat → Bool) → World → Prop}

def Gives (P : Program) (Cal : FuncId → Array Value → World → (Ending → World → Prop) → Prop) (Pm : Nat → (Nat → Bool) → Prop) (ops : Array Oper) (C : (Nat → Bool) → World → Prop) (i : Nat) (o : Oper) (v : Value) (a : Act) : Prop :=
  (Region.wanted o (yielded ops a.tmps) = true ∧ ∀ d w, (d i = false ∧ Dep o d ∧ Pm i d) → C d w → Upon Cal (C (mark d i)) v ((execOp a.eval o).run P w)) ∨
  (Region.wanted o (yielded ops a.tmps) = false ∧ v = undef ∧ ∀ d w, (d i = false ∧ Dep o d ∧ Pm i d) → C d w → C (mark d i) w)

theorem Gives.of_same {i : Nat} {o : Oper} {v : Value} {a a' : Act} (hy : Gives P Cal Pm ops C i o v a) (he : execOp a'.eval o = execOp a.eval o)
    (hw : Region.wanted o (yielded ops a'.tmps) = Region.wanted o (yielded ops a.tmps)) : Gives P Cal Pm ops C i o v a' := by
  unfold Gives at *
  rw [he, hw]
  exact hy

def opL (P : Program) (Cal : FuncId → Array Value → World → (Ending → World → Prop) → Prop) (Pm : Nat → (Nat → Bool) → Prop) (ops : Array Oper) (C : (Nat → Bool) → World → Prop) (i : Nat) (K : Act → Prop) (a : Act) : Prop :=
  match ops[i]? with
  | none => K a
  | some o => ∃ v, Gives P Cal Pm ops C i o v a ∧ K (a.put o.dst v)

def anyL (P : Program) (Cal : FuncId → Array Value → World → (Ending → World → Prop) → Prop) (Pm : Nat → (Nat → Bool) → Prop) (md : Region.Mode) (ops : Array Oper) (C : (Nat → Bool) → World → Prop) (Q : Act → Prop) : Nat → Array Bool → Act → Prop
  | 0, listed, a => Region.ready md ops listed = [] ∧ Q a
  | fuel + 1, listed, a => (Region.ready md ops listed = [] → Q a) ∧ ∀ i ∈ Region.ready md ops listed, opL P Cal Pm ops C i (anyL P Cal Pm md ops C Q fuel (listed.setIfInBounds i true)) a

/-- the walk in the order of the text -/
def walk (P : Program) (Cal : FuncId → Array Value → World → (Ending → World → Prop) → Prop) (Pm : Nat → (Nat → Bool) → Prop) (ops : Array Oper) (C : (Nat → Bool) → World → Prop) (Q : Act → Prop) : Nat → List Oper → Act → Prop
  | _, [], a => Q a
  | i, o :: rest, a => ∃ v, Gives P Cal Pm ops C i o v a ∧ walk P Cal Pm ops C Q (i + 1) rest (a.put o.dst v)

/-- one operation of that walk -/
theorem at_pure {Q : Act → Prop} {i : Nat} {o : Oper} {rest : List Oper} {a : Act} (v : Value) (hw : Region.wanted o (yielded ops a.tmps) = true) (hi : ∀ d w, C d w → C (mark d i) w)
    (hv : ∀ d w, C d w → (execOp a.eval o).run P w = .ok (.value v) w) (h : walk P Cal Pm ops C Q (i + 1) rest (a.put o.dst v)) : walk P Cal Pm ops C Q i (o :: rest) a :=
  ⟨v, .inl ⟨hw, fun d w _ hc => by rw [hv d w hc]; exact ⟨rfl, hi d w hc⟩⟩, h⟩
theorem at_store {Q : Act → Prop} {i : Nat} {o : Oper} {rest : List Oper} {a : Act} (hw : Region.wanted o (yielded ops a.tmps) = true)
    (hv : ∀ d w, C d w → ∃ w', (execOp a.eval o).run P w = .ok .skip w' ∧ C (mark d i) w') (h : walk P Cal Pm ops C Q (i + 1) rest (a.put o.dst undef)) : walk P Cal Pm ops C Q i (o :: rest) a :=
  ⟨undef, .inl ⟨hw, fun d w _ hc => by obtain ⟨w', h1, h2⟩ := hv d w hc; rw [h1]; exact ⟨rfl, h2⟩⟩, h⟩
theorem at_call {Q : Act → Prop} {i : Nat} {o : Oper} {rest : List Oper} {a : Act} (v : Value) (f : FuncId) (args : Array Value) (hw : Region.wanted o (yielded ops a.tmps) = true)
    (hv : ∀ d w, C d w → (execOp a.eval o).run P w = .ok (.enter f args) w) (hc : ∀ d w, C d w → Cal f args w (fun e w'' => e = .returned v ∧ C (mark d i) w''))
    (h : walk P Cal Pm ops C Q (i + 1) rest (a.put o.dst v)) : walk P Cal Pm ops C Q i (o :: rest) a :=
  ⟨v, .inl ⟨hw, fun d w _ hC => by rw [hv d w hC]; exact hc d w hC⟩, h⟩
theorem at_skip {Q : Act → Prop} {i : Nat} {o : Oper} {rest : List Oper} {a : Act} (hw : Region.wanted o (yielded ops a.tmps) = false) (hi : ∀ d w, C d w → C (mark d i) w)
    (h : walk P Cal Pm ops C Q (i + 1) rest (a.put o.dst undef)) : walk P Cal Pm ops C Q i (o :: rest) a :=
  ⟨undef, .inr ⟨hw, rfl, fun d w _ hc => hi d w hc⟩, h⟩
theorem at_end {Q : Act → Prop} {i : Nat} {a : Act} (h : Q a) : walk P Cal Pm ops C Q i [] a := h

theorem opL_mono {i : Nat} {a : Act} {K K' : Act → Prop} (h : ∀ a, K a → K' a) (hh : opL P Cal Pm ops C i K a) : opL P Cal Pm ops C i K' a := by
  unfold opL at *
  split
  · rename_i ho; simp only [ho] at hh; exact h _ hh
  · rename_i o ho
    simp only [ho] at hh
    obtain ⟨v, h1, h2⟩ := hh
    exact ⟨v, h1, h _ h2⟩

theorem opL_put {i j : Nat} {oi oj : Oper} {v : Value} (hj : ops[j]? = some oj) (hap : oi.apart ops oj = true)
    (hsi : ∀ cs b, oi.op ≠ .select cs b) (hsj : ∀ cs b, oj.op ≠ .select cs b) {K : Act → Prop} {a : Act}
    (hy : Gives P Cal Pm ops C i oi v a) (h : opL P Cal Pm ops C j K (a.put oi.dst v)) :
    opL P Cal Pm ops C j (fun a' => Gives P Cal Pm ops C i oi v a' ∧ K (a'.put oi.dst v)) a := by
  obtain ⟨h1, h2, h3⟩ := Oper.apart_spec hap
  unfold opL at *
  simp only [hj] at *
  obtain ⟨u, hu, hn⟩ := h
  refine ⟨u, hu.of_same (execOp_put oj hsj a oi.dst v h1).symm (wanted_put oj a oi.dst v h1).symm, hy.of_same (execOp_put oi hsi a oj.dst u h3) (wanted_put oi a oj.dst u h3), ?_⟩
  rw [← Act.put_comm a v u h2]
  exact hn

theorem opL_of {i : Nat} {o : Oper} {v : Value} {a : Act} {K : Act → Prop} (hi : ops[i]? = some o) (hy : Gives P Cal Pm ops C i o v a) (h : K (a.put o.dst v)) : opL P Cal Pm ops C i K a := by
  unfold opL
  simp only [hi]
  exact ⟨v, hy, h⟩

theorem anyL_first {Q : Act → Prop} {i : Nat} {oi : Oper} {v : Value} (hi : ops[i]? = some oi) (hsel : ∀ (j : Nat) (o : Oper) cs b, ops[j]? = some o → o.op ≠ .select cs b) :
    ∀ (fuel : Nat) (listed : Array Bool) (a : Act),
      (∀ j oj, ops[j]? = some oj → j ≠ i → listed.getD j true = false → (∀ e ∈ oj.after, Region.binds md e = true → e.on ≠ i) → oi.apart ops oj = true) →
      i ∈ Region.ready md ops listed → Gives P Cal Pm ops C i oi v a →
      anyL P Cal Pm md ops C Q fuel (listed.setIfInBounds i true) (a.put oi.dst v) → anyL P Cal Pm md ops C Q (fuel + 1) listed a := by
  intro fuel
  induction fuel with
  | zero =>
    intro listed a _ hr hy H
    refine ⟨fun h => absurd hr (by rw [h]; simp), fun j hj => ?_⟩
    rcases Decidable.em (j = i) with e | hne
    · subst e; exact opL_of hi hy H
    · have := ready_mono hj hne
      rw [H.1] at this
      simp at this
  | succ fuel ih =>
    intro listed a hfree hr hy H
    refine ⟨fun h => absurd hr (by rw [h]; simp), fun j hj => ?_⟩
    rcases Decidable.em (j = i) with e | hne
    · subst e; exact opL_of hi hy H
    · obtain ⟨hjun, oj, hoj, hall⟩ := mem_ready.1 hj
      have hiun := (mem_ready.1 hr).1
      have hnot : ∀ e ∈ oj.after, Region.binds md e = true → e.on ≠ i := by
        intro e he hb heq
        have h1 := hall e he hb
        rw [heq] at h1
        by_cases hlt : i < listed.size
        · simp [hlt] at hiun h1
          rw [hiun] at h1
          cases h1
        · simp [Array.getElem?_eq_none (Nat.le_of_not_lt hlt)] at h1
      have h2 := opL_put hoj (hfree j oj hoj hne hjun hnot) (fun cs b => hsel i oi cs b hi) (fun cs b => hsel j oj cs b hoj) hy (H.2 j (ready_mono hj hne))
      refine opL_mono (fun a' h3 => ih (listed.setIfInBounds j true) a' ?_ (ready_mono hr (Ne.symm hne)) h3.1 ?_) h2
      · intro k ok hk hki hun hno
        refine hfree k ok hk hki ?_ hno
        rcases Decidable.em (j = k) with e | hjk
        · subst e; exact hjun
        · rwa [getD_set_ne true hjk] at hun
      · rw [Array.setIfInBounds_comm _ _ hne]
        exact h3.2

theorem anyL_walk {Q : Act → Prop} (hs : Region.noSelect ops = true) : ∀ (l : List Oper) (k : Nat) (listed : Array Bool) (a : Act), (∀ j, l[j]? = ops[k + j]?) →
    Region.lexFrom md ops l.length k listed = true → walk P Cal Pm ops C Q k l a → anyL P Cal Pm md ops C Q l.length listed a
  | [], _, _, _, _, hB, h => ⟨by simpa [Region.lexFrom] using hB, h⟩
  | o :: l, k, listed, a, hl, hB, h => by
    have h0 : ops[k]? = some o := by simpa using (hl 0).symm
    simp only [List.length_cons, Region.lexFrom, Bool.and_eq_true] at hB
    obtain ⟨⟨hr, hf⟩, hB'⟩ := hB
    obtain ⟨v, hy, hK⟩ := h
    exact anyL_first h0 (Region.noSelect_spec hs) l.length listed a (Region.free_spec h0 hf) (by simpa using hr) hy
      (anyL_walk hs l (k + 1) _ _ (fun j => by have := hl (j + 1); simpa [Nat.add_assoc, Nat.add_comm 1 j] using this) hB' hK)
end

section
variable {P : Program} {ops : Array Oper}

/-- one order is settled -/
theorem sound {md : Region.Mode} {C : (Nat → Bool) → World → Prop} {Pm : Nat → (Nat → Bool) → Prop} {Q : Act → Prop} {Q' : Exit → Act → World → Prop} (hmd : md = .any) (hf : fwd md ops = true) (hQ : ∀ a w d, (∀ i, i < ops.size → d i = true) → C d w → Q a → Q' .normal a w)
    (k : Nat) (hk : ∀ i d, d k = true → d i = false → Pm i d) : ∀ (fuel : Nat) (listed : Array Bool) (a : Act) (w : World),
    listed.size = ops.size → dn listed k = true → C (dn listed) w → anyL P (fun _ _ _ _ => False) Pm md ops C Q fuel listed a → wpAny P md ops Q' fuel listed a w
  | 0, listed, a, w, hs, _, hc, h => ⟨h.1, hQ _ _ _ (all_done hf hs h.1) hc h.2⟩
  | fuel + 1, listed, a, w, hs, hkk, hc, h => by
    refine ⟨fun h0 => hQ _ _ _ (all_done hf hs h0) hc (h.1 h0), fun i hi => ?_⟩
    have hop := h.2 i hi
    obtain ⟨hil, hun0, hdp⟩ := ready_un hmd hs hi
    have hpm := hk i _ hkk hun0
    have next : ∀ a' w', C (mark (dn listed) i) w' → anyL P (fun _ _ _ _ => False) Pm md ops C Q fuel (listed.setIfInBounds i true) a' → wpAny P md ops Q' fuel (listed.setIfInBounds i true) a' w' := fun a' w' hc' h' =>
      sound hmd hf hQ k hk fuel _ a' w' (by simpa using hs) (by rw [dn_mark hil]; unfold mark; simp [hkk]) (by rw [dn_mark hil]; exact hc') h'
    unfold opL at hop
    unfold wpOp
    split
    · rename_i ho
      have := (Array.getElem?_eq_none_iff.1 ho)
      omega
    · rename_i o ho
      simp only [ho] at hop
      obtain ⟨v, hg, hkv⟩ := hop
      rcases hg with ⟨hw, hv⟩ | ⟨hw, rfl, hv⟩
      · simp only [hw, if_true]
        left
        have h3 := hv _ w ⟨hun0, hdp _ ho, hpm⟩ hc
        unfold Oper.wp
        generalize (execOp a.eval o).run P w = r at *
        cases r with
        | ok x w' =>
          cases x <;> simp only [Upon] at h3 <;> simp only [Oper.upon]
          case value u => obtain ⟨rfl, h4⟩ := h3; exact next _ _ h4 hkv
          case skip => obtain ⟨rfl, h4⟩ := h3; exact next _ _ h4 hkv
        | halt x w' => simp only [Upon] at h3
      · simp only [hw, Bool.false_eq_true, if_false]
        exact next _ _ (hv _ w ⟨hun0, hdp _ ho, hpm⟩ hc) hkv

/-- which of two operations comes first -/
def Ord (i0 j0 : Nat) (β : Bool) (i : Nat) (d : Nat → Bool) : Prop := (i = i0 → d j0 = !β) ∧ (i = j0 → d i0 = β)

theorem sound2 {md : Region.Mode} {i0 j0 : Nat} (hne : i0 ≠ j0) {C : Bool → (Nat → Bool) → World → Prop} {Q : Bool → Act → Prop} {Q' : Exit → Act → World → Prop} (hmd : md = .any) (hf : fwd md ops = true) (hQ : ∀ β a w d, (∀ i, i < ops.size → d i = true) → C β d w → Q β a → Q' .normal a w) (hi0 : i0 < ops.size) :
    ∀ (fuel : Nat) (listed : Array Bool) (a : Act) (w : World),
    listed.size = ops.size → dn listed i0 = false → dn listed j0 = false → (∀ β, C β (dn listed) w) → (∀ β, anyL P (fun _ _ _ _ => False) (Ord i0 j0 β) md ops (C β) (Q β) fuel listed a) → wpAny P md ops Q' fuel listed a w
  | 0, listed, a, w, hs, hi, _, _, h => by
    have := all_done hf hs (h true).1 i0 hi0
    rw [hi] at this
    cases this
  | fuel + 1, listed, a, w, hs, h1, h2, hc, h => by
    refine ⟨fun h0 => ?_, fun i hi => ?_⟩
    · have := all_done hf hs h0 i0 hi0
      rw [h1] at this
      cases this
    obtain ⟨hil, hun0, hdp⟩ := ready_un hmd hs hi
    have next : ∀ a' w', (∀ β, Ord i0 j0 β i (dn listed) → C β (mark (dn listed) i) w' ∧ anyL P (fun _ _ _ _ => False) (Ord i0 j0 β) md ops (C β) (Q β) fuel (listed.setIfInBounds i true) a') → wpAny P md ops Q' fuel (listed.setIfInBounds i true) a' w' := by
      intro a' w' hh
      by_cases e1 : i = i0
      · subst e1
        obtain ⟨g1, g2⟩ := hh true ⟨fun _ => by simpa using h2, fun e => absurd e hne⟩
        exact sound hmd hf (hQ true) i (fun j d hd hj => ⟨fun e => by (subst e; exact absurd (hd.symm.trans hj) (by decide)), fun e => by simpa using hd⟩) fuel _ a' w' (by simpa using hs) (by rw [dn_mark hil]; simp [mark]) (by rw [dn_mark hil]; exact g1) g2
      · by_cases e2 : i = j0
        · subst e2
          obtain ⟨g1, g2⟩ := hh false ⟨fun e => absurd e e1, fun _ => h1⟩
          exact sound hmd hf (hQ false) i (fun j d hd hj => ⟨fun e => by simpa using hd, fun e => by (subst e; exact absurd (hd.symm.trans hj) (by decide))⟩) fuel _ a' w' (by simpa using hs) (by rw [dn_mark hil]; simp [mark]) (by rw [dn_mark hil]; exact g1) g2
        · have hO : ∀ β, Ord i0 j0 β i (dn listed) := fun β => ⟨fun e => absurd e e1, fun e => absurd e e2⟩
          refine sound2 hne hmd hf hQ hi0 fuel _ a' w' (by simpa using hs) ?_ ?_ (fun β => by rw [dn_mark hil]; exact (hh β (hO β)).1) (fun β => (hh β (hO β)).2)
          · rw [dn_mark hil]; unfold mark; rw [h1]; simp; exact fun e => e1 e.symm
          · rw [dn_mark hil]; unfold mark; rw [h2]; simp; exact fun e => e2 e.symm
    have ho : ∃ o, ops[i]? = some o := by
      obtain ⟨-, o, ho, -⟩ := mem_ready.1 hi
      exact ⟨o, ho⟩
    obtain ⟨o, ho⟩ := ho
    unfold wpOp
    simp only [ho]
    have hop : ∀ β, ∃ v, Gives P (fun _ _ _ _ => False) (Ord i0 j0 β) ops (C β) i o v a ∧ anyL P (fun _ _ _ _ => False) (Ord i0 j0 β) md ops (C β) (Q β) fuel (listed.setIfInBounds i true) (a.put o.dst v) := by
      intro β
      have := (h β).2 i hi
      unfold opL at this
      simpa only [ho] using this
    have hex : ∃ β, Ord i0 j0 β i (dn listed) := by
      by_cases e1 : i = i0
      · exact ⟨true, fun _ => by simpa using h2, fun e => absurd (e1.symm.trans e) hne⟩
      · by_cases e2 : i = j0
        · exact ⟨false, fun e => absurd e e1, fun _ => h1⟩
        · exact ⟨true, fun e => absurd e e1, fun e => absurd e e2⟩
    cases hw : Region.wanted o (yielded ops a.tmps) with
    | true =>
      simp only [if_true]
      left
      have key : ∀ β, Ord i0 j0 β i (dn listed) → ∃ v, Upon (fun _ _ _ _ => False) (C β (mark (dn listed) i)) v ((execOp a.eval o).run P w) ∧ anyL P (fun _ _ _ _ => False) (Ord i0 j0 β) md ops (C β) (Q β) fuel (listed.setIfInBounds i true) (a.put o.dst v) := by
        intro β hβ
        obtain ⟨v, hg, hk⟩ := hop β
        rcases hg with ⟨-, hv⟩ | ⟨hw', -, -⟩
        · exact ⟨v, hv _ w ⟨hun0, hdp _ ho, hβ⟩ (hc β), hk⟩
        · rw [hw] at hw'; cases hw'
      unfold Oper.wp
      generalize (execOp a.eval o).run P w = r at *
      cases r with
      | ok x w' =>
        cases x
        case value u =>
          simp only [Oper.upon]
          refine next _ _ fun β hβ => ?_
          obtain ⟨v, g1, g2⟩ := key β hβ
          simp only [Upon] at g1
          obtain ⟨rfl, g3⟩ := g1
          exact ⟨g3, g2⟩
        case skip =>
          simp only [Oper.upon]
          refine next _ _ fun β hβ => ?_
          obtain ⟨v, g1, g2⟩ := key β hβ
          simp only [Upon] at g1
          obtain ⟨rfl, g3⟩ := g1
          exact ⟨g3, g2⟩
        all_goals
          exfalso
          obtain ⟨β, hβ⟩ := hex
          obtain ⟨v, g1, -⟩ := key β hβ
          simp only [Upon] at g1
      | halt x w' =>
        exfalso
        obtain ⟨β, hβ⟩ := hex
        obtain ⟨v, g1, -⟩ := key β hβ
        simp only [Upon] at g1
    | false =>
      simp only [Bool.false_eq_true, if_false]
      refine next _ _ fun β hβ => ?_
      obtain ⟨v, hg, hk⟩ := hop β
      rcases hg with ⟨hw', -⟩ | ⟨-, rfl, hv⟩
      · rw [hw] at hw'; cases hw'
      · exact ⟨hv _ w ⟨hun0, hdp _ ho, hβ⟩ (hc β), hk⟩

/-- ONE WALK FOR EACH OF THE TWO ORDERS. -/
theorem region {id : Nat} {Q : Exit → Act → World → Prop} {a : Act} {w : World} {l : List Oper} (i0 j0 : Nat) (C : Bool → (Nat → Bool) → World → Prop) (hne : i0 ≠ j0) (hi0 : i0 < l.length) (hm : P.follows .mixedOrders = true) (hB : Region.lexB .any l.toArray = true) (hf : fwd .any l.toArray = true)
    (hC : ∀ β, C β (fun _ => false) w.drew)
    (h : ∀ β, walk P (fun _ _ _ _ => False) (Ord i0 j0 β) l.toArray (C β) (fun a' => ∀ w' d, (∀ i, i < l.length → d i = true) → C β d w' → Q .normal a' w') 0 l a) : (Code.region id l.toArray true).wp P Q a w := by
  simp only [Region.lexB, Bool.and_eq_true] at hB
  have hd : dn (Array.replicate l.toArray.size false) = fun _ => false := by funext i; unfold dn; simp [Array.getElem?_replicate]; split <;> rfl
  refine wp_region_any hm (sound2 hne (C := C) (Q := fun β a' => ∀ w' d, (∀ i, i < l.length → d i = true) → C β d w' → Q .normal a' w') rfl hf (fun β a w d hd hc hq => hq w d (by simpa using hd) hc) (by simpa using hi0) _ _ _ _ (by simp) (by rw [hd]) (by rw [hd]) (fun β => by rw [hd]; exact hC β) (fun β => ?_))
  have := anyL_walk (md := .any) hB.1 l 0 (Array.replicate l.toArray.size false) a (by simp) (by simpa using hB.2) (h β)
  simpa using this
end

section
variable {P : Program} {Cal : FuncId → Array Value → World → (Ending → World → Prop) → Prop} {Pm : Nat → (Nat → Bool) → Prop} {ops : Array Oper} {C : (Nat → Bool) → World → Prop} {Q : Act → Prop} {a : Act} {n : Nat}

def GivesO (P : Program) (Cal : FuncId → Array Value → World → (Ending → World → Prop) → Prop) (Pm : Nat → (Nat → Bool) → Prop) (ops : Array Oper) (C : (Nat → Bool) → World → Prop) (i : Nat) (o : Oper) (v : Value) (ρ : Operand → Value) : Prop :=
  (Region.wanted o (yl ops ρ) = true ∧ ∀ d w, (d i = false ∧ Dep o d ∧ Pm i d) → C d w → Upon Cal (C (mark d i)) v ((execOp ρ o).run P w)) ∨
  (Region.wanted o (yl ops ρ) = false ∧ v = undef ∧ ∀ d w, (d i = false ∧ Dep o d ∧ Pm i d) → C d w → C (mark d i) w)

def walkO (P : Program) (Cal : FuncId → Array Value → World → (Ending → World → Prop) → Prop) (Pm : Nat → (Nat → Bool) → Prop) (ops : Array Oper) (C : (Nat → Bool) → World → Prop) (Q : Act → Prop) (a : Act) (n : Nat) : Nat → List Oper → List (Nat × Value) → Prop
  | _, [], l => Q (ov a l)
  | i, o :: rest, l => ∃ v, GivesO P Cal Pm ops C i o v (look a l) ∧ match o.dst with
    | some d => d < n ∧ walkO P Cal Pm ops C Q a n (i + 1) rest ((d, v) :: l)
    | none => walkO P Cal Pm ops C Q a n (i + 1) rest l

theorem walk_of (hn : a.tmps.size = n) : ∀ (rest : List Oper) (i : Nat) (l : List (Nat × Value)), fits n l → walkO P Cal Pm ops C Q a n i rest l → walk P Cal Pm ops C Q i rest (ov a l)
  | [], _, _, _, h => h
  | o :: rest, i, l, hl, ⟨v, hg, h⟩ => by
    refine ⟨v, ?_, ?_⟩
    · unfold GivesO at hg
      unfold Gives
      rw [← yl_eq, ov_eval hn hl]
      exact hg
    · cases hd : o.dst with
      | none =>
        rw [hd] at h
        exact walk_of hn rest (i + 1) l hl h
      | some d =>
        rw [hd] at h
        exact walk_of hn rest (i + 1) ((d, v) :: l) ⟨h.1, hl⟩ h.2

/-- the walk, begun -/
theorem begin (n : Nat) (hn : a.tmps.size = n) {l : List Oper} (h : walkO P Cal Pm ops C Q a n 0 l []) : walk P Cal Pm ops C Q 0 l a := walk_of hn l 0 [] trivial h

theorem o_pure {i d : Nat} {o : Oper} {rest : List Oper} {l : List (Nat × Value)} (v : Value) (hv : ∀ D w, C D w → (execOp (look a l) o).run P w = .ok (.value v) w) (h : walkO P Cal Pm ops C Q a n (i + 1) rest ((d, v) :: l))
    (hi : ∀ D w, C D w → C (mark D i) w := by exact fun _ _ h => h) (hd : o.dst = some d := by rfl) (hdn : Nat.blt d n = true := by rfl) (hw : Region.wanted o (yl ops (look a l)) = true := by rfl) : walkO P Cal Pm ops C Q a n i (o :: rest) l :=
  ⟨v, .inl ⟨hw, fun D w _ hc => by rw [hv D w hc]; exact ⟨rfl, hi D w hc⟩⟩, by rw [hd]; exact ⟨by simpa [Nat.blt_eq] using hdn, h⟩⟩
theorem o_store {i : Nat} {o : Oper} {rest : List Oper} {l : List (Nat × Value)} (hv : ∀ D w, C D w → ∃ w', (execOp (look a l) o).run P w = .ok .skip w' ∧ C (mark D i) w') (h : walkO P Cal Pm ops C Q a n (i + 1) rest l)
    (hd : o.dst = none := by rfl) (hw : Region.wanted o (yl ops (look a l)) = true := by rfl) : walkO P Cal Pm ops C Q a n i (o :: rest) l :=
  ⟨undef, .inl ⟨hw, fun D w _ hc => by obtain ⟨w', h1, h2⟩ := hv D w hc; rw [h1]; exact ⟨rfl, h2⟩⟩, by rw [hd]; exact h⟩
/-- an operation that turns the world and yields a value -/
theorem o_eff {i d : Nat} {o : Oper} {rest : List Oper} {l : List (Nat × Value)} (v : Value) (hv : ∀ D w, D i = false → Dep o D → Pm i D → C D w → ∃ w', (execOp (look a l) o).run P w = .ok (.value v) w' ∧ C (mark D i) w') (h : walkO P Cal Pm ops C Q a n (i + 1) rest ((d, v) :: l))
    (hd : o.dst = some d := by rfl) (hdn : Nat.blt d n = true := by rfl) (hw : Region.wanted o (yl ops (look a l)) = true := by rfl) : walkO P Cal Pm ops C Q a n i (o :: rest) l :=
  ⟨v, .inl ⟨hw, fun D w h0 hc => by obtain ⟨w', h1, h2⟩ := hv D w h0.1 h0.2.1 h0.2.2 hc; rw [h1]; exact ⟨rfl, h2⟩⟩, by rw [hd]; exact ⟨by simpa [Nat.blt_eq] using hdn, h⟩⟩
/-- a store, what it waits for being known to have come up -/
theorem o_put {i : Nat} {o : Oper} {rest : List Oper} {l : List (Nat × Value)} (hv : ∀ D w, D i = false → Dep o D → Pm i D → C D w → ∃ w', (execOp (look a l) o).run P w = .ok .skip w' ∧ C (mark D i) w') (h : walkO P Cal Pm ops C Q a n (i + 1) rest l)
    (hd : o.dst = none := by rfl) (hw : Region.wanted o (yl ops (look a l)) = true := by rfl) : walkO P Cal Pm ops C Q a n i (o :: rest) l :=
  ⟨undef, .inl ⟨hw, fun D w h0 hc => by obtain ⟨w', h1, h2⟩ := hv D w h0.1 h0.2.1 h0.2.2 hc; rw [h1]; exact ⟨rfl, h2⟩⟩, by rw [hd]; exact h⟩
theorem o_call {i d : Nat} {o : Oper} {rest : List Oper} {l : List (Nat × Value)} (v : Value) (f : FuncId) (args : Array Value) (hv : ∀ D w, C D w → (execOp (look a l) o).run P w = .ok (.enter f args) w)
    (hc : ∀ D w, C D w → Cal f args w (fun e w'' => e = .returned v ∧ C (mark D i) w'')) (h : walkO P Cal Pm ops C Q a n (i + 1) rest ((d, v) :: l))
    (hd : o.dst = some d := by rfl) (hdn : Nat.blt d n = true := by rfl) (hw : Region.wanted o (yl ops (look a l)) = true := by rfl) : walkO P Cal Pm ops C Q a n i (o :: rest) l :=
  ⟨v, .inl ⟨hw, fun D w _ hC => by rw [hv D w hC]; exact hc D w hC⟩, by rw [hd]; exact ⟨by simpa [Nat.blt_eq] using hdn, h⟩⟩
/-- a call that turns the world, once -/
theorem o_callE {i d : Nat} {o : Oper} {rest : List Oper} {l : List (Nat × Value)} (v : Value) (f : FuncId) (args : Array Value) (hv : ∀ D w, C D w → (execOp (look a l) o).run P w = .ok (.enter f args) w)
    (hc : ∀ D w, D i = false → C D w → Cal f args w (fun e w'' => e = .returned v ∧ C (mark D i) w'')) (h : walkO P Cal Pm ops C Q a n (i + 1) rest ((d, v) :: l))
    (hd : o.dst = some d := by rfl) (hdn : Nat.blt d n = true := by rfl) (hw : Region.wanted o (yl ops (look a l)) = true := by rfl) : walkO P Cal Pm ops C Q a n i (o :: rest) l :=
  ⟨v, .inl ⟨hw, fun D w h0 hC => by rw [hv D w hC]; exact hc D w h0.1 hC⟩, by rw [hd]; exact ⟨by simpa [Nat.blt_eq] using hdn, h⟩⟩
theorem o_skip {i d : Nat} {o : Oper} {rest : List Oper} {l : List (Nat × Value)} (h : walkO P Cal Pm ops C Q a n (i + 1) rest ((d, undef) :: l))
    (hi : ∀ D w, C D w → C (mark D i) w := by exact fun _ _ h => h) (hd : o.dst = some d := by rfl) (hdn : Nat.blt d n = true := by rfl) (hw : Region.wanted o (yl ops (look a l)) = false := by rfl) : walkO P Cal Pm ops C Q a n i (o :: rest) l :=
  ⟨undef, .inr ⟨hw, rfl, fun D w _ hc => hi D w hc⟩, by rw [hd]; exact ⟨by simpa [Nat.blt_eq] using hdn, h⟩⟩
theorem o_end {i : Nat} {l : List (Nat × Value)} (h : Q (ov a l)) : walkO P Cal Pm ops C Q a n i [] l := h
end

end Go.Proofs.YtdgcfmfjgidbjaaGreat.lx.two
