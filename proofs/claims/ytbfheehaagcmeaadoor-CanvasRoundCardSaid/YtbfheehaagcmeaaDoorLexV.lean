/-
  A REGION WITHOUT CALLS THAT DRAWS ITS ORDER, WALKED ONCE IN THE ORDER OF THE TEXT, where an operation's value differs from world to world (the drawn bits of a NaN): what it comes to is known to lie in a set.
-/
import Derived.Test.YtbfheehaagcmeaaDoorLexOps
namespace Go.Proofs.YtbfheehaagcmeaaDoor.lexv
open Go Go.Proofs.YtbfheehaagcmeaaDoor.lex

def Upon (C : World → Prop) (V : Value → Prop) : Result Next → Prop
  | .ok (.value u) w' => V u ∧ C w'
  | .ok .skip w' => V undef ∧ C w'
  | _ => False

section
variable {P : Program} {ops : Array Oper} {md : Region.Mode} {C : World → Prop}

def Gives (P : Program) (ops : Array Oper) (C : World → Prop) (o : Oper) (V : Value → Prop) (a : Act) : Prop :=
  (Region.wanted o (yielded ops a.tmps) = true ∧ ∀ w, C w → Upon C V ((execOp a.eval o).run P w)) ∨
  (Region.wanted o (yielded ops a.tmps) = false ∧ V undef)

theorem Upon.out {V : Value → Prop} : ∀ {r : Result Next}, Upon C V r → ∃ u w', (r = .ok (.value u) w' ∨ r = .ok .skip w' ∧ u = undef) ∧ V u ∧ C w'
  | .ok (.value u) w', h => ⟨u, w', .inl rfl, h.1, h.2⟩
  | .ok .skip w', h => ⟨undef, w', .inr ⟨rfl, rfl⟩, h.1, h.2⟩
  | .ok (.defer _) _, h => h.elim
  | .ok (.enter _ _) _, h => h.elim
  | .ok (.row _ _) _, h => h.elim
  | .ok (.round _ _ _ _ _) _, h => h.elim
  | .halt _ _, h => h.elim
theorem Upon.all {ι : Value → Prop} {U : Value → Value → Prop} {v0 : Value} (h0 : ι v0) {r : Result Next} (h : ∀ v, ι v → Upon C (U v) r) : Upon C (fun u => ∀ v, ι v → U v u) r := by
  obtain ⟨u, w', hr, -, hc⟩ := (h v0 h0).out
  rcases hr with rfl | ⟨rfl, rfl⟩
  · exact ⟨fun v hv => (h v hv).1, hc⟩
  · exact ⟨fun v hv => (h v hv).1, hc⟩
theorem Gives.some {o : Oper} {V : Value → Prop} {a : Act} (hC : ∃ w, C w) (h : Gives P ops C o V a) : ∃ v, V v := by
  rcases h with ⟨-, h⟩ | ⟨-, h⟩
  · obtain ⟨w, hw⟩ := hC
    obtain ⟨u, -, -, hu, -⟩ := (h w hw).out
    exact ⟨u, hu⟩
  · exact ⟨undef, h⟩
theorem Gives.of_same {o : Oper} {V : Value → Prop} {a a' : Act} (hy : Gives P ops C o V a) (he : execOp a'.eval o = execOp a.eval o)
    (hw : Region.wanted o (yielded ops a'.tmps) = Region.wanted o (yielded ops a.tmps)) : Gives P ops C o V a' := by
  unfold Gives at *
  rw [he, hw]
  exact hy

def opL (P : Program) (ops : Array Oper) (C : World → Prop) (i : Nat) (K : Act → Prop) (a : Act) : Prop :=
  match ops[i]? with
  | none => K a
  | some o => ∃ V, Gives P ops C o V a ∧ ∀ v, V v → K (a.put o.dst v)

def anyL (P : Program) (md : Region.Mode) (ops : Array Oper) (C : World → Prop) (Q : Act → Prop) : Nat → Array Bool → Act → Prop
  | 0, listed, a => Region.ready md ops listed = [] ∧ Q a
  | fuel + 1, listed, a => (Region.ready md ops listed = [] → Q a) ∧ ∀ i ∈ Region.ready md ops listed, opL P ops C i (anyL P md ops C Q fuel (listed.setIfInBounds i true)) a

def walk (P : Program) (ops : Array Oper) (C : World → Prop) (Q : Act → Prop) : List Oper → Act → Prop
  | [], a => Q a
  | o :: rest, a => ∃ V, Gives P ops C o V a ∧ ∀ v, V v → walk P ops C Q rest (a.put o.dst v)

theorem opL_mono {i : Nat} {a : Act} {K K' : Act → Prop} (h : ∀ a, K a → K' a) (hh : opL P ops C i K a) : opL P ops C i K' a := by
  unfold opL at *
  split
  · rename_i ho; simp only [ho] at hh; exact h _ hh
  · rename_i o ho
    simp only [ho] at hh
    obtain ⟨V, h1, h2⟩ := hh
    exact ⟨V, h1, fun v hv => h _ (h2 v hv)⟩

theorem opL_put (hC : ∃ w, C w) {j : Nat} {oi oj : Oper} {V : Value → Prop} (hj : ops[j]? = some oj) (hap : oi.apart ops oj = true)
    (hsi : ∀ cs b, oi.op ≠ .select cs b) (hsj : ∀ cs b, oj.op ≠ .select cs b) {K : Act → Prop} {a : Act}
    (hy : Gives P ops C oi V a) (h : ∀ v, V v → opL P ops C j K (a.put oi.dst v)) :
    opL P ops C j (fun a' => Gives P ops C oi V a' ∧ ∀ v, V v → K (a'.put oi.dst v)) a := by
  obtain ⟨h1, h2, h3⟩ := Oper.apart_spec hap
  obtain ⟨v0, hv0⟩ := hy.some hC
  have hall : ∀ v, V v → ∃ U, Gives P ops C oj U a ∧ ∀ u, U u → K ((a.put oi.dst v).put oj.dst u) := by
    intro v hv
    have hh := h v hv
    unfold opL at hh
    simp only [hj] at hh
    obtain ⟨U, hu, hn⟩ := hh
    exact ⟨U, hu.of_same (execOp_put oj hsj a oi.dst v h1).symm (wanted_put oj a oi.dst v h1).symm, hn⟩
  have hG : Gives P ops C oj (fun u => ∀ v, V v → K ((a.put oi.dst v).put oj.dst u)) a := by
    obtain ⟨U0, hu0, -⟩ := hall v0 hv0
    rcases hu0 with ⟨hw, -⟩ | ⟨hw, -⟩
    · refine .inl ⟨hw, fun w hc => Upon.all hv0 fun v hv => ?_⟩
      obtain ⟨U, hu, hn⟩ := hall v hv
      rcases hu with ⟨-, hu⟩ | ⟨hw', -⟩
      · obtain ⟨u, w', hr, h4, h5⟩ := (hu w hc).out
        rcases hr with hr | ⟨hr, rfl⟩
        · rw [hr]; exact ⟨hn _ h4, h5⟩
        · rw [hr]; exact ⟨hn _ h4, h5⟩
      · rw [hw] at hw'; cases hw'
    · refine .inr ⟨hw, fun v hv => ?_⟩
      obtain ⟨U, hu, hn⟩ := hall v hv
      rcases hu with ⟨hw', -⟩ | ⟨-, hu⟩
      · rw [hw] at hw'; cases hw'
      · exact hn _ hu
  unfold opL
  simp only [hj]
  refine ⟨_, hG, fun u hu => ⟨hy.of_same (execOp_put oi hsi a oj.dst u h3) (wanted_put oi a oj.dst u h3), fun v hv => ?_⟩⟩
  rw [← Act.put_comm a v u h2]
  exact hu v hv

theorem opL_of {i : Nat} {o : Oper} {V : Value → Prop} {a : Act} {K : Act → Prop} (hi : ops[i]? = some o) (hy : Gives P ops C o V a) (h : ∀ v, V v → K (a.put o.dst v)) : opL P ops C i K a := by
  unfold opL
  simp only [hi]
  exact ⟨V, hy, h⟩

theorem anyL_first (hC : ∃ w, C w) {Q : Act → Prop} {i : Nat} {oi : Oper} {V : Value → Prop} (hi : ops[i]? = some oi) (hsel : ∀ (j : Nat) (o : Oper) cs b, ops[j]? = some o → o.op ≠ .select cs b) :
    ∀ (fuel : Nat) (listed : Array Bool) (a : Act),
      (∀ j oj, ops[j]? = some oj → j ≠ i → listed.getD j true = false → (∀ e ∈ oj.after, Region.binds md e = true → e.on ≠ i) → oi.apart ops oj = true) →
      i ∈ Region.ready md ops listed → Gives P ops C oi V a →
      (∀ v, V v → anyL P md ops C Q fuel (listed.setIfInBounds i true) (a.put oi.dst v)) → anyL P md ops C Q (fuel + 1) listed a := by
  intro fuel
  induction fuel with
  | zero =>
    intro listed a _ hr hy H
    refine ⟨fun h => absurd hr (by rw [h]; simp), fun j hj => ?_⟩
    rcases Decidable.em (j = i) with e | hne
    · subst e; exact opL_of hi hy H
    · have := ready_mono hj hne
      obtain ⟨v0, hv0⟩ := hy.some hC
      rw [(H v0 hv0).1] at this
      simp at this
  | succ fuel ih =>
    intro listed a hfree hr hy H
    refine ⟨fun h => absurd hr (by rw [h]; simp), fun j hj => ?_⟩
    rcases Decidable.em (j = i) with e | hne
    · subst e; exact opL_of hi hy H
    · obtain ⟨hjun, oj, hoj, hall⟩ := mem_ready.1 hj
      have hiun := (mem_ready.1 hr).1
      have hnot : ∀ e ∈ oj.after, Region.binds md e = true → e.on ≠ i := by
        intro e he hb heq
        have h1 := hall e he hb
        rw [heq] at h1
        by_cases hlt : i < listed.size
        · simp [hlt] at hiun h1
          rw [hiun] at h1
          cases h1
        · simp [Array.getElem?_eq_none (Nat.le_of_not_lt hlt)] at h1
      have h2 := opL_put hC hoj (hfree j oj hoj hne hjun hnot) (fun cs b => hsel i oi cs b hi) (fun cs b => hsel j oj cs b hoj) hy (fun v hv => (H v hv).2 j (ready_mono hj hne))
      refine opL_mono (fun a' h3 => ih (listed.setIfInBounds j true) a' ?_ (ready_mono hr (Ne.symm hne)) h3.1 ?_) h2
      · intro k ok hk hki hun hno
        refine hfree k ok hk hki ?_ hno
        rcases Decidable.em (j = k) with e | hjk
        · subst e; exact hjun
        · rwa [getD_set_ne true hjk] at hun
      · intro v hv
        rw [Array.setIfInBounds_comm _ _ hne]
        exact h3.2 v hv

theorem anyL_walk (hC : ∃ w, C w) {Q : Act → Prop} (hs : Region.noSelect ops = true) : ∀ (l : List Oper) (k : Nat) (listed : Array Bool) (a : Act), (∀ j, l[j]? = ops[k + j]?) →
    Region.lexFrom md ops l.length k listed = true → walk P ops C Q l a → anyL P md ops C Q l.length listed a
  | [], _, _, _, _, hB, h => ⟨by simpa [Region.lexFrom] using hB, h⟩
  | o :: l, k, listed, a, hl, hB, h => by
    have h0 : ops[k]? = some o := by simpa using (hl 0).symm
    simp only [List.length_cons, Region.lexFrom, Bool.and_eq_true] at hB
    obtain ⟨⟨hr, hf⟩, hB'⟩ := hB
    obtain ⟨V, hy, hK⟩ := h
    exact anyL_first hC h0 (Region.noSelect_spec hs) l.length listed a (Region.free_spec h0 hf) (by simpa using hr) hy
      (fun v hv => anyL_walk hC hs l (k + 1) _ _ (fun j => by have := hl (j + 1); simpa [Nat.add_assoc, Nat.add_comm 1 j] using this) hB' (hK v hv))

theorem sound {Q : Act → Prop} {Q' : Exit → Act → World → Prop} (hQ : ∀ a w, C w → Q a → Q' .normal a w) : ∀ (fuel : Nat) (listed : Array Bool) (a : Act) (w : World),
    C w → anyL P md ops C Q fuel listed a → wpAny P md ops Q' fuel listed a w
  | 0, listed, a, w, hc, h => ⟨h.1, hQ _ _ hc h.2⟩
  | fuel + 1, listed, a, w, hc, h => by
    refine ⟨fun h0 => hQ _ _ hc (h.1 h0), fun i hi => ?_⟩
    have hop := h.2 i hi
    have next : ∀ a' w', C w' → anyL P md ops C Q fuel (listed.setIfInBounds i true) a' → wpAny P md ops Q' fuel (listed.setIfInBounds i true) a' w' := fun a' w' hc' h' =>
      sound hQ fuel _ a' w' hc' h'
    unfold opL at hop
    unfold wpOp
    split
    · rename_i ho
      simp only [ho] at hop
      exact next _ _ hc hop
    · rename_i o ho
      simp only [ho] at hop
      obtain ⟨V, hg, hk⟩ := hop
      rcases hg with ⟨hw, hv⟩ | ⟨hw, hv⟩
      · simp only [hw, if_true]
        left
        obtain ⟨u, w', hr, h4, h5⟩ := (hv w hc).out
        unfold Oper.wp
        rcases hr with hr | ⟨hr, rfl⟩
        · rw [hr]; exact next _ _ h5 (hk _ h4)
        · rw [hr]; exact next _ _ h5 (hk _ h4)
      · simp only [hw, Bool.false_eq_true, if_false]
        exact next _ _ hc (hk _ hv)

/-- ONE WALK IN THE ORDER OF THE TEXT. -/
theorem region {id : Nat} {Q : Exit → Act → World → Prop} {a : Act} {w : World} {l : List Oper} (C : World → Prop) (hm : P.follows .mixedOrders = true) (hB : Region.lexB .any l.toArray = true)
    (hC : C w.drew) (h : walk P l.toArray C (fun a' => ∀ w', C w' → Q .normal a' w') l a) : (Code.region id l.toArray true).wp P Q a w := by
  simp only [Region.lexB, Bool.and_eq_true] at hB
  refine wp_region_any hm (sound (C := C) (Q := fun a' => ∀ w', C w' → Q .normal a' w') (fun a w hc hq => hq w hc) _ _ _ _ hC ?_)
  have := anyL_walk (md := .any) ⟨_, hC⟩ hB.1 l 0 (Array.replicate l.toArray.size false) a (by simp) (by simpa using hB.2) h
  simpa using this
end

section
variable {P : Program} {ops : Array Oper} {C : World → Prop} {Q : Act → Prop} {a : Act} {n : Nat}

def GivesO (P : Program) (ops : Array Oper) (C : World → Prop) (o : Oper) (V : Value → Prop) (ρ : Operand → Value) : Prop :=
  (Region.wanted o (yl ops ρ) = true ∧ ∀ w, C w → Upon C V ((execOp ρ o).run P w)) ∨
  (Region.wanted o (yl ops ρ) = false ∧ V undef)

def walkO (P : Program) (ops : Array Oper) (C : World → Prop) (Q : Act → Prop) (a : Act) (n : Nat) : List Oper → List (Nat × Value) → Prop
  | [], l => Q (ov a l)
  | o :: rest, l => ∃ V, GivesO P ops C o V (lex.look a l) ∧ match o.dst with
    | some d => d < n ∧ ∀ v, V v → walkO P ops C Q a n rest ((d, v) :: l)
    | none => walkO P ops C Q a n rest l

theorem walk_of (hn : a.tmps.size = n) : ∀ (rest : List Oper) (l : List (Nat × Value)), fits n l → walkO P ops C Q a n rest l → walk P ops C Q rest (ov a l)
  | [], _, _, h => h
  | o :: rest, l, hl, ⟨V, hg, h⟩ => by
    refine ⟨V, ?_, fun v hv => ?_⟩
    · unfold GivesO at hg
      unfold Gives
      rw [← yl_eq, ov_eval hn hl]
      exact hg
    · cases hd : o.dst with
      | none =>
        rw [hd] at h
        exact walk_of hn rest l hl h
      | some d =>
        rw [hd] at h
        exact walk_of hn rest ((d, v) :: l) ⟨h.1, hl⟩ (h.2 v hv)

theorem begin (n : Nat) (hn : a.tmps.size = n) {l : List Oper} (h : walkO P ops C Q a n l []) : walk P ops C Q l a := walk_of hn l [] trivial h

theorem o_pure {d : Nat} {o : Oper} {rest : List Oper} {l : List (Nat × Value)} (v : Value) (hv : ∀ w, C w → (execOp (lex.look a l) o).run P w = .ok (.value v) w) (h : walkO P ops C Q a n rest ((d, v) :: l))
    (hd : o.dst = some d := by rfl) (hdn : Nat.blt d n = true := by rfl) (hw : Region.wanted o (yl ops (lex.look a l)) = true := by rfl) : walkO P ops C Q a n (o :: rest) l :=
  ⟨fun u => u = v, .inl ⟨hw, fun w hc => by rw [hv w hc]; exact ⟨rfl, hc⟩⟩, by rw [hd]; exact ⟨by simpa [Nat.blt_eq] using hdn, fun _ e => e ▸ h⟩⟩
theorem o_val {d : Nat} {o : Oper} {rest : List Oper} {l : List (Nat × Value)} (V : Value → Prop) (hv : ∀ w, C w → ∃ v w', (execOp (lex.look a l) o).run P w = .ok (.value v) w' ∧ V v ∧ C w') (h : ∀ v, V v → walkO P ops C Q a n rest ((d, v) :: l))
    (hd : o.dst = some d := by rfl) (hdn : Nat.blt d n = true := by rfl) (hw : Region.wanted o (yl ops (lex.look a l)) = true := by rfl) : walkO P ops C Q a n (o :: rest) l :=
  ⟨V, .inl ⟨hw, fun w hc => by obtain ⟨v, w', h1, h2, h3⟩ := hv w hc; rw [h1]; exact ⟨h2, h3⟩⟩, by rw [hd]; exact ⟨by simpa [Nat.blt_eq] using hdn, h⟩⟩
theorem o_skip {d : Nat} {o : Oper} {rest : List Oper} {l : List (Nat × Value)} (h : walkO P ops C Q a n rest ((d, undef) :: l))
    (hd : o.dst = some d := by rfl) (hdn : Nat.blt d n = true := by rfl) (hw : Region.wanted o (yl ops (lex.look a l)) = false := by rfl) : walkO P ops C Q a n (o :: rest) l :=
  ⟨fun u => u = undef, .inr ⟨hw, rfl⟩, by rw [hd]; exact ⟨by simpa [Nat.blt_eq] using hdn, fun _ e => e ▸ h⟩⟩
theorem o_end_at {l : List (Nat × Value)} (b : Act) (hb : ov a l = b) (h : Q b) : walkO P ops C Q a n [] l := by subst hb; exact h
end
end Go.Proofs.YtbfheehaagcmeaaDoor.lexv
