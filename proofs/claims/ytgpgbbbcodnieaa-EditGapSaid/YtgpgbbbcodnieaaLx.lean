/-
  XLex, and what an operation waits for is known to have come up when it comes up (XLex cannot tell: a store into what the region itself makes).
-/
import Derived.Still
import Derived.IntWalk
import Derived.OrdersIn
import Derived.WalkKit
namespace Go.Proofs.Ytgpgbbbcodnieaa.lx
open Go

def mark (d : Nat → Bool) (i : Nat) : Nat → Bool := fun j => j == i || d j

/-- what an operation waits for has come up -/
def Dep (o : Oper) (d : Nat → Bool) : Prop := ∀ e ∈ o.after, Region.binds .any e = true → d e.on = true
def Upon (Cal : FuncId → Array Value → World → (Ending → World → Prop) → Prop) (R : World → Prop) (v : Value) : Result Next → Prop
  | .ok (.value u) w' => u = v ∧ R w'
  | .ok .skip w' => v = undef ∧ R w'
  | .ok (.enter f args) w' => Cal f args w' (fun e w'' => e = .returned v ∧ R w'')
  | _ => False

section
variable {P : Program} {Cal : FuncId → Array Value → World → (Ending → World → Prop) → Prop} {ops : Array Oper} {md : Region.Mode} {C : (Nat → Bool) → World → Prop}

def Gives (P : Program) (Cal : FuncId → Array Value → World → (Ending → World → Prop) → Prop) (ops : Array Oper) (C : (Nat → Bool) → World → Prop) (i : Nat) (o : Oper) (v : Value) (a : Act) : Prop :=
  (Region.wanted o (yielded ops a.tmps) = true ∧ ∀ d w, (d i = false ∧ Dep o d) → C d w → Upon Cal (C (mark d i)) v ((execOp a.eval o).run P w)) ∨
  (Region.wanted o (yielded ops a.tmps) = false ∧ v = undef ∧ ∀ d w, (d i = false ∧ Dep o d) → C d w → C (mark d i) w)

theorem Gives.of_same {i : Nat} {o : Oper} {v : Value} {a a' : Act} (hy : Gives P Cal ops C i o v a) (he : execOp a'.eval o = execOp a.eval o)
    (hw : Region.wanted o (yielded ops a'.tmps) = Region.wanted o (yielded ops a.tmps)) : Gives P Cal ops C i o v a' := by
  unfold Gives at *
  rw [he, hw]
  exact hy

def opL (P : Program) (Cal : FuncId → Array Value → World → (Ending → World → Prop) → Prop) (ops : Array Oper) (C : (Nat → Bool) → World → Prop) (i : Nat) (K : Act → Prop) (a : Act) : Prop :=
  match ops[i]? with
  | none => K a
  | some o => ∃ v, Gives P Cal ops C i o v a ∧ K (a.put o.dst v)

def anyL (P : Program) (Cal : FuncId → Array Value → World → (Ending → World → Prop) → Prop) (md : Region.Mode) (ops : Array Oper) (C : (Nat → Bool) → World → Prop) (Q : Act → Prop) : Nat → Array Bool → Act → Prop
  | 0, listed, a => Region.ready md ops listed = [] ∧ Q a
  | fuel + 1, listed, a => (Region.ready md ops listed = [] → Q a) ∧ ∀ i ∈ Region.ready md ops listed, opL P Cal ops C i (anyL P Cal md ops C Q fuel (listed.setIfInBounds i true)) a

/-- the walk in the order of the text -/
def walk (P : Program) (Cal : FuncId → Array Value → World → (Ending → World → Prop) → Prop) (ops : Array Oper) (C : (Nat → Bool) → World → Prop) (Q : Act → Prop) : Nat → List Oper → Act → Prop
  | _, [], a => Q a
  | i, o :: rest, a => ∃ v, Gives P Cal ops C i o v a ∧ walk P Cal ops C Q (i + 1) rest (a.put o.dst v)

/-- one operation of that walk -/
theorem at_pure {Q : Act → Prop} {i : Nat} {o : Oper} {rest : List Oper} {a : Act} (v : Value) (hw : Region.wanted o (yielded ops a.tmps) = true) (hi : ∀ d w, C d w → C (mark d i) w)
    (hv : ∀ d w, C d w → (execOp a.eval o).run P w = .ok (.value v) w) (h : walk P Cal ops C Q (i + 1) rest (a.put o.dst v)) : walk P Cal ops C Q i (o :: rest) a :=
  ⟨v, .inl ⟨hw, fun d w _ hc => by rw [hv d w hc]; exact ⟨rfl, hi d w hc⟩⟩, h⟩
theorem at_store {Q : Act → Prop} {i : Nat} {o : Oper} {rest : List Oper} {a : Act} (hw : Region.wanted o (yielded ops a.tmps) = true)
    (hv : ∀ d w, C d w → ∃ w', (execOp a.eval o).run P w = .ok .skip w' ∧ C (mark d i) w') (h : walk P Cal ops C Q (i + 1) rest (a.put o.dst undef)) : walk P Cal ops C Q i (o :: rest) a :=
  ⟨undef, .inl ⟨hw, fun d w _ hc => by obtain ⟨w', h1, h2⟩ := hv d w hc; rw [h1]; exact ⟨rfl, h2⟩⟩, h⟩
theorem at_call {Q : Act → Prop} {i : Nat} {o : Oper} {rest : List Oper} {a : Act} (v : Value) (f : FuncId) (args : Array Value) (hw : Region.wanted o (yielded ops a.tmps) = true)
    (hv : ∀ d w, C d w → (execOp a.eval o).run P w = .ok (.enter f args) w) (hc : ∀ d w, C d w → Cal f args w (fun e w'' => e = .returned v ∧ C (mark d i) w''))
    (h : walk P Cal ops C Q (i + 1) rest (a.put o.dst v)) : walk P Cal ops C Q i (o :: rest) a :=
  ⟨v, .inl ⟨hw, fun d w _ hC => by rw [hv d w hC]; exact hc d w hC⟩, h⟩
theorem at_skip {Q : Act → Prop} {i : Nat} {o : Oper} {rest : List Oper} {a : Act} (hw : Region.wanted o (yielded ops a.tmps) = false) (hi : ∀ d w, C d w → C (mark d i) w)
    (h : walk P Cal ops C Q (i + 1) rest (a.put o.dst undef)) : walk P Cal ops C Q i (o :: rest) a :=
  ⟨undef, .inr ⟨hw, rfl, fun d w _ hc => hi d w hc⟩, h⟩
theorem at_end {Q : Act → Prop} {i : Nat} {a : Act} (h : Q a) : walk P Cal ops C Q i [] a := h

theorem opL_mono {i : Nat} {a : Act} {K K' : Act → Prop} (h : ∀ a, K a → K' a) (hh : opL P Cal ops C i K a) : opL P Cal ops C i K' a := by
  unfold opL at *
  split
  · rename_i ho; simp only [ho] at hh; exact h _ hh
  · rename_i o ho
    simp only [ho] at hh
    obtain ⟨v, h1, h2⟩ := hh
    exact ⟨v, h1, h _ h2⟩

theorem opL_put {i j : Nat} {oi oj : Oper} {v : Value} (hj : ops[j]? = some oj) (hap : oi.apart ops oj = true)
    (hsi : ∀ cs b, oi.op ≠ .select cs b) (hsj : ∀ cs b, oj.op ≠ .select cs b) {K : Act → Prop} {a : Act}
    (hy : Gives P Cal ops C i oi v a) (h : opL P Cal ops C j K (a.put oi.dst v)) :
    opL P Cal ops C j (fun a' => Gives P Cal ops C i oi v a' ∧ K (a'.put oi.dst v)) a := by
  obtain ⟨h1, h2, h3⟩ := Oper.apart_spec hap
  unfold opL at *
  simp only [hj] at *
  obtain ⟨u, hu, hn⟩ := h
  refine ⟨u, hu.of_same (execOp_put oj hsj a oi.dst v h1).symm (wanted_put oj a oi.dst v h1).symm, hy.of_same (execOp_put oi hsi a oj.dst u h3) (wanted_put oi a oj.dst u h3), ?_⟩
  rw [← Act.put_comm a v u h2]
  exact hn

theorem opL_of {i : Nat} {o : Oper} {v : Value} {a : Act} {K : Act → Prop} (hi : ops[i]? = some o) (hy : Gives P Cal ops C i o v a) (h : K (a.put o.dst v)) : opL P Cal ops C i K a := by
  unfold opL
  simp only [hi]
  exact ⟨v, hy, h⟩

theorem anyL_first {Q : Act → Prop} {i : Nat} {oi : Oper} {v : Value} (hi : ops[i]? = some oi) (hsel : ∀ (j : Nat) (o : Oper) cs b, ops[j]? = some o → o.op ≠ .select cs b) :
    ∀ (fuel : Nat) (listed : Array Bool) (a : Act),
      (∀ j oj, ops[j]? = some oj → j ≠ i → listed.getD j true = false → (∀ e ∈ oj.after, Region.binds md e = true → e.on ≠ i) → oi.apart ops oj = true) →
      i ∈ Region.ready md ops listed → Gives P Cal ops C i oi v a →
      anyL P Cal md ops C Q fuel (listed.setIfInBounds i true) (a.put oi.dst v) → anyL P Cal md ops C Q (fuel + 1) listed a := by
  intro fuel
  induction fuel with
  | zero =>
    intro listed a _ hr hy H
    refine ⟨fun h => absurd hr (by rw [h]; simp), fun j hj => ?_⟩
    rcases Decidable.em (j = i) with e | hne
    · subst e; exact opL_of hi hy H
    · have := ready_mono hj hne
      rw [H.1] at this
      simp at this
  | succ fuel ih =>
    intro listed a hfree hr hy H
    refine ⟨fun h => absurd hr (by rw [h]; simp), fun j hj => ?_⟩
    rcases Decidable.em (j = i) with e | hne
    · subst e; exact opL_of hi hy H
    · obtain ⟨hjun, oj, hoj, hall⟩ := mem_ready.1 hj
      have hiun := (mem_ready.1 hr).1
      have hnot : ∀ e ∈ oj.after, Region.binds md e = true → e.on ≠ i := by
        intro e he hb heq
        have h1 := hall e he hb
        rw [heq] at h1
        by_cases hlt : i < listed.size
        · simp [hlt] at hiun h1
          rw [hiun] at h1
          cases h1
        · simp [Array.getElem?_eq_none (Nat.le_of_not_lt hlt)] at h1
      have h2 := opL_put hoj (hfree j oj hoj hne hjun hnot) (fun cs b => hsel i oi cs b hi) (fun cs b => hsel j oj cs b hoj) hy (H.2 j (ready_mono hj hne))
      refine opL_mono (fun a' h3 => ih (listed.setIfInBounds j true) a' ?_ (ready_mono hr (Ne.symm hne)) h3.1 ?_) h2
      · intro k ok hk hki hun hno
        refine hfree k ok hk hki ?_ hno
        rcases Decidable.em (j = k) with e | hjk
        · subst e; exact hjun
        · rwa [getD_set_ne true hjk] at hun
      · rw [Array.setIfInBounds_comm _ _ hne]
        exact h3.2

theorem anyL_walk {Q : Act → Prop} (hs : Region.noSelect ops = true) : ∀ (l : List Oper) (k : Nat) (listed : Array Bool) (a : Act), (∀ j, l[j]? = ops[k + j]?) →
    Region.lexFrom md ops l.length k listed = true → walk P Cal ops C Q k l a → anyL P Cal md ops C Q l.length listed a
  | [], _, _, _, _, hB, h => ⟨by simpa [Region.lexFrom] using hB, h⟩
  | o :: l, k, listed, a, hl, hB, h => by
    have h0 : ops[k]? = some o := by simpa using (hl 0).symm
    simp only [List.length_cons, Region.lexFrom, Bool.and_eq_true] at hB
    obtain ⟨⟨hr, hf⟩, hB'⟩ := hB
    obtain ⟨v, hy, hK⟩ := h
    exact anyL_first h0 (Region.noSelect_spec hs) l.length listed a (Region.free_spec h0 hf) (by simpa using hr) hy
      (anyL_walk hs l (k + 1) _ _ (fun j => by have := hl (j + 1); simpa [Nat.add_assoc, Nat.add_comm 1 j] using this) hB' hK)

/-- every edge leads back -/
def fwd (md : Region.Mode) (ops : Array Oper) : Bool := (List.range ops.size).all fun j => match ops[j]? with | some o => o.after.toList.all (fun e => !Region.binds md e || decide (e.on < j)) | none => true
def dn (listed : Array Bool) : Nat → Bool := fun i => listed.getD i false

theorem all_done (hf : fwd md ops = true) {listed : Array Bool} (hs : listed.size = ops.size) (hr : Region.ready md ops listed = []) : ∀ i, i < ops.size → dn listed i = true := by
  intro i
  induction i using Nat.strongRecOn with
  | _ i ih =>
    intro hi
    rcases Bool.eq_false_or_eq_true (dn listed i) with h | h
    · exact h
    · exfalso
      have hmem : i ∈ Region.ready md ops listed := by
        refine mem_ready.2 ⟨?_, ops[i], Array.getElem?_eq_getElem hi, ?_⟩
        · have : i < listed.size := by omega
          simpa [dn, this] using h
        · intro e he hb
          unfold fwd at hf
          have h1 := List.all_eq_true.1 hf i (by simpa using hi)
          rw [Array.getElem?_eq_getElem hi] at h1
          have h2 := List.all_eq_true.1 h1 e (by simpa using he)
          rw [hb] at h2
          have h3 : e.on < i := by simpa using h2
          exact ih e.on h3 (by omega)
      rw [hr] at hmem
      simp at hmem

theorem dn_mark {listed : Array Bool} {i : Nat} (h : i < listed.size) : dn (listed.setIfInBounds i true) = mark (dn listed) i := by
  funext j
  unfold dn mark
  by_cases e : j = i
  · subst e; simp [h]
  · have : (j == i) = false := by simpa using e
    simp [this, Array.getElem?_setIfInBounds_ne (Ne.symm e)]

theorem ready_un {i : Nat} {listed : Array Bool} (hmd : md = .any) (hs : listed.size = ops.size) (h : i ∈ Region.ready md ops listed) : i < listed.size ∧ dn listed i = false ∧ ∀ o, ops[i]? = some o → Dep o (dn listed) := by
  subst hmd
  obtain ⟨h0, o, ho, hdep⟩ := mem_ready.1 h
  have hi : i < listed.size := by rw [hs]; exact (Array.getElem?_eq_some_iff.1 ho).1
  refine ⟨hi, by simpa [dn, hi] using h0, fun o' ho' => ?_⟩
  obtain rfl : o = o' := Option.some.inj (ho.symm.trans ho')
  exact hdep
end

section
variable {P : Program} {ops : Array Oper} {md : Region.Mode} {C : (Nat → Bool) → World → Prop}

theorem sound {Q : Act → Prop} {Q' : Exit → Act → World → Prop} (hmd : md = .any) (hf : fwd md ops = true) (hQ : ∀ a w d, (∀ i, i < ops.size → d i = true) → C d w → Q a → Q' .normal a w) : ∀ (fuel : Nat) (listed : Array Bool) (a : Act) (w : World),
    listed.size = ops.size → C (dn listed) w → anyL P (Calls P) md ops C Q fuel listed a → wpAny P md ops Q' fuel listed a w
  | 0, listed, a, w, hs, hc, h => ⟨h.1, hQ _ _ _ (all_done hf hs h.1) hc h.2⟩
  | fuel + 1, listed, a, w, hs, hc, h => by
    refine ⟨fun h0 => hQ _ _ _ (all_done hf hs h0) hc (h.1 h0), fun i hi => ?_⟩
    have hop := h.2 i hi
    obtain ⟨hil, hun0, hdp⟩ := ready_un hmd hs hi
    have next : ∀ a' w', C (mark (dn listed) i) w' → anyL P (Calls P) md ops C Q fuel (listed.setIfInBounds i true) a' → wpAny P md ops Q' fuel (listed.setIfInBounds i true) a' w' := fun a' w' hc' h' =>
      sound hmd hf hQ fuel _ a' w' (by simpa using hs) (by rw [dn_mark hil]; exact hc') h'
    unfold opL at hop
    unfold wpOp
    split
    · rename_i ho
      have := (Array.getElem?_eq_none_iff.1 ho)
      omega
    · rename_i o ho
      simp only [ho] at hop
      obtain ⟨v, hg, hk⟩ := hop
      rcases hg with ⟨hw, hv⟩ | ⟨hw, rfl, hv⟩
      · simp only [hw, if_true]
        left
        have h3 := hv _ w ⟨hun0, hdp _ ho⟩ hc
        unfold Oper.wp
        generalize (execOp a.eval o).run P w = r at *
        cases r with
        | ok x w' =>
          cases x <;> simp only [Upon] at h3 <;> simp only [Oper.upon]
          case value u => obtain ⟨rfl, h4⟩ := h3; exact next _ _ h4 hk
          case skip => obtain ⟨rfl, h4⟩ := h3; exact next _ _ h4 hk
          case enter f args => exact Calls.mono h3 fun e w'' ⟨he, h4⟩ => by subst he; exact next _ _ h4 hk
        | halt x w' => simp only [Upon] at h3
      · simp only [hw, Bool.false_eq_true, if_false]
        exact next _ _ (hv _ w ⟨hun0, hdp _ ho⟩ hc) hk

/-- ONE WALK IN THE ORDER OF THE TEXT. -/
theorem region {id : Nat} {Q : Exit → Act → World → Prop} {a : Act} {w : World} {l : List Oper} (C : (Nat → Bool) → World → Prop) (hm : P.follows .mixedOrders = true) (hB : Region.lexB .any l.toArray = true) (hf : fwd .any l.toArray = true)
    (hC : C (fun _ => false) w.drew)
    (h : walk P (Calls P) l.toArray C (fun a' => ∀ w' d, (∀ i, i < l.length → d i = true) → C d w' → Q .normal a' w') 0 l a) : (Code.region id l.toArray true).wp P Q a w := by
  simp only [Region.lexB, Bool.and_eq_true] at hB
  refine wp_region_any hm (sound (C := C) (Q := fun a' => ∀ w' d, (∀ i, i < l.length → d i = true) → C d w' → Q .normal a' w') rfl hf (fun a w d hd hc hq => hq w d (by simpa using hd) hc) _ _ _ _ (by simp) ?_ ?_)
  · have : dn (Array.replicate l.toArray.size false) = fun _ => false := by funext i; unfold dn; simp [Array.getElem?_replicate]; split <;> rfl
    rw [this]; exact hC
  · have := anyL_walk (md := .any) hB.1 l 0 (Array.replicate l.toArray.size false) a (by simp) (by simpa using hB.2) h
    simpa using this
end

/-- a frame with some slots written over, the newest first -/
def ov (a : Act) : List (Nat × Value) → Act
  | [] => a
  | (d, v) :: l => (ov a l).put (some d) v
def lk : List (Nat × Value) → Nat → Value → Value
  | [], _, z => z
  | (d, v) :: l, t, z => bif Nat.beq d t then v else lk l t z
def look (a : Act) (l : List (Nat × Value)) : Operand → Value
  | .tmp t => lk l t (a.tmps.getD t undef)
  | x => a.eval x
def fits (n : Nat) : List (Nat × Value) → Prop
  | [] => True
  | (d, _) :: l => d < n ∧ fits n l

theorem ov_size (a : Act) : ∀ l, (ov a l).tmps.size = a.tmps.size
  | [] => rfl
  | (d, v) :: l => by simp [ov, Act.put, ov_size a l]
theorem ov_get {a : Act} {n : Nat} (hn : a.tmps.size = n) (t : Nat) : ∀ l, fits n l → (ov a l).tmps.getD t undef = lk l t (a.tmps.getD t undef)
  | [], _ => rfl
  | (d, v) :: l, ⟨hd, hl⟩ => by
    have hs := ov_size a l
    show ((ov a l).tmps.setIfInBounds d v).getD t undef = bif Nat.beq d t then v else lk l t _
    by_cases e : d = t
    · subst e
      have : Nat.beq d d = true := by simp
      rw [this]
      simp [show d < (ov a l).tmps.size by omega]
    · have : Nat.beq d t = false := by rw [Bool.eq_false_iff]; exact fun h => e (Nat.eq_of_beq_eq_true h)
      rw [this, cond_false, ← ov_get hn t l hl]
      simp [Array.getElem?_setIfInBounds_ne e]
theorem ov_eval {a : Act} {n : Nat} (hn : a.tmps.size = n) {l : List (Nat × Value)} (hl : fits n l) : (ov a l).eval = look a l := by
  funext x
  cases x with
  | tmp t => exact ov_get hn t l hl
  | const v => cases l <;> rfl
  | global g => cases l <;> rfl
  | func f => cases l <;> rfl

def yl (ops : Array Oper) (ρ : Operand → Value) (j : Nat) : Option Bool :=
  match (ops[j]?).bind (·.dst) with
  | some t => match ρ (.tmp t) with | .bool b => some b | _ => none
  | none => none
theorem yl_eq (ops : Array Oper) (a : Act) : yl ops a.eval = yielded ops a.tmps := by
  funext j
  unfold yl yielded
  cases h : (ops[j]?).bind (·.dst) with
  | none => rfl
  | some t =>
    show (match a.tmps.getD t undef with | .bool b => some b | _ => none) = match a.tmps[t]? with | some (.bool b) => some b | _ => none
    rcases Nat.lt_or_ge t a.tmps.size with h | h
    · simp [h]
      cases a.tmps[t] <;> rfl
    · simp [Array.getElem?_eq_none h]
      rfl

section
variable {P : Program} {Cal : FuncId → Array Value → World → (Ending → World → Prop) → Prop} {ops : Array Oper} {C : (Nat → Bool) → World → Prop} {Q : Act → Prop} {a : Act} {n : Nat}

def GivesO (P : Program) (Cal : FuncId → Array Value → World → (Ending → World → Prop) → Prop) (ops : Array Oper) (C : (Nat → Bool) → World → Prop) (i : Nat) (o : Oper) (v : Value) (ρ : Operand → Value) : Prop :=
  (Region.wanted o (yl ops ρ) = true ∧ ∀ d w, (d i = false ∧ Dep o d) → C d w → Upon Cal (C (mark d i)) v ((execOp ρ o).run P w)) ∨
  (Region.wanted o (yl ops ρ) = false ∧ v = undef ∧ ∀ d w, (d i = false ∧ Dep o d) → C d w → C (mark d i) w)

def walkO (P : Program) (Cal : FuncId → Array Value → World → (Ending → World → Prop) → Prop) (ops : Array Oper) (C : (Nat → Bool) → World → Prop) (Q : Act → Prop) (a : Act) (n : Nat) : Nat → List Oper → List (Nat × Value) → Prop
  | _, [], l => Q (ov a l)
  | i, o :: rest, l => ∃ v, GivesO P Cal ops C i o v (look a l) ∧ match o.dst with
    | some d => d < n ∧ walkO P Cal ops C Q a n (i + 1) rest ((d, v) :: l)
    | none => walkO P Cal ops C Q a n (i + 1) rest l

theorem walk_of (hn : a.tmps.size = n) : ∀ (rest : List Oper) (i : Nat) (l : List (Nat × Value)), fits n l → walkO P Cal ops C Q a n i rest l → walk P Cal ops C Q i rest (ov a l)
  | [], _, _, _, h => h
  | o :: rest, i, l, hl, ⟨v, hg, h⟩ => by
    refine ⟨v, ?_, ?_⟩
    · unfold GivesO at hg
      unfold Gives
      rw [← yl_eq, ov_eval hn hl]
      exact hg
    · cases hd : o.dst with
      | none =>
        rw [hd] at h
        exact walk_of hn rest (i + 1) l hl h
      | some d =>
        rw [hd] at h
        exact walk_of hn rest (i + 1) ((d, v) :: l) ⟨h.1, hl⟩ h.2

/-- the walk, begun -/
theorem begin (n : Nat) (hn : a.tmps.size = n) {l : List Oper} (h : walkO P Cal ops C Q a n 0 l []) : walk P Cal ops C Q 0 l a := walk_of hn l 0 [] trivial h

theorem o_pure {i d : Nat} {o : Oper} {rest : List Oper} {l : List (Nat × Value)} (v : Value) (hv : ∀ D w, C D w → (execOp (look a l) o).run P w = .ok (.value v) w) (h : walkO P Cal ops C Q a n (i + 1) rest ((d, v) :: l))
    (hi : ∀ D w, C D w → C (mark D i) w := by exact fun _ _ h => h) (hd : o.dst = some d := by rfl) (hdn : Nat.blt d n = true := by rfl) (hw : Region.wanted o (yl ops (look a l)) = true := by rfl) : walkO P Cal ops C Q a n i (o :: rest) l :=
  ⟨v, .inl ⟨hw, fun D w _ hc => by rw [hv D w hc]; exact ⟨rfl, hi D w hc⟩⟩, by rw [hd]; exact ⟨by simpa [Nat.blt_eq] using hdn, h⟩⟩
theorem o_store {i : Nat} {o : Oper} {rest : List Oper} {l : List (Nat × Value)} (hv : ∀ D w, C D w → ∃ w', (execOp (look a l) o).run P w = .ok .skip w' ∧ C (mark D i) w') (h : walkO P Cal ops C Q a n (i + 1) rest l)
    (hd : o.dst = none := by rfl) (hw : Region.wanted o (yl ops (look a l)) = true := by rfl) : walkO P Cal ops C Q a n i (o :: rest) l :=
  ⟨undef, .inl ⟨hw, fun D w _ hc => by obtain ⟨w', h1, h2⟩ := hv D w hc; rw [h1]; exact ⟨rfl, h2⟩⟩, by rw [hd]; exact h⟩
/-- an operation that turns the world and yields a value -/
theorem o_eff {i d : Nat} {o : Oper} {rest : List Oper} {l : List (Nat × Value)} (v : Value) (hv : ∀ D w, D i = false → Dep o D → C D w → ∃ w', (execOp (look a l) o).run P w = .ok (.value v) w' ∧ C (mark D i) w') (h : walkO P Cal ops C Q a n (i + 1) rest ((d, v) :: l))
    (hd : o.dst = some d := by rfl) (hdn : Nat.blt d n = true := by rfl) (hw : Region.wanted o (yl ops (look a l)) = true := by rfl) : walkO P Cal ops C Q a n i (o :: rest) l :=
  ⟨v, .inl ⟨hw, fun D w h0 hc => by obtain ⟨w', h1, h2⟩ := hv D w h0.1 h0.2 hc; rw [h1]; exact ⟨rfl, h2⟩⟩, by rw [hd]; exact ⟨by simpa [Nat.blt_eq] using hdn, h⟩⟩
/-- a store, what it waits for being known to have come up -/
theorem o_put {i : Nat} {o : Oper} {rest : List Oper} {l : List (Nat × Value)} (hv : ∀ D w, D i = false → Dep o D → C D w → ∃ w', (execOp (look a l) o).run P w = .ok .skip w' ∧ C (mark D i) w') (h : walkO P Cal ops C Q a n (i + 1) rest l)
    (hd : o.dst = none := by rfl) (hw : Region.wanted o (yl ops (look a l)) = true := by rfl) : walkO P Cal ops C Q a n i (o :: rest) l :=
  ⟨undef, .inl ⟨hw, fun D w h0 hc => by obtain ⟨w', h1, h2⟩ := hv D w h0.1 h0.2 hc; rw [h1]; exact ⟨rfl, h2⟩⟩, by rw [hd]; exact h⟩
theorem o_call {i d : Nat} {o : Oper} {rest : List Oper} {l : List (Nat × Value)} (v : Value) (f : FuncId) (args : Array Value) (hv : ∀ D w, C D w → (execOp (look a l) o).run P w = .ok (.enter f args) w)
    (hc : ∀ D w, C D w → Cal f args w (fun e w'' => e = .returned v ∧ C (mark D i) w'')) (h : walkO P Cal ops C Q a n (i + 1) rest ((d, v) :: l))
    (hd : o.dst = some d := by rfl) (hdn : Nat.blt d n = true := by rfl) (hw : Region.wanted o (yl ops (look a l)) = true := by rfl) : walkO P Cal ops C Q a n i (o :: rest) l :=
  ⟨v, .inl ⟨hw, fun D w _ hC => by rw [hv D w hC]; exact hc D w hC⟩, by rw [hd]; exact ⟨by simpa [Nat.blt_eq] using hdn, h⟩⟩
/-- a call that turns the world, once -/
theorem o_callE {i d : Nat} {o : Oper} {rest : List Oper} {l : List (Nat × Value)} (v : Value) (f : FuncId) (args : Array Value) (hv : ∀ D w, C D w → (execOp (look a l) o).run P w = .ok (.enter f args) w)
    (hc : ∀ D w, D i = false → C D w → Cal f args w (fun e w'' => e = .returned v ∧ C (mark D i) w'')) (h : walkO P Cal ops C Q a n (i + 1) rest ((d, v) :: l))
    (hd : o.dst = some d := by rfl) (hdn : Nat.blt d n = true := by rfl) (hw : Region.wanted o (yl ops (look a l)) = true := by rfl) : walkO P Cal ops C Q a n i (o :: rest) l :=
  ⟨v, .inl ⟨hw, fun D w h0 hC => by rw [hv D w hC]; exact hc D w h0.1 hC⟩, by rw [hd]; exact ⟨by simpa [Nat.blt_eq] using hdn, h⟩⟩
theorem o_skip {i d : Nat} {o : Oper} {rest : List Oper} {l : List (Nat × Value)} (h : walkO P Cal ops C Q a n (i + 1) rest ((d, undef) :: l))
    (hi : ∀ D w, C D w → C (mark D i) w := by exact fun _ _ h => h) (hd : o.dst = some d := by rfl) (hdn : Nat.blt d n = true := by rfl) (hw : Region.wanted o (yl ops (look a l)) = false := by rfl) : walkO P Cal ops C Q a n i (o :: rest) l :=
  ⟨undef, .inr ⟨hw, rfl, fun D w _ hc => hi D w hc⟩, by rw [hd]; exact ⟨by simpa [Nat.blt_eq] using hdn, h⟩⟩
theorem o_end {i : Nat} {l : List (Nat × Value)} (h : Q (ov a l)) : walkO P Cal ops C Q a n i [] l := h
end

section
variable {P : Program} {o : Oper} {ρ : Operand → Value} {w : World}

theorem run_fn {f : FuncId} {xs : Array Operand} {ts : Array TypeId} {args : Array Value} (ho : o.op = .call { callee := .value (.func f), args := xs, argTypes := ts }) (hf : ρ (.func f) = .func (.func f) #[] #[]) (hargs : xs.toList.map ρ = args.toList)
    (he : ∀ args w, (callFunc f args).run P w = .ok (.enter f args) w) : (execOp ρ o).run P w = .ok (.enter f args) w := by
  have hargs' : xs.map ρ = args := by
    apply Array.ext'
    rw [Array.toList_map, hargs]
  subst hargs'
  unfold execOp
  simp only [ho, resolve, hf, Deferred.ofValue, Sem.run_bind, Sem.run_pure, Result.andThen_ok, invoke]
  simpa using he _ w
theorem run_op2 {op : BinOp} {t t' : TypeId} {p q : Operand} {x y : Int} {k : IntKind} (ho : o.op = .binOp op t p q t') (hop : op = .add ∨ op = .sub) (hx : ρ p = .int k x) (hy : ρ q = .int k y) :
    (execOp ρ o).run P w = .ok (.value (.int k (k.wrap (if op = .add then x + y else x - y)))) w := by
  unfold execOp
  simp only [ho, hx, hy]
  rcases hop with rfl | rfl <;> simp [eqGuard, binOp, Op.intArith, go_sem]
theorem run_add {t t' : TypeId} {p q : Operand} {x y z : Int} (ho : o.op = .binOp .add t p q t') (hx : ρ p = .int .i64 x) (hy : ρ q = .int .i64 y) (h : -9223372036854775808 ≤ x + y ∧ x + y ≤ 9223372036854775807) (hz : x + y = z) :
    (execOp ρ o).run P w = .ok (.value (.int .i64 z)) w := by
  rw [run_op2 ho (.inl rfl) hx hy, if_pos rfl, IntWalk.i64_in _ h, hz]
theorem run_mul {t t' : TypeId} {p q : Operand} {x y z : Int} (ho : o.op = .binOp .mul t p q t') (hx : ρ p = .int .i64 x) (hy : ρ q = .int .i64 y) (hz : x * y = z) (h : -9223372036854775808 ≤ z ∧ z ≤ 9223372036854775807) :
    (execOp ρ o).run P w = .ok (.value (.int .i64 z)) w := by
  subst hz
  unfold execOp
  simp only [ho, hx, hy]
  simp [eqGuard, binOp, Op.intArith, go_sem]
  exact IntWalk.i64_in _ h
theorem run_sub {t t' : TypeId} {p q : Operand} {x y z : Int} (ho : o.op = .binOp .sub t p q t') (hx : ρ p = .int .i64 x) (hy : ρ q = .int .i64 y) (h : -9223372036854775808 ≤ x - y ∧ x - y ≤ 9223372036854775807) (hz : x - y = z) :
    (execOp ρ o).run P w = .ok (.value (.int .i64 z)) w := by
  rw [run_op2 ho (.inr rfl) hx hy, if_neg (by decide), IntWalk.i64_in _ h, hz]
theorem run_at {t e : TypeId} {p q : Operand} {b off len cap i size : Nat} {it : TypeInfo} (ho : o.op = .indexAddr t p q) (hx : ρ p = .slice (some ⟨b, off, none⟩) len cap) (hy : ρ q = .int .i64 (i : Nat)) (hi : i < len)
    (hu : P.underlying t = some (.slice e)) (hs : P.info? e = some it) (hz : it.size = size) : (execOp ρ o).run P w = .ok (.value (.pointer (some ⟨b, off + i * size, none⟩))) w := by
  unfold execOp
  simp only [ho, hx, hy]
  simp [Instr.indexAt, run_underlying hu, asIntOf, go_sem]
  rw [if_pos hi]
  simp [sizeOf, typeInfo, hs, hz, Result.andThen]
def flat : TypeDesc → Bool
  | .struct _ | .array _ _ => false
  | _ => true
theorem run_load {t : TypeId} {d : TypeDesc} {p : Operand} {x : Addr} {v : Value} (ho : o.op = .load t p) (hx : ρ p = .pointer (some x)) (hu : P.underlying t = some d) (hd : flat d = true) (hc : w.cell? x = some v) :
    (execOp ρ o).run P w = .ok (.value v) w := by
  unfold execOp
  simp only [ho, hx]
  have hagg : (isAgg t).run P w = .ok false w := by
    unfold isAgg
    rw [Sem.run_bind, run_underlying hu]
    cases d <;> simp_all [flat, Result.andThen]
  simp [Instr.loadAt, Instr.sureAddr, loadVar, Sem.run_bind, hagg, Result.andThen, load, Sem.run, hc]
end

end Go.Proofs.Ytgpgbbbcodnieaa.lx
