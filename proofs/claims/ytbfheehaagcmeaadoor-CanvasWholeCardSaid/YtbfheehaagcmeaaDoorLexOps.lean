/-
  The walk of XLex over a frame that is kept as it was, what has been reckoned lying in a list above it; and the operations, each by a law of its own.
-/
import Derived.Test.YtbfheehaagcmeaaDoorLex
import Derived.IntWalk
namespace Go.Proofs.YtbfheehaagcmeaaDoor.lex
open Go

/-- a frame with some slots written over, the newest first -/
def ov (a : Act) : List (Nat × Value) → Act
  | [] => a
  | (d, v) :: l => (ov a l).put (some d) v
def lk : List (Nat × Value) → Nat → Value → Value
  | [], _, z => z
  | (d, v) :: l, t, z => bif Nat.beq d t then v else lk l t z
def look (a : Act) (l : List (Nat × Value)) : Operand → Value
  | .tmp t => lk l t (a.tmps.getD t undef)
  | x => a.eval x
def fits (n : Nat) : List (Nat × Value) → Prop
  | [] => True
  | (d, _) :: l => d < n ∧ fits n l

theorem ov_size (a : Act) : ∀ l, (ov a l).tmps.size = a.tmps.size
  | [] => rfl
  | (d, v) :: l => by simp [ov, Act.put, ov_size a l]
theorem ov_get {a : Act} {n : Nat} (hn : a.tmps.size = n) (t : Nat) : ∀ l, fits n l → (ov a l).tmps.getD t undef = lk l t (a.tmps.getD t undef)
  | [], _ => rfl
  | (d, v) :: l, ⟨hd, hl⟩ => by
    have hs := ov_size a l
    show ((ov a l).tmps.setIfInBounds d v).getD t undef = bif Nat.beq d t then v else lk l t _
    by_cases e : d = t
    · subst e
      have : Nat.beq d d = true := by simp
      rw [this]
      simp [show d < (ov a l).tmps.size by omega]
    · have : Nat.beq d t = false := by rw [Bool.eq_false_iff]; exact fun h => e (Nat.eq_of_beq_eq_true h)
      rw [this, cond_false, ← ov_get hn t l hl]
      simp [Array.getElem?_setIfInBounds_ne e]
theorem ov_eval {a : Act} {n : Nat} (hn : a.tmps.size = n) {l : List (Nat × Value)} (hl : fits n l) : (ov a l).eval = look a l := by
  funext x
  cases x with
  | tmp t => exact ov_get hn t l hl
  | const v => cases l <;> rfl
  | global g => cases l <;> rfl
  | func f => cases l <;> rfl

def yl (ops : Array Oper) (ρ : Operand → Value) (j : Nat) : Option Bool :=
  match (ops[j]?).bind (·.dst) with
  | some t => match ρ (.tmp t) with | .bool b => some b | _ => none
  | none => none
theorem yl_eq (ops : Array Oper) (a : Act) : yl ops a.eval = yielded ops a.tmps := by
  funext j
  unfold yl yielded
  cases h : (ops[j]?).bind (·.dst) with
  | none => rfl
  | some t =>
    show (match a.tmps.getD t undef with | .bool b => some b | _ => none) = match a.tmps[t]? with | some (.bool b) => some b | _ => none
    rcases Nat.lt_or_ge t a.tmps.size with h | h
    · simp [h]
      cases a.tmps[t] <;> rfl
    · simp [Array.getElem?_eq_none h]
      rfl

section
variable {P : Program} {Cal : FuncId → Array Value → World → (Ending → World → Prop) → Prop} {ops : Array Oper} {C : (Nat → Bool) → World → Prop} {Q : Act → Prop} {a : Act} {n : Nat}

def GivesO (P : Program) (Cal : FuncId → Array Value → World → (Ending → World → Prop) → Prop) (ops : Array Oper) (C : (Nat → Bool) → World → Prop) (i : Nat) (o : Oper) (v : Value) (ρ : Operand → Value) : Prop :=
  (Region.wanted o (yl ops ρ) = true ∧ ∀ d w, d i = false → C d w → Upon Cal (C (mark d i)) v ((execOp ρ o).run P w)) ∨
  (Region.wanted o (yl ops ρ) = false ∧ v = undef ∧ ∀ d w, d i = false → C d w → C (mark d i) w)

def walkO (P : Program) (Cal : FuncId → Array Value → World → (Ending → World → Prop) → Prop) (ops : Array Oper) (C : (Nat → Bool) → World → Prop) (Q : Act → Prop) (a : Act) (n : Nat) : Nat → List Oper → List (Nat × Value) → Prop
  | _, [], l => Q (ov a l)
  | i, o :: rest, l => ∃ v, GivesO P Cal ops C i o v (look a l) ∧ match o.dst with
    | some d => d < n ∧ walkO P Cal ops C Q a n (i + 1) rest ((d, v) :: l)
    | none => walkO P Cal ops C Q a n (i + 1) rest l

theorem walk_of (hn : a.tmps.size = n) : ∀ (rest : List Oper) (i : Nat) (l : List (Nat × Value)), fits n l → walkO P Cal ops C Q a n i rest l → walk P Cal ops C Q i rest (ov a l)
  | [], _, _, _, h => h
  | o :: rest, i, l, hl, ⟨v, hg, h⟩ => by
    refine ⟨v, ?_, ?_⟩
    · unfold GivesO at hg
      unfold Gives
      rw [← yl_eq, ov_eval hn hl]
      exact hg
    · cases hd : o.dst with
      | none =>
        rw [hd] at h
        exact walk_of hn rest (i + 1) l hl h
      | some d =>
        rw [hd] at h
        exact walk_of hn rest (i + 1) ((d, v) :: l) ⟨h.1, hl⟩ h.2

/-- the walk, begun -/
theorem begin (n : Nat) (hn : a.tmps.size = n) {l : List Oper} (h : walkO P Cal ops C Q a n 0 l []) : walk P Cal ops C Q 0 l a := walk_of hn l 0 [] trivial h

theorem o_pure {i d : Nat} {o : Oper} {rest : List Oper} {l : List (Nat × Value)} (v : Value) (hv : ∀ D w, C D w → (execOp (look a l) o).run P w = .ok (.value v) w) (h : walkO P Cal ops C Q a n (i + 1) rest ((d, v) :: l))
    (hi : ∀ D w, C D w → C (mark D i) w := by exact fun _ _ h => h) (hd : o.dst = some d := by rfl) (hdn : Nat.blt d n = true := by rfl) (hw : Region.wanted o (yl ops (look a l)) = true := by rfl) : walkO P Cal ops C Q a n i (o :: rest) l :=
  ⟨v, .inl ⟨hw, fun D w _ hc => by rw [hv D w hc]; exact ⟨rfl, hi D w hc⟩⟩, by rw [hd]; exact ⟨by simpa [Nat.blt_eq] using hdn, h⟩⟩
theorem o_store {i : Nat} {o : Oper} {rest : List Oper} {l : List (Nat × Value)} (hv : ∀ D w, C D w → ∃ w', (execOp (look a l) o).run P w = .ok .skip w' ∧ C (mark D i) w') (h : walkO P Cal ops C Q a n (i + 1) rest l)
    (hd : o.dst = none := by rfl) (hw : Region.wanted o (yl ops (look a l)) = true := by rfl) : walkO P Cal ops C Q a n i (o :: rest) l :=
  ⟨undef, .inl ⟨hw, fun D w _ hc => by obtain ⟨w', h1, h2⟩ := hv D w hc; rw [h1]; exact ⟨rfl, h2⟩⟩, by rw [hd]; exact h⟩
theorem o_call {i d : Nat} {o : Oper} {rest : List Oper} {l : List (Nat × Value)} (v : Value) (f : FuncId) (args : Array Value) (hv : ∀ D w, C D w → (execOp (look a l) o).run P w = .ok (.enter f args) w)
    (hc : ∀ D w, C D w → Cal f args w (fun e w'' => e = .returned v ∧ C (mark D i) w'')) (h : walkO P Cal ops C Q a n (i + 1) rest ((d, v) :: l))
    (hd : o.dst = some d := by rfl) (hdn : Nat.blt d n = true := by rfl) (hw : Region.wanted o (yl ops (look a l)) = true := by rfl) : walkO P Cal ops C Q a n i (o :: rest) l :=
  ⟨v, .inl ⟨hw, fun D w _ hC => by rw [hv D w hC]; exact hc D w hC⟩, by rw [hd]; exact ⟨by simpa [Nat.blt_eq] using hdn, h⟩⟩
theorem o_skip {i d : Nat} {o : Oper} {rest : List Oper} {l : List (Nat × Value)} (h : walkO P Cal ops C Q a n (i + 1) rest ((d, undef) :: l))
    (hi : ∀ D w, C D w → C (mark D i) w := by exact fun _ _ h => h) (hd : o.dst = some d := by rfl) (hdn : Nat.blt d n = true := by rfl) (hw : Region.wanted o (yl ops (look a l)) = false := by rfl) : walkO P Cal ops C Q a n i (o :: rest) l :=
  ⟨undef, .inr ⟨hw, rfl, fun D w _ hc => hi D w hc⟩, by rw [hd]; exact ⟨by simpa [Nat.blt_eq] using hdn, h⟩⟩
theorem o_end {i : Nat} {l : List (Nat × Value)} (h : Q (ov a l)) : walkO P Cal ops C Q a n i [] l := h
end

section
variable {P : Program} {o : Oper} {ρ : Operand → Value} {w : World}

theorem run_fn {f : FuncId} {xs : Array Operand} {ts : Array TypeId} {args : Array Value} (ho : o.op = .call { callee := .value (.func f), args := xs, argTypes := ts }) (hf : ρ (.func f) = .func (.func f) #[] #[]) (hargs : xs.toList.map ρ = args.toList)
    (he : ∀ args w, (callFunc f args).run P w = .ok (.enter f args) w) : (execOp ρ o).run P w = .ok (.enter f args) w := by
  have hargs' : xs.map ρ = args := by
    apply Array.ext'
    rw [Array.toList_map, hargs]
  subst hargs'
  unfold execOp
  simp only [ho, resolve, hf, Deferred.ofValue, Sem.run_bind, Sem.run_pure, Result.andThen_ok, invoke]
  simpa using he _ w
theorem run_op2 {op : BinOp} {t t' : TypeId} {p q : Operand} {x y : Int} {k : IntKind} (ho : o.op = .binOp op t p q t') (hop : op = .add ∨ op = .sub) (hx : ρ p = .int k x) (hy : ρ q = .int k y) :
    (execOp ρ o).run P w = .ok (.value (.int k (k.wrap (if op = .add then x + y else x - y)))) w := by
  unfold execOp
  simp only [ho, hx, hy]
  rcases hop with rfl | rfl <;> simp [eqGuard, binOp, Op.intArith, go_sem]
theorem run_add {t t' : TypeId} {p q : Operand} {x y z : Int} (ho : o.op = .binOp .add t p q t') (hx : ρ p = .int .i64 x) (hy : ρ q = .int .i64 y) (h : -9223372036854775808 ≤ x + y ∧ x + y ≤ 9223372036854775807) (hz : x + y = z) :
    (execOp ρ o).run P w = .ok (.value (.int .i64 z)) w := by
  rw [run_op2 ho (.inl rfl) hx hy, if_pos rfl, IntWalk.i64_in _ h, hz]
theorem run_sub {t t' : TypeId} {p q : Operand} {x y z : Int} (ho : o.op = .binOp .sub t p q t') (hx : ρ p = .int .i64 x) (hy : ρ q = .int .i64 y) (h : -9223372036854775808 ≤ x - y ∧ x - y ≤ 9223372036854775807) (hz : x - y = z) :
    (execOp ρ o).run P w = .ok (.value (.int .i64 z)) w := by
  rw [run_op2 ho (.inr rfl) hx hy, if_neg (by decide), IntWalk.i64_in _ h, hz]
theorem run_at {t e : TypeId} {p q : Operand} {b off len cap i size : Nat} {it : TypeInfo} (ho : o.op = .indexAddr t p q) (hx : ρ p = .slice (some ⟨b, off, none⟩) len cap) (hy : ρ q = .int .i64 (i : Nat)) (hi : i < len)
    (hu : P.underlying t = some (.slice e)) (hs : P.info? e = some it) (hz : it.size = size) : (execOp ρ o).run P w = .ok (.value (.pointer (some ⟨b, off + i * size, none⟩))) w := by
  unfold execOp
  simp only [ho, hx, hy]
  simp [Instr.indexAt, run_underlying hu, asIntOf, go_sem]
  rw [if_pos hi]
  simp [sizeOf, typeInfo, hs, hz, Result.andThen]
def flat : TypeDesc → Bool
  | .struct _ | .array _ _ => false
  | _ => true
theorem run_load {t : TypeId} {d : TypeDesc} {p : Operand} {x : Addr} {v : Value} (ho : o.op = .load t p) (hx : ρ p = .pointer (some x)) (hu : P.underlying t = some d) (hd : flat d = true) (hc : w.cell? x = some v) :
    (execOp ρ o).run P w = .ok (.value v) w := by
  unfold execOp
  simp only [ho, hx]
  have hagg : (isAgg t).run P w = .ok false w := by
    unfold isAgg
    rw [Sem.run_bind, run_underlying hu]
    cases d <;> simp_all [flat, Result.andThen]
  simp [Instr.loadAt, Instr.sureAddr, loadVar, Sem.run_bind, hagg, Result.andThen, load, Sem.run, hc]
end

end Go.Proofs.YtbfheehaagcmeaaDoor.lex
