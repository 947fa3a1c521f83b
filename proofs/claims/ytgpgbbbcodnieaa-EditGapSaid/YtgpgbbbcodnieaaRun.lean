/-
  A run of plain code (no region that draws, no loop, no call of a Go function), as a function that the kernel reckons; and that what it gives is what the call does.
-/
import Derived.WalkKit
namespace Go.Proofs.Ytgpgbbbcodnieaa.run
open Go

def ops (P : Program) (os : Array Oper) : List Nat → Act → World → Option (Act × World)
  | [], a, w => some (a, w)
  | i :: rest, a, w =>
    match os[i]? with
    | none => ops P os rest a w
    | some o =>
      match Region.wanted o (yielded os a.tmps) with
      | true =>
        match (execOp a.eval o).run P w with
        | .ok (.value v) w' => ops P os rest (a.put o.dst v) w'
        | .ok .skip w' => ops P os rest (a.put o.dst undef) w'
        | _ => none
      | false => ops P os rest (a.put o.dst undef) w

def code (P : Program) : Code → Act → World → Option (Exit × Act × World)
  | .skip, a, w => some (.normal, a, w)
  | .region _ os false, a, w =>
    match ops P os (List.range os.size) a w with
    | some (a', w') => some (.normal, a', w')
    | none => none
  | .seq x y, a, w =>
    match code P x a w with
    | some (.normal, a', w') => code P y a' w'
    | r => r
  | .cond c x y, a, w =>
    match a.eval c with
    | .bool true => code P x a w
    | .bool false => code P y a w
    | _ => none
  | .block id c, a, w =>
    match code P c a w with
    | some (.exit id', a', w') => if id' = id then some (.normal, a', w') else some (.exit id', a', w')
    | r => r
  | .exit id, a, w => some (.exit id, a, w)
  | .ret, a, w => some (.ret, a, w)
  | _, _, _ => none

theorem ops_sound {P : Program} {os : Array Oper} {Q : Exit → Act → World → Prop} : ∀ (l : List Nat) (a : Act) (w : World) {a' : Act} {w' : World},
    ops P os l a w = some (a', w') → Q .normal a' w' → wpOps P os Q l a w
  | [], a, w, a', w', h, hq => by
    simp only [ops, Option.some.injEq, Prod.mk.injEq] at h
    obtain ⟨rfl, rfl⟩ := h
    exact hq
  | i :: rest, a, w, a', w', h, hq => by
    simp only [ops] at h
    unfold wpOps
    cases ho : os[i]? with
    | none => simp only [ho] at h ⊢; exact ops_sound rest a w h hq
    | some o =>
      simp only [ho] at h ⊢
      cases hw : Region.wanted o (yielded os a.tmps) with
      | true =>
        simp only [hw] at h
        simp only [if_true]
        left
        unfold Oper.wp
        cases hr : (execOp a.eval o).run P w with
        | halt x w1 => simp [hr] at h
        | ok x w1 =>
          cases x with
          | value v => simp only [hr] at h; exact ops_sound rest _ w1 h hq
          | skip => simp only [hr] at h; exact ops_sound rest _ w1 h hq
          | enter f args => simp [hr] at h
          | row r args => simp [hr] at h
          | defer d => simp [hr] at h
          | _ => simp [hr] at h
      | false =>
        simp only [hw] at h
        simp only [Bool.false_eq_true, if_false]
        exact ops_sound rest _ w h hq

theorem code_sound {P : Program} : ∀ (c : Code) {Q : Exit → Act → World → Prop} (a : Act) (w : World) {e : Exit} {a' : Act} {w' : World},
    code P c a w = some (e, a', w') → Q e a' w' → c.wp P Q a w := by
  intro c
  induction c with
  | skip => intro Q a w e a' w' h hq; simp only [code, Option.some.injEq, Prod.mk.injEq] at h; obtain ⟨rfl, rfl, rfl⟩ := h; exact wp_skip hq
  | exit id => intro Q a w e a' w' h hq; simp only [code, Option.some.injEq, Prod.mk.injEq] at h; obtain ⟨rfl, rfl, rfl⟩ := h; exact wp_exit hq
  | ret => intro Q a w e a' w' h hq; simp only [code, Option.some.injEq, Prod.mk.injEq] at h; obtain ⟨rfl, rfl, rfl⟩ := h; exact wp_ret hq
  | region id os draw =>
    intro Q a w e a' w' h hq
    cases draw with
    | true => simp [code] at h
    | false =>
      simp only [code] at h
      split at h
      · rename_i a1 w1 hr
        simp only [Option.some.injEq, Prod.mk.injEq] at h
        obtain ⟨rfl, rfl, rfl⟩ := h
        exact wp_region (ops_sound _ a w hr hq)
      · simp at h
  | seq x y ihx ihy =>
    intro Q a w e a' w' h hq
    simp only [code] at h
    apply wp_seq
    cases hx : code P x a w with
    | none => simp [hx] at h
    | some r =>
      obtain ⟨e1, a1, w1⟩ := r
      cases e1 <;> simp only [hx] at h
      · exact ihx a w hx (ihy a1 w1 h hq)
      all_goals
        simp only [Option.some.injEq, Prod.mk.injEq] at h
        obtain ⟨rfl, rfl, rfl⟩ := h
        exact ihx a w hx hq
  | cond c x y ihx ihy =>
    intro Q a w e a' w' h hq
    simp only [code] at h
    split at h
    · rename_i hc; exact wp_cond_true hc (ihx a w h hq)
    · rename_i hc; exact wp_cond_false hc (ihy a w h hq)
    · simp at h
  | block id c ih =>
    intro Q a w e a' w' h hq
    simp only [code] at h
    apply wp_block
    cases hx : code P c a w with
    | none => simp [hx] at h
    | some r =>
      obtain ⟨e1, a1, w1⟩ := r
      refine ih a w hx ?_
      cases e1 with
      | exit id' =>
        simp only [hx] at h
        by_cases hid : id' = id
        · rw [if_pos hid] at h
          simp only [Option.some.injEq, Prod.mk.injEq] at h
          obtain ⟨rfl, rfl, rfl⟩ := h
          simp only [Exit.inBlock, hid, if_true]; exact hq
        · rw [if_neg hid] at h
          simp only [Option.some.injEq, Prod.mk.injEq] at h
          obtain ⟨rfl, rfl, rfl⟩ := h
          simp only [Exit.inBlock, hid, if_false]; exact hq
      | _ =>
        simp only [hx, Option.some.injEq, Prod.mk.injEq] at h
        obtain ⟨rfl, rfl, rfl⟩ := h
        exact hq
  | _ => intro Q a w e a' w' h; simp [code] at h

/-- WHAT A CALL OF A FUNCTION OF ONE RESULT GIVES, reckoned: the value and the world. -/
def fn (P : Program) (f : FuncId) (args : Array Value) (w : World) : Option (Value × World) :=
  match P.funcs[f]? with
  | none => none
  | some fn =>
    match fn.body with
    | none => none
    | some c =>
      match fn.results.toList with
      | [.tmp t] =>
        match code P c { tmps := args ++ Array.replicate (fn.ntmps - args.size) undef, defers := [] } w with
        | some (.ret, a, w') => (match a.defers with | [] => some (a.tmps.getD t undef, w') | _ => none)
        | _ => none
      | _ => none

theorem calls {P : Program} {f : FuncId} {args : Array Value} {w w' : World} {v : Value} (h : fn P f args w = some (v, w')) :
    Calls P f args w fun e w2 => e = .returned v ∧ w2 = w' := by
  unfold fn at h
  split at h
  · simp at h
  · rename_i g hg
    split at h
    · simp at h
    · rename_i c hc
      split at h
      · rename_i t ht
        split at h
        · rename_i a w1 hr
          split at h
          · rename_i hd
            simp only [Option.some.injEq, Prod.mk.injEq] at h
            obtain ⟨rfl, rfl⟩ := h
            have hres : g.results = #[.tmp t] := by
              have := congrArg List.toArray ht
              simpa using this
            exact calls_of_wp hg hc (code_sound c _ _ hr (bodyPost_ret (results_tmp hres _ _ _) hd ⟨rfl, rfl⟩))
          · simp at h
        · simp at h
      · simp at h

/-- The same of a function of three results. -/
def fn3 (P : Program) (f : FuncId) (args : Array Value) (w : World) : Option (Value × World) :=
  match P.funcs[f]? with
  | none => none
  | some fn =>
    match fn.body with
    | none => none
    | some c =>
      match fn.results.toList with
      | [.tmp t, .tmp u, .tmp v] =>
        match code P c { tmps := args ++ Array.replicate (fn.ntmps - args.size) undef, defers := [] } w with
        | some (.ret, a, w') => (match a.defers with | [] => some (.tuple #[a.tmps.getD t undef, a.tmps.getD u undef, a.tmps.getD v undef], w') | _ => none)
        | _ => none
      | _ => none

theorem calls3 {P : Program} {f : FuncId} {args : Array Value} {w w' : World} {v : Value} (h : fn3 P f args w = some (v, w')) :
    Calls P f args w fun e w2 => e = .returned v ∧ w2 = w' := by
  unfold fn3 at h
  split at h
  · simp at h
  · rename_i g hg
    split at h
    · simp at h
    · rename_i c hc
      split at h
      · rename_i t u v ht
        split at h
        · rename_i a w1 hr
          split at h
          · rename_i hd
            simp only [Option.some.injEq, Prod.mk.injEq] at h
            obtain ⟨rfl, rfl⟩ := h
            have hres : g.results = #[.tmp t, .tmp u, .tmp v] := by
              have := congrArg List.toArray ht
              simpa using this
            exact calls_of_wp hg hc (code_sound c _ _ hr (bodyPost_ret (results_tmp3 hres _ _ _) hd ⟨rfl, rfl⟩))
          · simp at h
        · simp at h
      · simp at h

/-- what is said of all numbers below n, as one equation -/
theorem of_lists {α : Type} {f g : Nat → α} {n : Nat} (h : (List.range n).map f = (List.range n).map g) {b : Nat} (hb : b < n) : f b = g b := by
  have h2 := congrArg (fun l => l[b]?) h
  simpa [hb] using h2

/-- a fact kept from the walk -/
theorem hid {p : Prop} (h : p) : RowKit.Hid p := h

theorem heap_new (w : World) (o : Obj) : (w.alloc o).heap[w.heap.size]? = some o := by
  show (w.heap.push o)[w.heap.size]? = _
  simp
theorem heap_old (w : World) (o : Obj) {k : Nat} (h : k < w.heap.size) : (w.alloc o).heap[k]? = w.heap[k]? := RowKit.Below.heap_alloc w o k h
/-- the cell of a box that has just been laid -/
theorem cell_new (w : World) (x : Value) (t : TypeId) : (w.alloc (.cells #[x] t)).cell? ⟨w.heap.size, 0, none⟩ = some x := by
  simp only [World.cell?]; rw [heap_new]; rfl
theorem cell_old (w : World) (o : Obj) {k i : Nat} {x : Value} (h : w.cell? ⟨k, i, none⟩ = some x) : (w.alloc o).cell? ⟨k, i, none⟩ = some x := by
  have hk : k < w.heap.size := by
    rcases Nat.lt_or_ge k w.heap.size with h1 | h1
    · exact h1
    · simp [World.cell?, Array.getElem?_eq_none h1] at h
  simp only [World.cell?] at h ⊢
  rw [heap_old w o hk]; exact h
theorem cells_two (w : World) (x y : Value) (t u : TypeId) : ((w.alloc (.cells #[x] t)).alloc (.cells #[y] u)).cell? ⟨w.heap.size, 0, none⟩ = some x ∧
    ((w.alloc (.cells #[x] t)).alloc (.cells #[y] u)).cell? ⟨w.heap.size + 1, 0, none⟩ = some y := by
  refine ⟨cell_old _ _ (cell_new _ _ _), ?_⟩
  have h := cell_new (w.alloc (.cells #[x] t)) y u
  rw [World.size_alloc] at h
  exact h
theorem below_two (w : World) (o p : Obj) : RowKit.Below w.heap.size w ((w.alloc o).alloc p) :=
  ((RowKit.Below.refl _ _).alloc (Nat.le_refl _) _).alloc (by simp) _
theorem below_one (w : World) (o : Obj) : RowKit.Below w.heap.size w (w.alloc o) := (RowKit.Below.refl _ _).alloc (Nat.le_refl _) _
theorem size_two (w : World) (o p : Obj) : ((w.alloc o).alloc p).heap.size = w.heap.size + 2 := by simp
theorem size_one (w : World) (o : Obj) : (w.alloc o).heap.size = w.heap.size + 1 := by simp

end Go.Proofs.Ytgpgbbbcodnieaa.run
