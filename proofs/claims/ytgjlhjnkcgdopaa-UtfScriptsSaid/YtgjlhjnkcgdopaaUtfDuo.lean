/-
  Two decoders side by side, the program's and the document's, and what they told: how that stands behind each change.
-/
import Derived.Test.YtgjlhjnkcgdopaaUtfRefFeed
namespace Go.Proofs.Ytgjlhjnkcgdopaa.utf
open Go.RowKit Go.Proofs
set_option linter.unusedVariables false

/-- values that lie in no block together -/
def Far (u v : Value) : Prop := ∀ k, u.ownBlock = some k → v.ownBlock ≠ some k
theorem Far.symm {u v : Value} (h : Far u v) : Far v u := fun k hk e => h k e hk
theorem Far.ne {u v : Value} (h : Far u v) : u.ownBlock = none ∨ u.ownBlock ≠ v.ownBlock := by
  cases e : u.ownBlock with
  | none => exact .inl rfl
  | some k => exact .inr fun e2 => h k e e2.symm
theorem far_lt {u v : Value} {n : Nat} (h1 : ∀ k, u.ownBlock = some k → k < n) (h2 : ∀ k, v.ownBlock = some k → n ≤ k) : Far u v := fun k hk e => by
  have := h1 k hk; have := h2 k e; omega
/-- a list that was told -/
abbrev Tld := Value × List Int
def Rows1 (B : Nat) (w : World) (L : List Tld) : Prop := ∀ q ∈ L, w.ownsRow B 21 1 q.1 q.2.length (rv q.2)
def AllFar (L M : List Tld) : Prop := ∀ p ∈ L, ∀ q ∈ M, Far p.1 q.1
def Each (L : List Tld) : Prop := L.Pairwise fun p q => Far p.1 q.1

structure Duo (A P R : Nat) (t m : Value) (hp hr : List Nat) (L M : List Tld) (B : Nat) (w : World) : Prop where
  box : w.heap[A]? = some (.cells #[.pointer (some ⟨P, 0, none⟩), .pointer (some ⟨R, 0, none⟩), t, m] 45 (0, 0))
  dec : HasDec w P hp
  ref : HasRef w R hr
  told : w.ownsRow B 22 1 t L.length (L.map (·.1))
  want : w.ownsRow B 22 1 m M.length (M.map (·.1))
  ap : Far t m
  rowsL : Rows1 B w L
  rowsM : Rows1 B w M
  apL : Each L
  apM : Each M
  apLM : AllFar L M
  loA : B ≤ A
  loP : B ≤ P
  loR : B ≤ R
/-- the blocks of it -/
def duoHas (A P R : Nat) (t m : Value) (L M : List Tld) (k : Nat) : Prop := k = A ∨ k = P ∨ k = R ∨ t.ownBlock = some k ∨ m.ownBlock = some k ∨ (∃ q ∈ L, q.1.ownBlock = some k) ∨ (∃ q ∈ M, q.1.ownBlock = some k)

theorem own_keep {w w' : World} {B e sz n : Nat} {v : Value} {xs : List Value} (h : w.ownsRow B e sz v n xs) (hk : ∀ k, v.ownBlock = some k → w'.heap[k]? = w.heap[k]?) : w'.ownsRow B e sz v n xs := by
  obtain ⟨hl, h⟩ := h
  refine ⟨hl, ?_⟩
  rcases h with h | ⟨g, cap, cur, rfl, hb, hh, r⟩
  · exact .inl h
  · exact .inr ⟨g, cap, cur, rfl, hb, (hk g rfl).trans hh, r⟩
theorem own_type {w : World} {B e sz n : Nat} {v : Value} {xs : List Value} (h : w.ownsRow B e sz v n xs) {k : Nat} (hk : v.ownBlock = some k) : ∃ cur, w.heap[k]? = some (.cells cur e (0, 0)) := by
  rcases h.2 with ⟨rfl, -⟩ | ⟨g, c, cur, rfl, -, hg, -⟩
  · simp [Value.ownBlock] at hk
  · simp only [Value.ownBlock, Option.some.injEq] at hk
    subst hk
    exact ⟨cur, hg⟩
theorem ne_type {w : World} {a b : Nat} {x y : Array Value} {t u : TypeId} (h1 : w.heap[a]? = some (.cells x t (0, 0))) (h2 : w.heap[b]? = some (.cells y u (0, 0))) (hne : t ≠ u) : a ≠ b := by
  intro e
  subst e
  rw [h1] at h2
  simp only [Option.some.injEq, Obj.cells.injEq] at h2
  exact hne h2.2.1
theorem dec_type {w : World} {d : Nat} {h : List Nat} (hd : HasDec w d h) : ∃ cur, w.heap[d]? = some (.cells cur 60 (0, 0)) := by
  obtain ⟨cs, -, -, hh, -⟩ := hd
  exact ⟨_, hh⟩
theorem ref_type {w : World} {d : Nat} {h : List Nat} (hd : HasRef w d h) : ∃ cur, w.heap[d]? = some (.cells cur 42 (0, 0)) := by
  obtain ⟨cs, hh, -⟩ := hd
  exact ⟨_, hh⟩

section
variable {A P R : Nat} {t m : Value} {hp hr : List Nat} {L M : List Tld} {B : Nat} {w : World}
theorem Duo.lt (h : Duo A P R t m hp hr L M B w) {k : Nat} (hk : duoHas A P R t m L M k) : k < w.heap.size ∧ B ≤ k := by
  obtain ⟨cd, hd⟩ := dec_type h.dec
  obtain ⟨cr, hrr⟩ := ref_type h.ref
  rcases hk with rfl | rfl | rfl | hk | hk | ⟨q, hq, hk⟩ | ⟨q, hq, hk⟩
  · exact ⟨lt_of_block h.box, h.loA⟩
  · exact ⟨lt_of_block hd, h.loP⟩
  · exact ⟨lt_of_block hrr, h.loR⟩
  · exact ⟨(h.told.lt k hk).2, (h.told.lt k hk).1⟩
  · exact ⟨(h.want.lt k hk).2, (h.want.lt k hk).1⟩
  · exact ⟨((h.rowsL q hq).lt k hk).2, ((h.rowsL q hq).lt k hk).1⟩
  · exact ⟨((h.rowsM q hq).lt k hk).2, ((h.rowsM q hq).lt k hk).1⟩
theorem Duo.keep (h : Duo A P R t m hp hr L M B w) {w' : World} (hk : ∀ k, duoHas A P R t m L M k → w'.heap[k]? = w.heap[k]?) : Duo A P R t m hp hr L M B w' :=
  ⟨(hk A (.inl rfl)).trans h.box, h.dec.kept (hk P (.inr (.inl rfl))), h.ref.kept (hk R (.inr (.inr (.inl rfl)))), own_keep h.told fun k e => hk k (.inr (.inr (.inr (.inl e)))), own_keep h.want fun k e => hk k (.inr (.inr (.inr (.inr (.inl e))))), h.ap,
    fun q hq => own_keep (h.rowsL q hq) fun k e => hk k (.inr (.inr (.inr (.inr (.inr (.inl ⟨q, hq, e⟩)))))), fun q hq => own_keep (h.rowsM q hq) fun k e => hk k (.inr (.inr (.inr (.inr (.inr (.inr ⟨q, hq, e⟩)))))), h.apL, h.apM, h.apLM, h.loA, h.loP, h.loR⟩
theorem Duo.below (h : Duo A P R t m hp hr L M B w) {w' : World} (hb : Below w.heap.size w w') : Duo A P R t m hp hr L M B w' :=
  h.keep fun k hk => hb.block k (h.lt hk).1
/-- one other block alone is written -/
theorem Duo.grown (h : Duo A P R t m hp hr L M B w) {w' : World} {F : Nat} (hg : w.grownBy w' (some F)) (hF : ∀ k, duoHas A P R t m L M k → k < F) : Duo A P R t m hp hr L M B w' :=
  h.keep fun k hk => hg.block k (h.lt hk).1 (by have := hF k hk; simp only [ne_eq, Option.some.injEq]; omega)
theorem Duo.fed (h : Duo A P R t m hp hr L M B w) {w' : World} {hp' : List Nat} (hg : w.grownBy w' (some P)) (hd : HasDec w' P hp') : Duo A P R t m hp' hr L M B w' := by
  obtain ⟨cd, hdt⟩ := dec_type h.dec
  obtain ⟨cr, hrt⟩ := ref_type h.ref
  have hk : ∀ k, k < w.heap.size → k ≠ P → w'.heap[k]? = w.heap[k]? := fun k h1 h2 => hg.block k h1 (by simp only [ne_eq, Option.some.injEq]; exact h2)
  have hrow : ∀ {e sz n : Nat} {v : Value} {xs : List Value}, w.ownsRow B e sz v n xs → e ≠ 60 → w'.ownsRow B e sz v n xs := fun ho hne => own_keep ho fun k e => by
    obtain ⟨c, hc⟩ := own_type ho e
    exact hk k (ho.lt k e).2 (ne_type hc hdt hne)
  exact ⟨(hk A (lt_of_block h.box) (ne_type h.box hdt (by decide))).trans h.box, hd, h.ref.kept (hk R (lt_of_block hrt) (ne_type hrt hdt (by decide))), hrow h.told (by decide), hrow h.want (by decide), h.ap,
    fun q hq => hrow (h.rowsL q hq) (by decide), fun q hq => hrow (h.rowsM q hq) (by decide), h.apL, h.apM, h.apLM, h.loA, h.loP, h.loR⟩
theorem Duo.rfed (h : Duo A P R t m hp hr L M B w) {w' : World} {hr' : List Nat} (hg : w.grownBy w' (some R)) (hd : HasRef w' R hr') : Duo A P R t m hp hr' L M B w' := by
  obtain ⟨cd, hdt⟩ := dec_type h.dec
  obtain ⟨cr, hrt⟩ := ref_type h.ref
  have hk : ∀ k, k < w.heap.size → k ≠ R → w'.heap[k]? = w.heap[k]? := fun k h1 h2 => hg.block k h1 (by simp only [ne_eq, Option.some.injEq]; exact h2)
  have hrow : ∀ {e sz n : Nat} {v : Value} {xs : List Value}, w.ownsRow B e sz v n xs → e ≠ 42 → w'.ownsRow B e sz v n xs := fun ho hne => own_keep ho fun k e => by
    obtain ⟨c, hc⟩ := own_type ho e
    exact hk k (ho.lt k e).2 (ne_type hc hrt hne)
  exact ⟨(hk A (lt_of_block h.box) (ne_type h.box hrt (by decide))).trans h.box, h.dec.kept (hk P (lt_of_block hdt) (ne_type hdt hrt (by decide))), hd, hrow h.told (by decide), hrow h.want (by decide), h.ap,
    fun q hq => hrow (h.rowsL q hq) (by decide), fun q hq => hrow (h.rowsM q hq) (by decide), h.apL, h.apM, h.apLM, h.loA, h.loP, h.loR⟩

theorem box_put2 {w1 : World} {x y t0 m0 v : Value} {ty : TypeId} (h : w1.heap[A]? = some (.cells #[x, y, t0, m0] ty (0, 0))) : (w1.setCell ⟨A, 2, none⟩ v).heap[A]? = some (.cells #[x, y, v, m0] ty (0, 0)) := by
  simp only [World.setCell, Array.getElem?_modify, if_true, h, Option.map_some]
  rfl
theorem box_put3 {w1 : World} {x y t0 m0 v : Value} {ty : TypeId} (h : w1.heap[A]? = some (.cells #[x, y, t0, m0] ty (0, 0))) : (w1.setCell ⟨A, 3, none⟩ v).heap[A]? = some (.cells #[x, y, t0, v] ty (0, 0)) := by
  simp only [World.setCell, Array.getElem?_modify, if_true, h, Option.map_some]
  rfl
theorem box_cells4 {w1 : World} {x y t0 m0 : Value} {ty : TypeId} (h : w1.heap[A]? = some (.cells #[x, y, t0, m0] ty (0, 0))) : w1.cell? ⟨A, 0, none⟩ = some x ∧ w1.cell? ⟨A, 1, none⟩ = some y ∧ w1.cell? ⟨A, 2, none⟩ = some t0 ∧ w1.cell? ⟨A, 3, none⟩ = some m0 ∧ w1.frozen? ⟨A, 2, none⟩ = false ∧ w1.frozen? ⟨A, 3, none⟩ = false := by
  simp [World.cell?, World.frozen?, h]

theorem Duo.box_told (h : Duo A P R t m hp hr L M B w) {w' : World} (hg : w.grownBy w' t.ownBlock) : w'.heap[A]? = some (.cells #[.pointer (some ⟨P, 0, none⟩), .pointer (some ⟨R, 0, none⟩), t, m] 45 (0, 0)) :=
  (hg.block A (lt_of_block h.box) (fun e => by obtain ⟨c, hc⟩ := own_type h.told e.symm; exact ne_type h.box hc (by decide) rfl)).trans h.box
theorem Duo.box_want (h : Duo A P R t m hp hr L M B w) {w' : World} (hg : w.grownBy w' m.ownBlock) : w'.heap[A]? = some (.cells #[.pointer (some ⟨P, 0, none⟩), .pointer (some ⟨R, 0, none⟩), t, m] 45 (0, 0)) :=
  (hg.block A (lt_of_block h.box) (fun e => by obtain ⟨c, hc⟩ := own_type h.want e.symm; exact ne_type h.box hc (by decide) rfl)).trans h.box
/-- a list more is told: behind the append and the store -/
theorem Duo.tell (h : Duo A P R t m hp hr L M B w) {w' : World} {t' a : Value} {xs : List Int} (hown : w'.ownsRow B 22 1 t' (L.length + 1) (L.map (·.1) ++ [a])) (hg : w.grownBy w' t.ownBlock) (hs : run.Step w t L.length t' (L.length + 1))
    (ha : w.ownsRow B 21 1 a xs.length (rv xs)) (hL : ∀ q ∈ L, Far q.1 a) (hM : ∀ q ∈ M, Far q.1 a) : Duo A P R t' m hp hr (L ++ [(a, xs)]) M B (w'.setCell ⟨A, 2, none⟩ t') := by
  obtain ⟨cd, hdt⟩ := dec_type h.dec
  obtain ⟨cr, hrt⟩ := ref_type h.ref
  have hk : ∀ k, k < w.heap.size → (∀ c, w.heap[k]? ≠ some (.cells c 22 (0, 0))) → w'.heap[k]? = w.heap[k]? := fun k h1 h2 => hg.block k h1 (by
    intro e
    obtain ⟨c, hc⟩ := own_type h.told e.symm
    exact h2 c hc)
  have hkA : ∀ {k : Nat} {c : Array Value} {ty : TypeId}, w.heap[k]? = some (.cells c ty (0, 0)) → ty ≠ 22 → ty ≠ 45 → (w'.setCell ⟨A, 2, none⟩ t').heap[k]? = w.heap[k]? := fun {k c ty} hc h1 h2 => by
    rw [Below.heap_setCell _ _ _ _ (show k ≠ A from ne_type hc h.box h2)]
    refine hk k (lt_of_block hc) fun c' hc' => ?_
    rw [hc] at hc'
    simp only [Option.some.injEq, Obj.cells.injEq] at hc'
    exact h1 hc'.2.1
  have hrow : ∀ {n : Nat} {v : Value} {ys : List Value}, w.ownsRow B 21 1 v n ys → (w'.setCell ⟨A, 2, none⟩ t').ownsRow B 21 1 v n ys := fun ho => own_keep ho fun k e => by
    obtain ⟨c, hc⟩ := own_type ho e
    exact hkA hc (by decide) (by decide)
  have hbox : w'.heap[A]? = some (.cells #[.pointer (some ⟨P, 0, none⟩), .pointer (some ⟨R, 0, none⟩), t, m] 45 (0, 0)) := (hk A (lt_of_block h.box) fun c hc => ne_type h.box hc (by decide) rfl).trans h.box
  have htA : t'.ownBlock ≠ some A := by
    intro e
    obtain ⟨c, hc⟩ := own_type hown e
    exact ne_type hbox hc (by decide) rfl
  have hfm : Far t' m := by
    intro k hk' e
    rcases hs with ⟨g, cap, h1, h2⟩ | hs
    · exact h.ap k (by rw [h1]; rw [h2] at hk'; exact hk') e
    · have := hs k hk'; have := (h.want.lt k e).2; omega
  refine ⟨box_put2 hbox, h.dec.kept (hkA hdt (by decide) (by decide)), h.ref.kept (hkA hrt (by decide) (by decide)), ?_, ?_, hfm, ?_, fun q hq => hrow (h.rowsM q hq), ?_, h.apM, ?_, h.loA, h.loP, h.loR⟩
  · rw [List.length_append, List.map_append]
    exact ownsRow_setCell_other hown htA _
  · refine own_keep h.want fun k e => ?_
    obtain ⟨c, hc⟩ := own_type h.want e
    rw [Below.heap_setCell _ _ _ _ (show k ≠ A from ne_type hc h.box (by decide))]
    exact hg.block k (h.want.lt k e).2 (fun e2 => h.ap k e2.symm e)
  · intro q hq
    rcases List.mem_append.1 hq with hq | hq
    · exact hrow (h.rowsL q hq)
    · rw [List.mem_singleton] at hq
      subst hq
      exact hrow ha
  · exact List.pairwise_append.2 ⟨h.apL, List.pairwise_singleton _ _, fun p hp q hq => by
      rw [List.mem_singleton] at hq
      subst hq
      exact hL p hp⟩
  · intro p hp q hq
    rcases List.mem_append.1 hp with hp | hp
    · exact h.apLM p hp q hq
    · rw [List.mem_singleton] at hp
      subst hp
      exact (hM q hq).symm
/-- likewise of what the document's told -/
theorem Duo.wants (h : Duo A P R t m hp hr L M B w) {w' : World} {m' a : Value} {xs : List Int} (hown : w'.ownsRow B 22 1 m' (M.length + 1) (M.map (·.1) ++ [a])) (hg : w.grownBy w' m.ownBlock) (hs : run.Step w m M.length m' (M.length + 1))
    (ha : w.ownsRow B 21 1 a xs.length (rv xs)) (hL : ∀ q ∈ L, Far q.1 a) (hM : ∀ q ∈ M, Far q.1 a) : Duo A P R t m' hp hr L (M ++ [(a, xs)]) B (w'.setCell ⟨A, 3, none⟩ m') := by
  obtain ⟨cd, hdt⟩ := dec_type h.dec
  obtain ⟨cr, hrt⟩ := ref_type h.ref
  have hk : ∀ k, k < w.heap.size → (∀ c, w.heap[k]? ≠ some (.cells c 22 (0, 0))) → w'.heap[k]? = w.heap[k]? := fun k h1 h2 => hg.block k h1 (by
    intro e
    obtain ⟨c, hc⟩ := own_type h.want e.symm
    exact h2 c hc)
  have hkA : ∀ {k : Nat} {c : Array Value} {ty : TypeId}, w.heap[k]? = some (.cells c ty (0, 0)) → ty ≠ 22 → ty ≠ 45 → (w'.setCell ⟨A, 3, none⟩ m').heap[k]? = w.heap[k]? := fun {k c ty} hc h1 h2 => by
    rw [Below.heap_setCell _ _ _ _ (show k ≠ A from ne_type hc h.box h2)]
    refine hk k (lt_of_block hc) fun c' hc' => ?_
    rw [hc] at hc'
    simp only [Option.some.injEq, Obj.cells.injEq] at hc'
    exact h1 hc'.2.1
  have hrow : ∀ {n : Nat} {v : Value} {ys : List Value}, w.ownsRow B 21 1 v n ys → (w'.setCell ⟨A, 3, none⟩ m').ownsRow B 21 1 v n ys := fun ho => own_keep ho fun k e => by
    obtain ⟨c, hc⟩ := own_type ho e
    exact hkA hc (by decide) (by decide)
  have hbox : w'.heap[A]? = some (.cells #[.pointer (some ⟨P, 0, none⟩), .pointer (some ⟨R, 0, none⟩), t, m] 45 (0, 0)) := (hk A (lt_of_block h.box) fun c hc => ne_type h.box hc (by decide) rfl).trans h.box
  have hmA : m'.ownBlock ≠ some A := by
    intro e
    obtain ⟨c, hc⟩ := own_type hown e
    exact ne_type hbox hc (by decide) rfl
  have hfm : Far t m' := by
    intro k e hk'
    rcases hs with ⟨g, cap, h1, h2⟩ | hs
    · exact h.ap k e (by rw [h1]; rw [h2] at hk'; exact hk')
    · have := hs k hk'; have := (h.told.lt k e).2; omega
  refine ⟨box_put3 hbox, h.dec.kept (hkA hdt (by decide) (by decide)), h.ref.kept (hkA hrt (by decide) (by decide)), ?_, ?_, hfm, fun q hq => hrow (h.rowsL q hq), ?_, h.apL, ?_, ?_, h.loA, h.loP, h.loR⟩
  · refine own_keep h.told fun k e => ?_
    obtain ⟨c, hc⟩ := own_type h.told e
    rw [Below.heap_setCell _ _ _ _ (show k ≠ A from ne_type hc h.box (by decide))]
    exact hg.block k (h.told.lt k e).2 (fun e2 => h.ap k e e2.symm)
  · rw [List.length_append, List.map_append]
    exact ownsRow_setCell_other hown hmA _
  · intro q hq
    rcases List.mem_append.1 hq with hq | hq
    · exact hrow (h.rowsM q hq)
    · rw [List.mem_singleton] at hq
      subst hq
      exact hrow ha
  · exact List.pairwise_append.2 ⟨h.apM, List.pairwise_singleton _ _, fun p hp q hq => by
      rw [List.mem_singleton] at hq
      subst hq
      exact hM p hp⟩
  · intro p hp q hq
    rcases List.mem_append.1 hq with hq | hq
    · exact h.apLM p hp q hq
    · rw [List.mem_singleton] at hq
      subst hq
      exact hL p hp
end

/-- blocks of a kind alone are written; all else that was there stays -/
structure Chg (S : Nat → Prop) (w w' : World) : Prop where
  os : w'.os = w.os
  tape : w'.tape = w.tape
  output : w'.output = w.output
  size : w.heap.size ≤ w'.heap.size
  block : ∀ k, k < w.heap.size → ¬ S k → w'.heap[k]? = w.heap[k]?
theorem Chg.refl (S : Nat → Prop) (w : World) : Chg S w w := ⟨rfl, rfl, rfl, Nat.le_refl _, fun _ _ _ => rfl⟩
theorem Chg.trans {S S' : Nat → Prop} {w w1 w2 : World} (h : Chg S w w1) (h' : Chg S' w1 w2) (hS : ∀ k, k < w.heap.size → S' k → S k) : Chg S w w2 :=
  ⟨h'.os.trans h.os, h'.tape.trans h.tape, h'.output.trans h.output, Nat.le_trans h.size h'.size, fun k hk hn => (h'.block k (Nat.lt_of_lt_of_le hk h.size) fun h2 => hn (hS k hk h2)).trans (h.block k hk hn)⟩
theorem chg_below {S : Nat → Prop} {w w' : World} (h : Below w.heap.size w w') : Chg S w w' := ⟨h.os, h.tape, h.output, h.size, fun k hk _ => h.block k hk⟩
theorem chg_grown {S : Nat → Prop} {w w' : World} {r : Option Nat} (h : w.grownBy w' r) (hr : ∀ k, r = some k → k < w.heap.size → S k) : Chg S w w' := ⟨h.os, h.tape, h.output, h.size, fun k hk hn => h.block k hk fun e => hn (hr k e.symm hk)⟩
theorem chg_cell {S : Nat → Prop} {w : World} {d i : Nat} {u : Value} (hd : S d) : Chg S w (w.setCell ⟨d, i, none⟩ u) := ⟨rfl, rfl, rfl, by simp [World.setCell], fun k hk hn => Below.heap_setCell _ _ _ _ (by intro e; exact hn (by rw [e]; exact hd))⟩
theorem Chg.to_below {S : Nat → Prop} {w0 w w' : World} {B : Nat} (h : Chg S w w') (h0 : Below B w0 w) (hS : ∀ k, S k → B ≤ k) (hB : B ≤ w.heap.size) : Below B w0 w' :=
  ⟨h.os.trans h0.os, h.tape.trans h0.tape, h.output.trans h0.output, Nat.le_trans h0.size h.size, fun k hk => (h.block k (by omega) fun h2 => by have := hS k h2; omega).trans (h0.block k hk)⟩
end Go.Proofs.Ytgjlhjnkcgdopaa.utf
