/-
  A step appended to the steps.
-/
import Derived.Test.YtgfjaegjkklcpaaEdCut
import Derived.Deep.AppendLies
namespace Go.Proofs.Ytgfjaegjkklcpaa.ed
open Go Go.RowKit Go.Proofs
set_option linter.unusedVariables false
theorem StepAt.cells {S : Nat → Prop} {x : St} {sb off : Nat} {w : World} (h : StepAt S x sb off w) : ∀ r, r < 5 → ∃ v, w.cell? ⟨sb, off + r, none⟩ = some v ∧ v.oneCell' = true := by
  obtain ⟨A, out, inn, Z, oa, oc, ia, ic, e1, e2, c0, c1, c2, c3, c4, r1, r2⟩ := h
  intro r hr
  match r, hr with
  | 0, _ => exact ⟨_, c0, rfl⟩
  | 1, _ => exact ⟨_, c1, rfl⟩
  | 2, _ => exact ⟨_, c2, rfl⟩
  | 3, _ => exact ⟨_, c3, rfl⟩
  | 4, _ => exact ⟨_, c4, rfl⟩
theorem StepAt.moved {S S1 S' : Nat → Prop} {x : St} {sb off kb offb : Nat} {w w' : World} (h : StepAt S x sb off w) (hc : ∀ r v, r < 5 → w.cell? ⟨sb, off + r, none⟩ = some v → w'.cell? ⟨kb, offb + r, none⟩ = some v) (hk : Kept S1 w w') (h1 : ∀ k, S1 k → S k) (h2 : ∀ k, S' k → S k ∨ w.heap.size ≤ k) : StepAt S' x kb offb w' := by
  obtain ⟨A, out, inn, Z, oa, oc, ia, ic, e1, e2, c0, c1, c2, c3, c4, r1, r2⟩ := h
  exact ⟨A, out, inn, Z, oa, oc, ia, ic, e1, e2, hc 0 _ (by omega) c0, hc 1 _ (by omega) c1, hc 2 _ (by omega) c2, hc 3 _ (by omega) c3, hc 4 _ (by omega) c4, r1.kept hk h1 h2, r2.kept hk h1 h2⟩
theorem steps_olds {S : Nat → Prop} {sb off : Nat} {L : List St} {w : World} (hat : ∀ j x, L[j]? = some x → StepAt S x sb (off + j * 5) w) : ∀ n, n ≤ L.length → ∃ olds : List Value, olds.length = n * 5 ∧ (∀ j v, olds[j]? = some v → w.cell? ⟨sb, off + j, none⟩ = some v) ∧ ∀ v ∈ olds, v.oneCell' = true
  | 0, _ => ⟨[], rfl, fun j v h => by simp at h, fun v h => by cases h⟩
  | n + 1, hn => by
    obtain ⟨olds, hl, hc, h1⟩ := steps_olds hat n (by omega)
    obtain ⟨x, hx⟩ : ∃ x, L[n]? = some x := ⟨L[n], List.getElem?_eq_getElem (by omega)⟩
    have hs := hat n x hx
    obtain ⟨v0, a0, b0⟩ := hs.cells 0 (by omega)
    obtain ⟨v1, a1, b1⟩ := hs.cells 1 (by omega)
    obtain ⟨v2, a2, b2⟩ := hs.cells 2 (by omega)
    obtain ⟨v3, a3, b3⟩ := hs.cells 3 (by omega)
    obtain ⟨v4, a4, b4⟩ := hs.cells 4 (by omega)
    refine ⟨olds ++ [v0, v1, v2, v3, v4], by rw [List.length_append, hl]; simp; omega, fun j v hj => ?_, fun v hv => ?_⟩
    · rcases Nat.lt_or_ge j olds.length with h | h
      · rw [List.getElem?_append_left h] at hj
        exact hc j v hj
      · rw [List.getElem?_append_right h, hl] at hj
        have hlt := (List.getElem?_eq_some_iff.1 hj).1
        simp only [List.length_cons, List.length_nil] at hlt
        obtain ⟨r, hr⟩ : ∃ r, r = j - n * 5 := ⟨_, rfl⟩
        rw [← hr] at hj hlt
        rw [show off + j = off + n * 5 + r by omega]
        match r, hlt with
        | 0, _ => simp only [List.getElem?_cons_zero, Option.some.injEq] at hj; subst hj; exact a0
        | 1, _ => simp only [List.getElem?_cons_succ, List.getElem?_cons_zero, Option.some.injEq] at hj; subst hj; exact a1
        | 2, _ => simp only [List.getElem?_cons_succ, List.getElem?_cons_zero, Option.some.injEq] at hj; subst hj; exact a2
        | 3, _ => simp only [List.getElem?_cons_succ, List.getElem?_cons_zero, Option.some.injEq] at hj; subst hj; exact a3
        | 4, _ => simp only [List.getElem?_cons_succ, List.getElem?_cons_zero, Option.some.injEq] at hj; subst hj; exact a4
    · rcases List.mem_append.1 hv with h | h
      · exact h1 v h
      · simp only [List.mem_cons, List.not_mem_nil, or_false] at h
        rcases h with rfl | rfl | rfl | rfl | rfl
        · exact b0
        · exact b1
        · exact b2
        · exact b3
        · exact b4
theorem info_change : (Try.prog.info? 88).map (fun i => (i.zero, i.size, i.bytes)) = some (some (.agg #[.int .i64 0, .slice none 0 0, .slice none 0 0, .int .i64 0, .int .i64 0]), 5, 72) := by kernel_rfl
/-- the append, whatever lies ahead -/
theorem steps_append {S : Nat → Prop} {sv : Value} {L : List St} {w : World} (h : StepsAt S sv L w) {dn : Nat} (hdn : dn ≤ L.length) (hsm : dn ≤ 4096) {S1 : Nat → Prop} {wq : World} (hq : Kept S1 w wq) (h1 : ∀ k, S1 k → S k)
    {kb : Nat} {x1 x4 x5 : Int} {a2 a3 : Option Addr} {n2 c2 n3 c3 : Nat} (hkb : wq.heap[kb]? = some (.cells #[.int .i64 x1, .slice a2 n2 c2, .slice a3 n3 c3, .int .i64 x4, .int .i64 x5] 88 (0, 0))) (ty : TypeId) :
    ∃ a c0 cap' w6, sv = .slice a L.length c0 ∧ L.length ≤ c0 ∧ Adr a c0 ∧ (Builtin.append_ #[78, 78] ty #[.slice a dn dn, .slice (some ⟨kb, 0, none⟩) 1 1]).run Try.prog wq = .ok (.slice (some ⟨wq.heap.size, 0, none⟩) (dn + 1) cap') w6 ∧ dn + 1 ≤ cap' ∧ Kept (fun _ => False) wq w6 ∧ w6.heap.size = wq.heap.size + 1 ∧
      (∀ (S' : Nat → Prop), (∀ k, S' k → S k ∨ w.heap.size ≤ k) → ∀ j x, (L.take dn)[j]? = some x → StepAt S' x wq.heap.size (j * 5) w6) ∧
      w6.cell? ⟨wq.heap.size, dn * 5, none⟩ = some (.int .i64 x1) ∧ w6.cell? ⟨wq.heap.size, dn * 5 + 1, none⟩ = some (.slice a2 n2 c2) ∧ w6.cell? ⟨wq.heap.size, dn * 5 + 2, none⟩ = some (.slice a3 n3 c3) ∧ w6.cell? ⟨wq.heap.size, dn * 5 + 3, none⟩ = some (.int .i64 x4) ∧ w6.cell? ⟨wq.heap.size, dn * 5 + 4, none⟩ = some (.int .i64 x5) := by
  obtain ⟨it, hinf, hz0, hsz, hby⟩ := info_parts info_change
  obtain ⟨a, c0, rfl, hLc, hr⟩ := h
  have hnews : ∀ j v, ([.int .i64 x1, .slice a2 n2 c2, .slice a3 n3 c3, .int .i64 x4, .int .i64 x5] : List Value)[j]? = some v → wq.cell? ((⟨kb, 0, none⟩ : Addr).add j) = some v := by
    intro j v hj
    rw [run.add_none, Nat.zero_add]
    rw [blk_cell hkb]
    rw [← List.getElem?_toArray] at hj
    exact hj
  rcases hr with ⟨rfl, rfl⟩ | ⟨sb, off, rfl, hlt, hsS, hat⟩
  · obtain rfl : dn = 0 := by omega
    have hL0 : L.length = 0 := by omega
    have hge := grownCap_ge wq 1 0 88
    refine ⟨none, 0, _, _, rfl, by omega, .inl ⟨rfl, rfl⟩, run_append_nil wq 78 ty 88 it _ Try.underlying78 hinf hz0 ⟨kb, 0, none⟩ 1 1 [.int .i64 x1, .slice a2 n2 c2, .slice a3 n3 c3, .int .i64 x4, .int .i64 x5] (by rw [hsz]; rfl) hnews (by omega) (by omega) (by rw [hby]; omega), by omega, (Kept.refl _ wq).drew.alloc _, by rw [World.size_alloc]; rfl, fun S' _ j x hx => by simp at hx, ?_⟩
    have hn := heap_alloc_new wq.drew (.cells (([.int .i64 x1, .slice a2 n2 c2, .slice a3 n3 c3, .int .i64 x4, .int .i64 x5] : List Value).toArray ++ Builtin.zeroCells (Value.agg #[.int .i64 0, .slice none 0 0, .slice none 0 0, .int .i64 0, .int .i64 0]).cells (grownCap wq 1 0 88 - 1)) 88)
    rw [show wq.drew.heap.size = wq.heap.size from rfl] at hn
    refine ⟨?_, ?_, ?_, ?_, ?_⟩ <;> (rw [blk_cell hn, Array.getElem?_append_left (by simp)]; rfl)
  · obtain ⟨olds, hol, hoc, ho1⟩ := steps_olds hat dn hdn
    have hge := grownCap_ge wq (dn + 1) dn 88
    have hnc := nextslicecap_le (need := dn + 1) (old := dn) (by omega)
    have hbq := hq.block sb hlt (fun h => hsS (h1 sb h))
    have holds : ∀ j v, olds[j]? = some v → wq.cell? ((⟨sb, off, none⟩ : Addr).add j) = some v := by
      intro j v hj
      rw [run.add_none]
      exact (World.cell?_of_block (a := ⟨sb, off + j, none⟩) hbq).trans (hoc j v hj)
    have hn := heap_alloc_new wq.drew (.cells (olds.toArray ++ ([.int .i64 x1, .slice a2 n2 c2, .slice a3 n3 c3, .int .i64 x4, .int .i64 x5] : List Value).toArray ++ Builtin.zeroCells (Value.agg #[.int .i64 0, .slice none 0 0, .slice none 0 0, .int .i64 0, .int .i64 0]).cells (grownCap wq (dn + 1) dn 88 - (dn + 1))) 88)
    rw [show wq.drew.heap.size = wq.heap.size from rfl] at hn
    have hkw : Kept (fun _ => False) wq (wq.drew.alloc (.cells (olds.toArray ++ ([.int .i64 x1, .slice a2 n2 c2, .slice a3 n3 c3, .int .i64 x4, .int .i64 x5] : List Value).toArray ++ Builtin.zeroCells (Value.agg #[.int .i64 0, .slice none 0 0, .slice none 0 0, .int .i64 0, .int .i64 0]).cells (grownCap wq (dn + 1) dn 88 - (dn + 1))) 88)) := (Kept.refl _ wq).drew.alloc _
    refine ⟨some ⟨sb, off, none⟩, c0, _, _, rfl, hLc, .inr ⟨sb, off, rfl⟩, run_append_grow wq 78 ty 88 it _ Try.underlying78 hinf hz0 ⟨sb, off, none⟩ dn dn olds (by rw [hsz, hol]) holds ⟨kb, 0, none⟩ 1 1 [.int .i64 x1, .slice a2 n2 c2, .slice a3 n3 c3, .int .i64 x4, .int .i64 x5] (by rw [hsz]; rfl) hnews (by omega) (by omega) (by rw [hby]; omega), hge, hkw, by rw [World.size_alloc]; rfl, fun S' hS' j x hx => ?_, ?_⟩
    · have hjd : j < dn := by
        have := (List.getElem?_eq_some_iff.1 hx).1
        rw [List.length_take] at this
        omega
      rw [List.getElem?_take_of_lt hjd] at hx
      have hk2 : Kept S1 w (wq.drew.alloc (.cells (olds.toArray ++ ([.int .i64 x1, .slice a2 n2 c2, .slice a3 n3 c3, .int .i64 x4, .int .i64 x5] : List Value).toArray ++ Builtin.zeroCells (Value.agg #[.int .i64 0, .slice none 0 0, .slice none 0 0, .int .i64 0, .int .i64 0]).cells (grownCap wq (dn + 1) dn 88 - (dn + 1))) 88)) := hq.trans hkw (fun _ _ h => h.elim)
      refine (hat j x hx).moved (fun r v hr hv => ?_) hk2 h1 hS'
      have hlt2 : j * 5 + r < olds.length := by rw [hol]; omega
      have hov : olds[j * 5 + r]? = some v := by
        rw [List.getElem?_eq_getElem hlt2]
        have := hoc (j * 5 + r) _ (List.getElem?_eq_getElem hlt2)
        rw [show off + (j * 5 + r) = off + j * 5 + r by omega, hv] at this
        exact this.symm
      rw [blk_cell hn, Array.append_assoc, Array.getElem?_append_left (by simpa using hlt2), List.getElem?_toArray]
      exact hov
    · refine ⟨?_, ?_, ?_, ?_, ?_⟩ <;> (rw [blk_cell hn, Array.append_assoc, Array.getElem?_append_right (by simp [hol]), Array.getElem?_append_left (by simp [hol])]; simp [hol])
section
variable {o : Oper} {ρ : Operand → Value} {w : World} {p q : Operand} {v1 v2 v3 v4 v5 : Value}
theorem run_buildS {x1 x4 x5 : Int} {a2 a3 : Option Addr} {n2 c2 n3 c3 : Nat} (ho : o.op = .buildSlice 78 1 #[(0, p)]) (hp : ρ p = .agg #[.int .i64 x1, .slice a2 n2 c2, .slice a3 n3 c3, .int .i64 x4, .int .i64 x5]) :
    (execOp ρ o).run Try.prog w = .ok (.value (.slice (some ⟨w.heap.size, 0, none⟩) 1 1)) (w.alloc (.cells #[.int .i64 x1, .slice a2 n2 c2, .slice a3 n3 c3, .int .i64 x4, .int .i64 x5] 88)) := by
  unfold execOp
  simp only [ho]
  simp [go_sem, hp]
theorem run_load5 {b : Nat} {t : TypeId} (ho : o.op = .load 88 p) (hp : ρ p = .pointer (some ⟨b, 0, none⟩)) (hb : w.heap[b]? = some (.cells #[v1, v2, v3, v4, v5] t (0, 0))) : (execOp ρ o).run Try.prog w = .ok (.value (.agg #[v1, v2, v3, v4, v5])) w := by
  have c0 := blk_cell hb 0
  have c1 := blk_cell hb 1
  have c2 := blk_cell hb 2
  have c3 := blk_cell hb 3
  have c4 := blk_cell hb 4
  change w.cell? _ = some v1 at c0
  change w.cell? _ = some v2 at c1
  change w.cell? _ = some v3 at c2
  change w.cell? _ = some v4 at c3
  change w.cell? _ = some v5 at c4
  unfold execOp
  simp only [ho, hp]
  simp [go_sem, c0, c1, c2, c3, c4]
theorem run_storeS {b i : Nat} {a a' : Option Addr} {n c n' c' : Nat} (ho : o.op = .store 78 p q) (hp : ρ p = .pointer (some ⟨b, i, none⟩)) (hq : ρ q = .slice a n c) (hc : w.cell? ⟨b, i, none⟩ = some (.slice a' n' c')) (hf : w.frozen? ⟨b, i, none⟩ = false) : (execOp ρ o).run Try.prog w = .ok .skip (w.setCell ⟨b, i, none⟩ (.slice a n c)) := by
  unfold execOp
  simp only [ho, hp, hq]
  simp [go_sem, hc, hf]
end
theorem StepsAt.tail {S : Nat → Prop} {k n c : Nat} {L : List St} {w : World} (h : StepsAt S (.slice (some ⟨k, 0, none⟩) (n + 1) c) L w) : StepsAt S (.slice (some ⟨k, 5, none⟩) n (c - 1)) (L.drop 1) w := by
  obtain ⟨a, cap, e, hl, hr⟩ := h
  simp only [Value.slice.injEq] at e
  obtain ⟨rfl, e2, rfl⟩ := e
  rcases hr with ⟨h1, -⟩ | ⟨sb, off, h1, h2, h3, h4⟩
  · cases h1
  · simp only [Option.some.injEq, Addr.mk.injEq, and_true] at h1
    obtain ⟨rfl, rfl⟩ := h1
    refine ⟨some ⟨k, 5, none⟩, c - 1, by rw [List.length_drop, ← e2]; rfl, by rw [List.length_drop]; omega, .inr ⟨k, 5, rfl, h2, h3, fun j x hj => ?_⟩⟩
    rw [List.getElem?_drop] at hj
    have := h4 (1 + j) x hj
    rw [show 0 + (1 + j) * 5 = 5 + j * 5 by omega] at this
    exact this
end Go.Proofs.Ytgfjaegjkklcpaa.ed
