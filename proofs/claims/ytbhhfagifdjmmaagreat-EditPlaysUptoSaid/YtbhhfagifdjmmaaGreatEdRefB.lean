/-
  The document's editor: its size, what is held alike, step, Insert, Delete, View.
-/
import Derived.Test.YtbhhfagifdjmmaaGreatEdRefA
import Derived.Test.YtbhhfagifdjmmaaGreatAlone
import Derived.Deep.RegionHeld3
import Derived.Deep.DeepCutAuto
import Derived.Deep.CutBlock
import Derived.Test.YtbhhfagifdjmmaaGreatEdMany
namespace Go.Proofs.YtbhhfagifdjmmaaGreat.ed
open Go Go.RowKit Go.Proofs
set_option linter.unusedVariables false
set_option maxRecDepth 100000 in
set_option maxHeartbeats 1000000 in
theorem rsize_any (v : Value) (F : List TV) (w : World) (hv : clu.Reads2 w v F) (hF : F.length ≤ 1099511627776) (hz : sizeL F ≤ 35184372088832) :
    Calls Tryz.prog 45 #[v] w fun e w' => e = .returned (.int .i64 (sizeL F : Nat)) ∧ w' = w := by
  have R1 := run.hid hv
  obtain ⟨a1, k1, rfl, -⟩ := hv
  have HT := run.hid (fun i => @sizeL_snoc F i)
  have HL := run.hid (fun i => textL_le F i)
  have hz0 : Hid (sizeL (F.take 0) = 0) := rfl
  change Hid (∀ i, sizeL (F.take i) ≤ sizeL F) at HL
  go_enter Tryz.func45, Tryz.ntmps45
  go_wp2
  go_loop [4, 3] (fun vi vs => ∃ i : Nat, i ≤ F.length ∧ vi = .int .i64 i ∧ vs = .int .i64 (sizeL (F.take i) : Nat)) (fun vi _ => ((F.length : Int) - intOf vi).toNat)
  case atStart => exact ⟨0, by omega, rfl, by rw [hz0.out]; rfl⟩
  case round =>
    obtain ⟨i, hi, rfl, rfl⟩ := hrel
    by_cases hlt : i < F.length
    · obtain ⟨a', cap', e1, hrow⟩ := R1.out
      simp only [Value.slice.injEq] at e1
      obtain ⟨rfl, -, rfl⟩ := e1
      obtain ⟨b1, o1, rfl, hlb1, hx0, hx1⟩ := hrow i hlt
      clear hrow hx1
      have HTi := run.hid (HT.out i hlt)
      have hle := HL.out (i + 1)
      rw [HTi.out] at hle
      change w.cell? _ = some (.string (F.getD i tv0).1) at hx0
      generalize F.getD i tv0 = q at *
      obtain ⟨qs, qw⟩ := q
      dsimp only at hx0 HTi hle
      generalize sizeL (F.take i) = sm at *
      go_wp2
      go_round
      case rel => exact ⟨i + 1, by omega, by go_num, by rw [HTi.out]; go_num⟩
      case measure => simp [intOf]; omega
    · obtain rfl : i = F.length := by omega
      rw [List.take_of_length_le (Nat.le_refl _)]
      go_wp2
      go_ret
      exact ⟨rfl, rfl⟩
set_option maxHeartbeats 1000000 in
theorem rsame_any (a1 a2 : Option Addr) (c1 c2 : Nat) (A B : List TV) (x1 x2 : Nat) (w : World) (h1 : clu.Reads2 w (.slice a1 A.length c1) A) (h2 : clu.Reads2 w (.slice a2 B.length c2) B) (hA : A.length ≤ 1099511627776) (hB : B.length ≤ 1099511627776) :
    Calls Tryz.prog 46 #[.agg #[.slice a1 A.length c1, .int .i64 (x1 : Nat)], .agg #[.slice a2 B.length c2, .int .i64 (x2 : Nat)]] w fun e w' => e = .returned (.bool (decide (A = B ∧ x1 = x2))) ∧ Below w.heap.size w w' := by
  have HS := run.hid (fun (X : World) (hb : Below w.heap.size w X) => clu.refSameC_any _ _ _ _ X (clu.readsI_up (h1.below hb)) (clu.readsI_up (h2.below hb)) (by rw [clu.upI_length]; exact hA) (by rw [clu.upI_length]; exact hB))
  have HAB : Hid (clu.sameC (clu.upI A) (clu.upI B) = decide (A = B)) := by
    show _ = _
    unfold clu.sameC
    exact decide_eq_decide.2 ⟨clu.upI_inj, fun h => by rw [h]⟩
  rw [HAB.out] at HS
  clear HAB h1 h2
  have HD : Hid (∀ p : Bool, decide (A = B) = p → decide (A = B ∧ x1 = x2) = (p && decide (x1 = x2))) := fun p h => by rw [← h, Bool.decide_and]
  generalize decide (A = B) = p at *
  have hd := HD.out p rfl
  rw [hd]
  clear HD hd
  generalize A.length = NA at *
  generalize B.length = NB at *
  have hwa := run.below_one w (.cells #[.slice a1 NA c1, .int .i64 (x1 : Nat)] 47)
  have hwb := hwa.alloc hwa.size (.cells #[.slice a2 NB c2, .int .i64 (x2 : Nat)] 47)
  have h0 := run.heap_new w (.cells #[.slice a1 NA c1, .int .i64 (x1 : Nat)] 47)
  have h1 := run.heap_new (w.alloc (.cells #[.slice a1 NA c1, .int .i64 (x1 : Nat)] 47)) (.cells #[.slice a2 NB c2, .int .i64 (x2 : Nat)] 47)
  have HW := run.hid (And.intro hwb (And.intro h0 h1))
  clear hwa hwb h0 h1
  go_enter Tryz.func46, Tryz.ntmps46
  go_wp2_with fail
  refine (HS.out _ HW.out.1).mono ?_
  rintro e w9 ⟨rfl, hb9⟩
  have hb := HW.out.1
  have hk0 := HW.out.2.1
  have hk1 := HW.out.2.2
  have hlt0 := (Array.getElem?_eq_some_iff.1 hk0).1
  have hlt1 := (Array.getElem?_eq_some_iff.1 hk1).1
  have hk0b := ((run.below_one (w.alloc (.cells #[.slice a1 NA c1, .int .i64 (x1 : Nat)] 47)) (.cells #[.slice a2 NB c2, .int .i64 (x2 : Nat)] 47)).block _ hlt0).trans hk0
  have d0 := (hb9.cell (p := ⟨w.heap.size, 1, none⟩) (by simp only [World.size_alloc]; omega)).trans (blk_cell hk0b 1)
  have d1 := (hb9.cell (p := ⟨w.heap.size + 1, 1, none⟩) (by simp only [World.size_alloc]; omega)).trans (blk_cell (by rw [World.size_alloc] at hk1; exact hk1) 1)
  change w9.cell? _ = some (.int .i64 (x1 : Nat)) at d0
  change w9.cell? _ = some (.int .i64 (x2 : Nat)) at d1
  have HF := run.hid (hb.trans (hb9.mono hb.size))
  clear hb hk0 hk1 hlt0 hlt1 hk0b hb9 HW HS
  cases p <;> go_wp2 <;> go_ret <;> refine ⟨?_, HF.out⟩
  · rfl
  · have hx : ((x1 : Int) == (x2 : Int)) = decide (x1 = x2) := by
      by_cases h : x1 = x2
      · rw [h, decide_eq_true rfl]; exact beq_self_eq_true _
      · rw [decide_eq_false h]; exact beq_eq_false_iff_ne.2 (by omega)
    rw [Bool.true_and, ← hx]
    rfl
end Go.Proofs.YtbhhfagifdjmmaaGreat.ed
namespace Go.Proofs.YtbhhfagifdjmmaaGreat.ed
open Go Go.RowKit Go.Proofs
set_option linter.unusedVariables false
/-- a step's four values in a list of values -/
def StV (S : Nat → Prop) (w : World) (x : St) (xs : List Value) (o : Nat) : Prop :=
  ∃ ab cb aa ca, xs[o]? = some (.slice ab x.bef.length cb) ∧ xs[o + 1]? = some (.int .i64 (x.ahead : Nat)) ∧ xs[o + 2]? = some (.slice aa x.aft.length ca) ∧ xs[o + 3]? = some (.int .i64 (x.after : Nat)) ∧ Rd S w ab cb x.bef ∧ Rd S w aa ca x.aft
theorem StV.left {S : Nat → Prop} {w : World} {x : St} {xs : List Value} {o : Nat} (h : StV S w x xs o) (ys : List Value) : StV S w x (xs ++ ys) o := by
  obtain ⟨ab, cb, aa, ca, h0, h1, h2, h3, r1, r2⟩ := h
  have g : ∀ i v, xs[i]? = some v → (xs ++ ys)[i]? = some v := fun i v hi => by rw [List.getElem?_append_left (List.getElem?_eq_some_iff.1 hi).1]; exact hi
  exact ⟨ab, cb, aa, ca, g _ _ h0, g _ _ h1, g _ _ h2, g _ _ h3, r1, r2⟩
theorem StV.right {S : Nat → Prop} {w : World} {x : St} {xs : List Value} {o : Nat} {ab aa : Option Addr} {cb ca : Nat} (hl : xs.length = o) (r1 : Rd S w ab cb x.bef) (r2 : Rd S w aa ca x.aft) : StV S w x (xs ++ [.slice ab x.bef.length cb, .int .i64 (x.ahead : Nat), .slice aa x.aft.length ca, .int .i64 (x.after : Nat)]) o := by
  subst hl
  refine ⟨ab, cb, aa, ca, ?_, ?_, ?_, ?_, r1, r2⟩
  · rw [List.getElem?_append_right (Nat.le_refl _), Nat.sub_self]; rfl
  · rw [List.getElem?_append_right (by omega), show xs.length + 1 - xs.length = 1 by omega]; rfl
  · rw [List.getElem?_append_right (by omega), show xs.length + 2 - xs.length = 2 by omega]; rfl
  · rw [List.getElem?_append_right (by omega), show xs.length + 3 - xs.length = 3 by omega]; rfl
theorem rolds {S : Nat → Prop} {a : Option Addr} {cap : Nat} {L : List St} {w : World} (h : RSteps S a cap L w) : ∀ n, n ≤ L.length → ∃ olds : List Value, olds.length = n * 4 ∧ (∀ v ∈ olds, v.oneCell' = true) ∧
    (∀ j v, olds[j]? = some v → ∃ sb off, a = some ⟨sb, off, none⟩ ∧ sb < w.heap.size ∧ w.cell? ⟨sb, off + j, none⟩ = some v) ∧ ∀ j x, j < n → L[j]? = some x → StV S w x olds (j * 4)
  | 0, _ => ⟨[], rfl, fun v h => (by cases h), fun j v h => (by simp at h), fun j x h => (by omega)⟩
  | n + 1, hn => by
    obtain ⟨olds, hl, h1, hc, hsv⟩ := rolds h n (by omega)
    obtain ⟨x, hx⟩ : ∃ x, L[n]? = some x := ⟨L[n], List.getElem?_eq_getElem (by omega)⟩
    obtain ⟨hcap, ⟨-, h0⟩ | ⟨sb, off, rfl, hlt, hsb, hst⟩⟩ := h
    · omega
    obtain ⟨ab, cb, aa, ca, k0, k1, k2, k3, r1, r2⟩ := hst n x hx
    refine ⟨olds ++ [.slice ab x.bef.length cb, .int .i64 (x.ahead : Nat), .slice aa x.aft.length ca, .int .i64 (x.after : Nat)], by rw [List.length_append, hl]; simp; omega, fun v hv => ?_, fun j v hj => ?_, fun j y hj hy => ?_⟩
    · rcases List.mem_append.1 hv with h | h
      · exact h1 v h
      · simp only [List.mem_cons, List.not_mem_nil, or_false] at h
        rcases h with rfl | rfl | rfl | rfl <;> rfl
    · rcases Nat.lt_or_ge j olds.length with h | h
      · rw [List.getElem?_append_left h] at hj
        exact hc j v hj
      · rw [List.getElem?_append_right h, hl] at hj
        have hlt2 := (List.getElem?_eq_some_iff.1 hj).1
        simp only [List.length_cons, List.length_nil] at hlt2
        obtain ⟨r, hr⟩ : ∃ r, r = j - n * 4 := ⟨_, rfl⟩
        rw [← hr] at hj hlt2
        refine ⟨sb, off, rfl, hlt, ?_⟩
        rw [show off + j = off + n * 4 + r by omega]
        match r, hlt2 with
        | 0, _ => simp only [List.getElem?_cons_zero, Option.some.injEq] at hj; subst hj; exact k0
        | 1, _ => simp only [List.getElem?_cons_succ, List.getElem?_cons_zero, Option.some.injEq] at hj; subst hj; exact k1
        | 2, _ => simp only [List.getElem?_cons_succ, List.getElem?_cons_zero, Option.some.injEq] at hj; subst hj; exact k2
        | 3, _ => simp only [List.getElem?_cons_succ, List.getElem?_cons_zero, Option.some.injEq] at hj; subst hj; exact k3
    · rcases Nat.lt_or_ge j n with h | h
      · exact (hsv j y h hy).left _
      · have : j = n := by omega
        subst this
        rw [hx] at hy
        cases hy
        exact StV.right hl r1 r2
theorem rolds_reads {S : Nat → Prop} {a : Option Addr} {cap : Nat} {L : List St} {w : World} (h : RSteps S a cap L w) {n : Nat} {olds : List Value} (hl : olds.length = n * 4) (hc : ∀ j v, olds[j]? = some v → ∃ sb off, a = some ⟨sb, off, none⟩ ∧ sb < w.heap.size ∧ w.cell? ⟨sb, off + j, none⟩ = some v) : run.ReadsN 4 w (.slice a n cap) n olds := by
  refine ⟨hl, a, cap, rfl, fun hne => ?_, fun ha => ?_⟩
  · obtain ⟨v, hv⟩ : ∃ v, olds[0]? = some v := by
      cases olds with
      | nil => exact absurd rfl hne
      | cons v t => exact ⟨v, rfl⟩
    obtain ⟨sb, off, rfl, hlt, -⟩ := hc 0 v hv
    refine ⟨sb, off, rfl, hlt, fun i u hi => ?_⟩
    obtain ⟨sb', off', e, -, hk⟩ := hc i u hi
    simp only [Option.some.injEq, Addr.mk.injEq, and_true] at e
    obtain ⟨rfl, rfl⟩ := e
    exact hk
  · rcases h.2 with ⟨-, h0⟩ | ⟨sb, off, h0, -⟩
    · exact h0
    · rw [h0] at ha; cases ha
/-- an owned row of steps, as they are told -/
theorem rsteps_own {S S1 S' : Nat → Prop} {w wf : World} {B g n cap : Nat} {xs : List Value} {L : List St} {e : TypeId} (h : wf.ownsRow B e 4 (.slice (some ⟨g, 0, none⟩) n cap) n xs) (hn : L.length = n) (hB : w.heap.size ≤ B) (hk : Kept S1 w wf) (h1 : ∀ k, S1 k → S k) (h2 : ∀ k, S' k → S k ∨ w.heap.size ≤ k) (hS : ¬ S' g) (hx : ∀ j x, L[j]? = some x → StV S w x xs (j * 4)) : RSteps S' (some ⟨g, 0, none⟩) cap L wf ∧ RSteps S' (some ⟨g, 4, none⟩) (cap - 1) (L.drop 1) wf := by
  have hc : n ≤ cap ∧ g < wf.heap.size := by
    rcases h.2 with ⟨h0, -⟩ | ⟨g', cap', cur, h0, -, h2, h1, -⟩
    · simp at h0
    · simp only [Value.slice.injEq, Option.some.injEq, Addr.mk.injEq, and_true] at h0
      obtain ⟨rfl, -, rfl⟩ := h0
      exact ⟨h1, (Array.getElem?_eq_some_iff.1 h2).1⟩
  have hst : ∀ j x, L[j]? = some x → RStep S' x g (j * 4) wf := by
    intro j x hj
    have hjl := (List.getElem?_eq_some_iff.1 hj).1
    obtain ⟨ab, cb, aa, ca, k0, k1, k2, k3, r1, r2⟩ := hx j x hj
    exact ⟨ab, cb, aa, ca, (h.cellAt (j * 4) (by omega)).trans k0, (h.cellAt (j * 4 + 1) (by omega)).trans k1, (h.cellAt (j * 4 + 2) (by omega)).trans k2, (h.cellAt (j * 4 + 3) (by omega)).trans k3, r1.kept hk h1 h2, r2.kept hk h1 h2⟩
  refine ⟨⟨by omega, .inr ⟨g, 0, rfl, hc.2, hS, fun j x hj => by rw [Nat.zero_add]; exact hst j x hj⟩⟩, ⟨by rw [List.length_drop]; omega, .inr ⟨g, 4, rfl, hc.2, hS, fun j x hj => ?_⟩⟩⟩
  rw [List.getElem?_drop] at hj
  have := hst _ x hj
  rw [show (1 + j) * 4 = 4 + j * 4 by omega] at this
  exact this
theorem info_step : (Tryz.prog.info? 81).map (fun i => (i.zero, i.size, i.bytes)) = some (some (.agg #[.slice none 0 0, .int .i64 0, .slice none 0 0, .int .i64 0]), 4, 64) := by kernel_rfl
theorem step_append_any {P : Program} (w : World) {ops : Array Oper} {o : Oper} {a : Act} {K : Act → World → Prop} {Q : Exit → Act → World → Prop} {E : Prop} (hgd : o.guard = none) (s x : Operand) (t : TypeId)
    (ho : o.op = .call { callee := .builtin .append, args := #[s, x], argTypes := #[t, t] })
    (base : Nat) (e : TypeId) (i : TypeInfo) (z : Value) (size bytes : Nat) (ht : P.underlying t = some (.slice e)) (hi : P.info? e = some i) (hz : i.zero = some z)
    (hsize : i.size = size) (hby : i.bytes = bytes) (hzs : z.cells.size = size) (hsz : 0 < size)
    (v : Value) (n : Nat) (xs : List Value) (hs : a.eval s = v) (hown : w.ownsRow base e size v n xs)
    (xv : Value) (m : Nat) (news : List Value) (hxe : a.eval x = xv) (hx : run.ReadsN size w xv m news) (h1 : ∀ u ∈ news, u.oneCell' = true)
    (h63 : n + m ≤ maxLen) (hbytes : (n + m) * bytes ≤ 140737488355328) (hbase : base ≤ w.heap.size)
    (h : ∀ v' w', w'.ownsRow base e size v' (n + m) (xs ++ news) → w.grownBy w' v.ownBlock → w'.ownsRow base e size v n xs → run.Step w v n v' (n + m) → K (a.put o.dst v') w') :
    if Region.wanted o (yielded ops a.tmps) = true then Oper.wp P o a w K Q else E := by
  have hw : Region.wanted o (yielded ops a.tmps) = true := by simp [Region.wanted, hgd]
  rw [if_pos hw]
  obtain ⟨v', w', hr, h2, h3, h4, h5⟩ := run.run_append_any (P := P) w base t o.type e i z size bytes ht hi hz hsize hby hzs hsz v n xs hown xv m news hx h1 h63 hbytes hbase
  unfold Oper.wp execOp
  simp only [ho, resolve, invoke, builtin, Sem.run_bind, Sem.run_pure, Result.andThen_ok, List.map_toArray, List.map_cons, List.map_nil, hs, hxe, hr]
  first | exact h _ _ h2 h3 h4 h5 | exact .inl (h _ _ h2 h3 h4 h5)
def stepT (s : Sta) (B : List TV) (caret : Nat) : Sta := ⟨B, caret, -1, lim (s.L.take s.dn ++ [⟨s.F, s.ca, B, caret⟩]), (lim (s.L.take s.dn ++ [⟨s.F, s.ca, B, caret⟩])).length⟩
theorem keep2 {r : Nat} {x y : Value} {w w' : World} (c3 : w.cell? ⟨r, 3, none⟩ = some x) (c4 : w.cell? ⟨r, 4, none⟩ = some y) (hr : r < w.heap.size) (hb : Below w.heap.size w w') : w'.cell? ⟨r, 3, none⟩ = some x ∧ w'.cell? ⟨r, 4, none⟩ = some y ∧ Below w.heap.size w w' :=
  ⟨(hb.cell (p := ⟨r, 3, none⟩) hr).trans c3, (hb.cell (p := ⟨r, 4, none⟩) hr).trans c4, hb⟩
theorem own_keptR {w w' : World} {S1 : Nat → Prop} {B e sz n g cap : Nat} {xs : List Value} (h : w.ownsRow B e sz (.slice (some ⟨g, 0, none⟩) n cap) n xs) (hk : Kept S1 w w') (hg : ¬ S1 g) : w'.ownsRow B e sz (.slice (some ⟨g, 0, none⟩) n cap) n xs := by
  rcases h.2 with ⟨h0, -⟩ | ⟨g', cap', cur, h0, h1, h2, h3⟩
  · simp at h0
  · refine ⟨h.1, .inr ⟨g', cap', cur, h0, h1, ?_, h3⟩⟩
    simp only [Value.slice.injEq, Option.some.injEq, Addr.mk.injEq, and_true, true_and] at h0
    obtain ⟨rfl, -⟩ := h0
    exact (hk.block g (Array.getElem?_eq_some_iff.1 h2).1 hg).trans h2
theorem rstep_end {S : Nat → Prop} {r : Nat} {F : List TV} {ca : Nat} {an : Int} {L : List St} {dn : Nat} {w wc : World} {B : List TV} {caret : Nat} {al : Option Addr} {cl g cap M : Nat} {olds : List Value} {v0 v1 v2 v3 v4 : Value} {aF : Option Addr} {cF : Nat}
    (hs : S r) (hS : ∀ k, S k → k < w.heap.size) (hF : Rd S w aF cF F) (hB : Rd S w al cl B) (hdn : dn ≤ L.length) (hol : olds.length = dn * 4) (hosv : ∀ j x, j < dn → L[j]? = some x → StV S w x olds (j * 4)) (hk : Kept (fun x => x = r) w wc) (hM : w.heap.size ≤ M) (hg : M ≤ g)
    (ho : wc.ownsRow M 81 4 (.slice (some ⟨g, 0, none⟩) (dn + 1) cap) (dn + 1) (olds ++ [.slice aF F.length cF, .int .i64 (ca : Nat), .slice al B.length cl, .int .i64 (caret : Nat)]))
    (hbox : wc.heap[r]? = some (.cells #[v0, v1, v2, v3, v4] 50 (0, 0))) (o n cp : Nat) (hcase : (o = 0 ∧ n = dn + 1 ∧ cp = cap ∧ ¬ 256 < dn + 1) ∨ (o = 4 ∧ n = dn ∧ cp = cap - 1 ∧ 256 < dn + 1)) :
    RE S r (stepT ⟨F, ca, an, L, dn⟩ B caret) (((((wc.setCell ⟨r, 3, none⟩ (.slice (some ⟨g, o, none⟩) n cp)).setCell ⟨r, 4, none⟩ (.int .i64 (n : Nat))).setCell ⟨r, 0, none⟩ (.slice al B.length cl)).setCell ⟨r, 1, none⟩ (.int .i64 (caret : Nat))).setCell ⟨r, 2, none⟩ (.int .i64 (-1))) ∧
    Kept (fun x => x = r) w (((((wc.setCell ⟨r, 3, none⟩ (.slice (some ⟨g, o, none⟩) n cp)).setCell ⟨r, 4, none⟩ (.int .i64 (n : Nat))).setCell ⟨r, 0, none⟩ (.slice al B.length cl)).setCell ⟨r, 1, none⟩ (.int .i64 (caret : Nat))).setCell ⟨r, 2, none⟩ (.int .i64 (-1))) := by
  have hkk : Kept (fun x => x = r) wc (((((wc.setCell ⟨r, 3, none⟩ (.slice (some ⟨g, o, none⟩) n cp)).setCell ⟨r, 4, none⟩ (.int .i64 (n : Nat))).setCell ⟨r, 0, none⟩ (.slice al B.length cl)).setCell ⟨r, 1, none⟩ (.int .i64 (caret : Nat))).setCell ⟨r, 2, none⟩ (.int .i64 (-1))) :=
    Kept.setCell (b := r) (i := 2) (Kept.setCell (b := r) (i := 1) (Kept.setCell (b := r) (i := 0) (Kept.setCell (b := r) (i := 4) (Kept.setCell (b := r) (i := 3) (Kept.refl (fun x => x = r) wc) (.inl rfl) _) (.inl rfl) _) (.inl rfl) _) (.inl rfl) _) (.inl rfl) _
  have hb5 := heap_setCell_same _ r 2 _ _ (.int .i64 (-1)) (heap_setCell_same _ r 1 _ _ (.int .i64 (caret : Nat)) (heap_setCell_same _ r 0 _ _ (.slice al B.length cl) (heap_setCell_same _ r 4 _ _ (.int .i64 (n : Nat)) (heap_setCell_same wc r 3 _ _ (.slice (some ⟨g, o, none⟩) n cp) hbox))))
  generalize ((((wc.setCell ⟨r, 3, none⟩ (.slice (some ⟨g, o, none⟩) n cp)).setCell ⟨r, 4, none⟩ (.int .i64 (n : Nat))).setCell ⟨r, 0, none⟩ (.slice al B.length cl)).setCell ⟨r, 1, none⟩ (.int .i64 (caret : Nat))).setCell ⟨r, 2, none⟩ (.int .i64 (-1)) = wf at *
  change wf.heap[r]? = some (.cells #[.slice al B.length cl, .int .i64 (caret : Nat), .int .i64 (-1), .slice (some ⟨g, o, none⟩) n cp, .int .i64 (n : Nat)] 50 (0, 0)) at hb5
  have hkw := hk.trans hkk (fun _ _ h => h)
  have hrl : r < w.heap.size := hS r hs
  have hlen : (L.take dn ++ [(⟨F, ca, B, caret⟩ : St)]).length = dn + 1 := by rw [List.length_append, List.length_take]; simp; omega
  have hst := rsteps_own (S := S) (S1 := fun x => x = r) (S' := S) (w := w) (L := L.take dn ++ [(⟨F, ca, B, caret⟩ : St)]) (own_keptR ho hkk (by show ¬ g = r; omega)) hlen hM hkw (fun k hk => hk ▸ hs) (fun k hk => .inl hk) (fun h => by have := hS g h; omega) (fun j x hj => by
    have hjl := (List.getElem?_eq_some_iff.1 hj).1
    rw [hlen] at hjl
    have htl : (L.take dn).length = dn := by rw [List.length_take]; omega
    rcases Nat.lt_or_ge j dn with h | h
    · rw [List.getElem?_append_left (by omega), List.getElem?_take_of_lt h] at hj
      exact (hosv j x h hj).left _
    · have : j = dn := by omega
      subst this
      rw [List.getElem?_append_right (by omega), htl, Nat.sub_self] at hj
      simp only [List.getElem?_cons_zero, Option.some.injEq] at hj
      subst hj
      exact StV.right hol hF hB)
  refine ⟨⟨hs, al, cl, some ⟨g, o, none⟩, cp, ?_, hB.kept hkw (fun k hk => hk ▸ hs) (fun k hk => .inl hk), ?_⟩, hkw⟩
  · have hl2 : (stepT ⟨F, ca, an, L, dn⟩ B caret).L.length = n := by
      show (lim (L.take dn ++ [(⟨F, ca, B, caret⟩ : St)])).length = n
      unfold lim
      rcases hcase with ⟨-, h, -, h2⟩ | ⟨-, h, -, h2⟩
      · rw [if_neg (by rw [hlen]; exact h2), hlen, h]
      · rw [if_pos (by rw [hlen]; exact h2), List.length_drop, hlen]; omega
    have hl3 : (stepT ⟨F, ca, an, L, dn⟩ B caret).dn = n := hl2
    unfold RBox
    rw [hl2, hl3]
    exact hb5
  · show RSteps S (some ⟨g, o, none⟩) cp (lim (L.take dn ++ [(⟨F, ca, B, caret⟩ : St)])) wf
    unfold lim
    rcases hcase with ⟨h0, h, h1, h2⟩ | ⟨h0, h, h1, h2⟩
    · rw [if_neg (by rw [hlen]; exact h2), h0, h1]; exact hst.1
    · rw [if_pos (by rw [hlen]; exact h2), h0, h1]; exact hst.2
section
variable {S : Nat → Prop} {r : Nat} {s : Sta} {w : World}
set_option maxRecDepth 100000 in
set_option maxHeartbeats 8000000 in
theorem rstep_any (h : RE S r s w) (hS : ∀ k, S k → k < w.heap.size) (al : Option Addr) (cl : Nat) (B : List TV) (caret : Nat) (hB : Rd S w al cl B) (hdn : s.dn ≤ s.L.length) (hln : s.dn ≤ 256) :
    Calls Tryz.prog 47 #[.pointer (some ⟨r, 0, none⟩), .agg #[.slice al B.length cl, .int .i64 (caret : Nat)]] w fun e w' => e = .returned (.tuple #[]) ∧ RE S r (stepT s B caret) w' ∧ Kept (fun x => x = r) w w' := by
  obtain ⟨F, ca, an, L, dn⟩ := s
  dsimp only at hdn hln
  obtain ⟨ir, hir, hr0, hr1, hr2⟩ := info_parts info_step
  have HE := run.hid h
  obtain ⟨hs, aF, cF, aS, cS, hb, hF, hSt⟩ := h
  dsimp only at hb hF hSt
  obtain ⟨olds, hol, ho1, hoc, hosv⟩ := rolds hSt dn hdn
  have hro := rolds_reads hSt hol hoc
  have hcs := hSt.1
  have hblt := (Array.getElem?_eq_some_iff.1 hb).1
  have hwa := run.below_one w (.cells #[.slice al B.length cl, .int .i64 (caret : Nat)] 47)
  have hbx := run.heap_new w (.cells #[.slice al B.length cl, .int .i64 (caret : Nat)] 47)
  have hbr : (w.alloc (.cells #[.slice al B.length cl, .int .i64 (caret : Nat)] 47)).heap[r]? = _ := (hwa.block r hblt).trans hb
  have HR := run.hid (hro.below hwa)
  have HN := run.hid (And.intro hol (And.intro ho1 hosv))
  have HSL := run.hid hS
  have HFS := run.hid (And.intro hs hF)
  have HBR0 := run.hid hB
  have hwl : (w.alloc (.cells #[.slice al B.length cl, .int .i64 (caret : Nat)] 47)).heap.size = w.heap.size + 1 := World.size_alloc _ _
  have hAd : aS = none ∨ ∃ sb off, aS = some ⟨sb, off, none⟩ := by
    rcases hSt.2 with ⟨h1, -⟩ | ⟨sb, off, h1, -⟩
    · exact .inl h1
    · exact .inr ⟨sb, off, h1⟩
  clear hs hF hSt hoc hro hb ho1 hosv hol hS
  go_enter Tryz.func47, Tryz.ntmps47
  go_upto_region 2 with fail
  have HBX := run.hid (And.intro hbx hbr)
  have HWA := run.hid hwa
  have c3 := blk_cell hbr 3
  have c4 := blk_cell hbr 4
  clear hbx hbr hwa
  generalize w.alloc (.cells #[.slice al B.length cl, .int .i64 (caret : Nat)] 47) = w1 at *
  change w1.cell? _ = some (.slice aS L.length cS) at c3
  change w1.cell? _ = some (.int .i64 (dn : Nat)) at c4
  have hrl : r < w1.heap.size := by omega
  go_cut [4] (fun c wx => Hid (wx.ownsRow w1.heap.size 81 4 c dn olds) ∧ Hid (Below w1.heap.size w1 wx))
  case first =>
    refine run.alone (by assumption) (by assumption) ?_
    go_light
    intro _ _ _ _
    have hdc : dn ≤ cS := by omega
    have HK := run.hid (fun w' (hb : Below w1.heap.size w1 w') => keep2 c3 c4 hrl hb)
    have h00 := keep2 c3 c4 hrl (Below.refl _ w1)
    generalize L.length = NL at *
    have hdI : (0 : Int) ≤ (dn : Int) ∧ (dn : Int) ≤ (cS : Int) := by omega
    obtain ⟨hd0, hd1⟩ := hdI
    obtain ⟨hol, ho1, -⟩ := HN.out
    have HRA := run.hid (fun w' (hb : Below w1.heap.size w1 w') => HR.out.below hb)
    have hsz0 := Nat.le_refl w1.heap.size
    clear HE HBX HWA HN HSL HFS HBR0
    rcases hAd with rfl | ⟨sb, off, rfl⟩
    · go_region_held3 (fun w' => w'.cell? ⟨r, 3, none⟩ = some (.slice none NL cS) ∧ w'.cell? ⟨r, 4, none⟩ = some (.int .i64 (dn : Nat)) ∧ Below w1.heap.size w1 w')
        (first
          | assumption
          | exact h00
          | exact HK.out _ (Below.drew (Below.refl _ _))
          | exact HK.out _ (run.below_append (Below.drew (Below.refl _ w1)) (World.ownsRow_nil _ _ 81 4) hgrow (Nat.le_refl _))
          | (trace_state; fail))
        (first
          | (refine step_append_any _ rfl _ _ 48 rfl w1.heap.size 81 ir (.agg #[.slice none 0 0, .int .i64 0, .slice none 0 0, .int .i64 0]) 4 64 Tryz.underlying48 hir hr0 hr1 hr2 rfl (by decide) (.slice none 0 0) 0 [] rfl (World.ownsRow_nil _ _ _ _) _ dn olds rfl (HRA.out _ (Below.drew (Below.refl _ w1))) ho1 (by unfold maxLen; omega) (by omega) (Nat.le_refl _) ?_; intro v8 w8 hown8 hgrow hold hstep))
      have H8 := run.hid hown8
      have HB8 := run.hid (run.below_append (Below.drew (Below.refl _ w1)) (World.ownsRow_nil _ _ 81 4) hgrow (Nat.le_refl _))
      rw [Nat.zero_add, List.nil_append] at H8
      clear hown8 hgrow hold hstep
      go_wp2
      go_meet
      case rel => exact ⟨H8, HB8⟩
    · go_region_held3 (fun w' => w'.cell? ⟨r, 3, none⟩ = some (.slice (some ⟨sb, off, none⟩) NL cS) ∧ w'.cell? ⟨r, 4, none⟩ = some (.int .i64 (dn : Nat)) ∧ Below w1.heap.size w1 w')
        (first
          | assumption
          | exact h00
          | exact HK.out _ (Below.drew (Below.refl _ _))
          | exact HK.out _ (run.below_append (Below.drew (Below.refl _ w1)) (World.ownsRow_nil _ _ 81 4) hgrow (Nat.le_refl _))
          | (trace_state; fail))
        (first
          | (refine step_append_any _ rfl _ _ 48 rfl w1.heap.size 81 ir (.agg #[.slice none 0 0, .int .i64 0, .slice none 0 0, .int .i64 0]) 4 64 Tryz.underlying48 hir hr0 hr1 hr2 rfl (by decide) (.slice none 0 0) 0 [] rfl (World.ownsRow_nil _ _ _ _) _ dn olds rfl (HRA.out _ (Below.drew (Below.refl _ w1))) ho1 (by unfold maxLen; omega) (by omega) (Nat.le_refl _) ?_; intro v8 w8 hown8 hgrow hold hstep))
      have H8 := run.hid hown8
      have HB8 := run.hid (run.below_append (Below.drew (Below.refl _ w1)) (World.ownsRow_nil _ _ 81 4) hgrow (Nat.le_refl _))
      rw [Nat.zero_add, List.nil_append] at H8
      clear hown8 hgrow hold hstep
      go_wp2
      go_meet
      case rel => exact ⟨H8, HB8⟩
  obtain ⟨HO, HBc⟩ := hcut
  have hszc := HBc.out.size
  have hbxc := (HBc.out.block w.heap.size (by omega)).trans HBX.out.1
  have hbrc := (HBc.out.block r hrl).trans HBX.out.2
  have e0 := blk_cell hbrc 0
  have e1 := blk_cell hbrc 1
  have d0 := blk_cell hbxc 0
  have d1 := blk_cell hbxc 1
  change wc.cell? _ = some (.slice aF F.length cF) at e0
  change wc.cell? _ = some (.int .i64 (ca : Nat)) at e1
  change wc.cell? _ = some (.slice al B.length cl) at d0
  change wc.cell? _ = some (.int .i64 (caret : Nat)) at d1
  clear c3 c4 hbxc hbrc
  generalize hu4 : u4 = u at *
  clear hu4 u4
  go_upto_region 3 with fail
  go_cut [4] (fun c wx => Hid (wx.ownsRow w1.heap.size 81 4 c (dn + 1) (olds ++ [.slice aF F.length cF, .int .i64 (ca : Nat), .slice al B.length cl, .int .i64 (caret : Nat)])) ∧ Hid (Below w1.heap.size w1 wx))
  case first =>
    refine run.alone (by assumption) (by assumption) ?_
    go_light
    intro _ _ _ _
    generalize L.length = NL at *
    generalize F.length = NF at *
    generalize B.length = NB at *
    have hK0 : ∀ w', Below w1.heap.size wc w' → w'.ownsRow w1.heap.size 81 4 u dn olds → (w'.cell? ⟨r, 0, none⟩ = some (.slice aF NF cF) ∧ w'.cell? ⟨r, 1, none⟩ = some (.int .i64 (ca : Nat)) ∧ w'.cell? ⟨w.heap.size, 0, none⟩ = some (.slice al NB cl) ∧ w'.cell? ⟨w.heap.size, 1, none⟩ = some (.int .i64 (caret : Nat)) ∧ w'.ownsRow w1.heap.size 81 4 u dn olds ∧ Below w1.heap.size wc w') := fun w' hb ho =>
      ⟨(hb.cell (p := ⟨r, 0, none⟩) hrl).trans e0, (hb.cell (p := ⟨r, 1, none⟩) hrl).trans e1, (hb.cell (p := ⟨w.heap.size, 0, none⟩) (by show w.heap.size < _; omega)).trans d0, (hb.cell (p := ⟨w.heap.size, 1, none⟩) (by show w.heap.size < _; omega)).trans d1, ho, hb⟩
    have h00 := hK0 _ (Below.refl _ wc) HO.out
    have h01 := hK0 _ (Below.drew (Below.refl _ wc)) HO.out.drew
    have HK := run.hid hK0
    clear hK0 HE HBX HWA HN HSL HR HFS HBR0
    go_region_held3 (fun w' => w'.cell? ⟨r, 0, none⟩ = some (.slice aF NF cF) ∧ w'.cell? ⟨r, 1, none⟩ = some (.int .i64 (ca : Nat)) ∧ w'.cell? ⟨w.heap.size, 0, none⟩ = some (.slice al NB cl) ∧ w'.cell? ⟨w.heap.size, 1, none⟩ = some (.int .i64 (caret : Nat)) ∧ w'.ownsRow w1.heap.size 81 4 u dn olds ∧ Below w1.heap.size wc w')
      (first
        | assumption
        | exact h00
        | exact h01
        | exact HK.out _ ((Below.drew (Below.refl _ wc)).alloc hszc _) (HO.out.drew.alloc _)
        | exact HK.out _ (run.below_append ((Below.drew (Below.refl _ wc)).alloc hszc _) (HO.out.drew.alloc _) hgrow (by rw [World.size_alloc]; exact Nat.le_succ_of_le hszc)) hold
        | (trace_state; fail))
      (first
        | (refine step_append_any _ rfl _ _ 48 rfl w1.heap.size 81 ir (.agg #[.slice none 0 0, .int .i64 0, .slice none 0 0, .int .i64 0]) 4 64 Tryz.underlying48 hir hr0 hr1 hr2 rfl (by decide) u dn olds rfl (HO.out.drew.alloc _) _ 1 [.slice aF NF cF, .int .i64 (ca : Nat), .slice al NB cl, .int .i64 (caret : Nat)] rfl (run.readsN_new wc.drew [.slice aF NF cF, .int .i64 (ca : Nat), .slice al NB cl, .int .i64 (caret : Nat)] 1 4 _ rfl) (by intro v hv; simp only [List.mem_cons, List.not_mem_nil, or_false] at hv; rcases hv with rfl | rfl | rfl | rfl <;> rfl) (by unfold maxLen; omega) (by omega) (Nat.le_trans hszc (by show wc.heap.size ≤ (wc.alloc _).heap.size; rw [World.size_alloc]; exact Nat.le_succ _)) ?_; intro v8 w8 hown8 hgrow hold hstep))
    have H8 := run.hid hown8
    have HB8 := run.hid (HBc.out.trans (run.below_append ((Below.drew (Below.refl _ wc)).alloc hszc _) (HO.out.drew.alloc _) hgrow (by rw [World.size_alloc]; exact Nat.le_succ_of_le hszc)))
    clear hown8 hgrow hold hstep
    go_wp2
    go_meet
    case rel => exact ⟨H8, HB8⟩
  obtain ⟨HO3, HB3⟩ := hcut
  have hsz3 := HB3.out.size
  obtain ⟨g, cap, hu⟩ := own_some2 HO3.out (by omega)
  subst hu
  have hcap : dn + 1 ≤ cap ∧ w1.heap.size ≤ g := by
    rcases HO3.out.2 with ⟨h0, -⟩ | ⟨g', cap', cur, h0, h2, -, h1, -⟩
    · simp at h0
    · simp only [Value.slice.injEq, Option.some.injEq, Addr.mk.injEq, and_true, true_and] at h0
      obtain ⟨rfl, rfl⟩ := h0
      exact ⟨h1, h2⟩
  obtain ⟨hcap1, hcap2⟩ := hcap
  have hbr3 := (HB3.out.block r hrl).trans HBX.out.2
  have hbx3 := (HB3.out.block w.heap.size (by omega)).trans HBX.out.1
  clear e0 e1 d0 d1 hszc HO HBc HR
  have HEND := run.hid (fun (o n cp : Nat) (hcase : (o = 0 ∧ n = dn + 1 ∧ cp = cap ∧ ¬ 256 < dn + 1) ∨ (o = 4 ∧ n = dn ∧ cp = cap - 1 ∧ 256 < dn + 1)) => rstep_end (an := an) HFS.out.1 HSL.out HFS.out.2 HBR0.out hdn HN.out.1 HN.out.2.2 ((Kept.of_below (S := fun x => x = r) HWA.out).trans (Kept.of_below (S := fun x => x = r) HB3.out) (fun _ _ h => h)) (by omega : w.heap.size ≤ w1.heap.size) hcap2 HO3.out hbr3 o n cp hcase)
  by_cases h256 : 256 < dn + 1
  · obtain rfl : dn = 256 := by omega
    have hcI : (257 : Int) ≤ (cap : Int) := by omega
    have hcN : ¬ cap = 1 := by omega
    have hcZ : 1 ≤ cap := by omega
    have b0 := blk_cell hbr3 0
    have b1 := blk_cell hbr3 1
    have b2 := blk_cell hbr3 2
    have b3 := blk_cell hbr3 3
    have b4 := blk_cell hbr3 4
    change World.cell? _ _ = some (.slice aF F.length cF) at b0
    change World.cell? _ _ = some (.int .i64 (ca : Nat)) at b1
    change World.cell? _ _ = some (.int .i64 an) at b2
    change World.cell? _ _ = some (.slice aS L.length cS) at b3
    change World.cell? _ _ = some (.int .i64 ((256 : Nat) : Int)) at b4
    have q0 := blk_free hbr3 0
    have q1 := blk_free hbr3 1
    have q2 := blk_free hbr3 2
    have q3 := blk_free hbr3 3
    have q4 := blk_free hbr3 4
    have d0 := blk_cell hbx3 0
    have d1 := blk_cell hbx3 1
    change World.cell? _ _ = some (.slice al B.length cl) at d0
    change World.cell? _ _ = some (.int .i64 (caret : Nat)) at d1
    have hne : w.heap.size ≠ r := by omega
    have HF := run.hid (HEND.out 4 256 (cap - 1) (.inr ⟨rfl, rfl, rfl, h256⟩))
    clear hbr3 hbx3 HEND HE HN HSL HFS HBR0 HO3 HB3 HBX HWA
    go_wp2
    first | go_end0 | (refine bodyPost_ret (results_none rfl _ _ _) rfl ?_)
    exact ⟨rfl, HF.out⟩
  · have h2I : ¬ (256 : Int) < ((dn + 1 : Nat) : Int) := by omega
    have b0 := blk_cell hbr3 0
    have b1 := blk_cell hbr3 1
    have b2 := blk_cell hbr3 2
    have b3 := blk_cell hbr3 3
    have b4 := blk_cell hbr3 4
    change World.cell? _ _ = some (.slice aF F.length cF) at b0
    change World.cell? _ _ = some (.int .i64 (ca : Nat)) at b1
    change World.cell? _ _ = some (.int .i64 an) at b2
    change World.cell? _ _ = some (.slice aS L.length cS) at b3
    change World.cell? _ _ = some (.int .i64 (dn : Nat)) at b4
    have q0 := blk_free hbr3 0
    have q1 := blk_free hbr3 1
    have q2 := blk_free hbr3 2
    have q3 := blk_free hbr3 3
    have q4 := blk_free hbr3 4
    have d0 := blk_cell hbx3 0
    have d1 := blk_cell hbx3 1
    change World.cell? _ _ = some (.slice al B.length cl) at d0
    change World.cell? _ _ = some (.int .i64 (caret : Nat)) at d1
    have hne : w.heap.size ≠ r := by omega
    have HF := run.hid (HEND.out 0 (dn + 1) cap (.inl ⟨rfl, rfl, rfl, h256⟩))
    clear hbr3 hbx3 HEND HE HN HSL HFS HBR0 HO3 HB3 HBX HWA
    go_wp2
    first | go_end0 | (refine bodyPost_ret (results_none rfl _ _ _) rfl ?_)
    exact ⟨rfl, HF.out⟩
end
end Go.Proofs.YtbhhfagifdjmmaaGreat.ed
namespace Go.Proofs.YtbhhfagifdjmmaaGreat.ed
open Go Go.RowKit Go.Proofs
set_option linter.unusedVariables false
theorem Rd.ways {S : Nat → Prop} {w : World} {a : Option Addr} {c : Nat} {F : List TV} (h : Rd S w a c F) : (a = none ∧ c = 0 ∧ F.length = 0) ∨ ∃ b off, a = some ⟨b, off, none⟩ := by
  rcases h.1.1.at' with ⟨h1, h2, h3⟩ | ⟨b, off, h1, -⟩
  · exact .inl ⟨h1, h3, by have := h.2; omega⟩
  · exact .inr ⟨b, off, h1⟩
theorem reads_nil (w : World) (a : Option Addr) (c : Nat) : clu.Reads2 w (.slice a 0 c) [] := ⟨a, c, rfl, fun i hi => absurd hi (Nat.not_lt_zero _)⟩
theorem reads_dropO {w : World} {b off n k c : Nat} {X : List TV} (h : clu.Reads2 w (.slice (some ⟨b, off, none⟩) X.length k) X) (hn : n ≤ X.length) : clu.Reads2 w (.slice (some ⟨b, off + n * 2, none⟩) (X.length - n) c) (X.drop n) := by
  obtain ⟨a', c', e, hrow⟩ := h
  simp only [Value.slice.injEq] at e
  obtain ⟨rfl, -, -⟩ := e
  refine ⟨some ⟨b, off + n * 2, none⟩, c, by rw [List.length_drop], fun i hi => ?_⟩
  rw [List.length_drop] at hi
  obtain ⟨b', o', e, hlt, h0, h1⟩ := hrow (n + i) (by omega)
  simp only [Option.some.injEq, Addr.mk.injEq, and_true] at e
  obtain ⟨rfl, rfl⟩ := e
  refine ⟨b, off + n * 2, rfl, hlt, ?_, ?_⟩
  · rw [show off + n * 2 + i * 2 = off + (n + i) * 2 by omega, h0]
    simp [List.getD_eq_getElem?_getD, List.getElem?_drop]
  · rw [show off + n * 2 + i * 2 + 1 = off + (n + i) * 2 + 1 by omega, h1]
    simp [List.getD_eq_getElem?_getD, List.getElem?_drop]
theorem rjoin2_any {w : World} {v : Value} {F : List TV} (h : clu.Reads2 w v F) (hl : F.length ≤ 1099511627776) (hs : sizeL F ≤ 35184372088832) :
    Calls Tryz.prog 43 #[v] w fun e w' => e = .returned (.string (textB F)) ∧ Below w.heap.size w w' := by
  have := rf.refJoin_any _ F w h hl (by rw [cat_len]; exact hs)
  rw [str_cat] at this
  exact this
theorem own_rd {S : Nat → Prop} {w : World} {B N c : Nat} {a : Option Addr} {F : List TV} (h : w.ownsRow B 40 2 (.slice a N c) N (cellsT F)) (hN : F.length = N) (hS : ∀ k, S k → k < B) : Rd S w a c F := by
  rcases h.2 with ⟨h0, h1⟩ | ⟨g, cap, cur, h0, hg, -⟩
  · simp only [Value.slice.injEq] at h0
    obtain ⟨rfl, -, rfl⟩ := h0
    have hF : F = [] := List.length_eq_zero_iff.1 (by omega)
    rw [hF]
    exact ⟨⟨⟨rfl, by simp [cellsT], .inl ⟨rfl, rfl, rfl⟩⟩, fun q off e => by cases e⟩, Nat.zero_le _⟩
  · simp only [Value.slice.injEq] at h0
    obtain ⟨rfl, -, rfl⟩ := h0
    have := src_row h hN (S := S) (fun e => by have := hS g e; omega) (Nat.le_refl _)
    rw [← hN, List.take_of_length_le (Nat.le_refl _)] at this
    exact this
theorem typedB_size (t : ByteArray) : (typedB t).size ≤ 4 * t.size := by
  unfold typedB
  rw [utf.str_size]
  have h1 := (utf.text_length (typedT (utf.runes (utf.bs t)))).2
  have h2 := typed_len (utf.runes (utf.bs t))
  have h3 := utf.runes_len t
  omega
theorem line_sizeL (s : ByteArray) : sizeL (lineT s) ≤ 4 * s.size := by
  have h1 := (wrp.lin_line s).2
  have h2 := wrp.flowText_size s
  rw [size_bytes, line_is]
  rw [utf.bs_length] at h1
  omega
/-- becoming, as the document does it -/
theorem become_is (s : Sta) (B : List TV) (c : Nat) (al : Bool) : becomeT s B c al = if s.F = B ∧ c = s.ca ∧ al = false then (false, s) else (true, stepT s B c) := rfl
section
variable {S : Nat → Prop} {r : Nat} {s : Sta} {w : World}
set_option maxRecDepth 100000 in
set_option maxHeartbeats 8000000 in
theorem rins_any (h : RE S r s w) (hS : ∀ k, S k → k < w.heap.size) (t : ByteArray) (ht : t.size ≤ 1073741824) (hF : s.F.length ≤ 65536) (hFs : sizeL s.F ≤ 65536) (hca : s.ca ≤ s.F.length) (han : s.an ≤ s.F.length) (hdn : s.dn ≤ s.L.length) (hdm : s.dn ≤ 256) :
    Calls Tryz.prog 16 #[.pointer (some ⟨r, 0, none⟩), .string t] w fun e w' => e = .returned (.bool (insT s t).1) ∧ RE S r (insT s t).2 w' ∧ Kept (fun x => x = r) w w' := by
  obtain ⟨F, ca, an, L, dn⟩ := s
  dsimp only at hF hFs hca han hdn hdm
  have HE := run.hid h
  have HSL := run.hid hS
  have HM := run.hid (rmarked_any h)
  have HTY := run.hid (fun X => rtyped_any t X (by omega))
  have hmk := mk_le (an := an) hca han
  have HIN := run.hid (show insT ⟨F, ca, an, L, dn⟩ t = if 65536 < sizeL (insL ⟨F, ca, an, L, dn⟩ t) then (false, ⟨F, ca, an, L, dn⟩) else becomeT ⟨F, ca, an, L, dn⟩ (insL ⟨F, ca, an, L, dn⟩ t) (lineT (aheadI ⟨F, ca, an, L, dn⟩ t)).length (decide ((mkT an ca).1 < (mkT an ca).2)) from rfl)
  have HIL := run.hid (And.intro (show insL ⟨F, ca, an, L, dn⟩ t = lineT (aheadI ⟨F, ca, an, L, dn⟩ t ++ textB (F.drop (mkT an ca).2)) from rfl) (show aheadI ⟨F, ca, an, L, dn⟩ t = textB (F.take (mkT an ca).1) ++ typedB t from rfl))
  have hty := typedB_size t
  generalize insT ⟨F, ca, an, L, dn⟩ t = BT at *
  generalize insL ⟨F, ca, an, L, dn⟩ t = IL at *
  generalize aheadI ⟨F, ca, an, L, dn⟩ t = AH at *
  generalize typedB t = TY at *
  obtain ⟨hs, aF, cF, aS, cS, hb, hRd, hSt⟩ := h
  dsimp only at hb hRd HM
  have hways := hRd.ways
  have hcF := hRd.2
  have HRD := run.hid hRd
  have c0 := blk_cell hb 0
  change w.cell? _ = some (.slice aF F.length cF) at c0
  have hrl := (Array.getElem?_eq_some_iff.1 hb).1
  have HBX := run.hid hb
  clear hs hb hRd hSt hS
  generalize mkT an ca = MK at *
  obtain ⟨ma, mb⟩ := MK
  dsimp only at hmk HM HIN HIL
  have hszA : sizeL (F.take ma) ≤ 65536 := Nat.le_trans (textL_le F ma) hFs
  have hszB : sizeL (F.drop mb) ≤ 65536 := by
    have h : textL F = textL (F.take mb) ++ textL (F.drop mb) := by unfold textL; rw [← List.flatMap_append, List.take_append_drop]
    have h2 : (textL F).length ≤ 65536 := hFs
    rw [h, List.length_append] at h2
    show (textL (F.drop mb)).length ≤ 65536
    omega
  obtain ⟨TA, hTA⟩ : ∃ TA, TA = textB (F.take ma) := ⟨_, rfl⟩
  obtain ⟨TBB, hTB⟩ : ∃ TB, TB = textB (F.drop mb) := ⟨_, rfl⟩
  have hTAs : TA.size ≤ 65536 := by rw [hTA]; exact hszA
  have hTBs : TBB.size ≤ 65536 := by rw [hTB]; exact hszB
  have HJA := run.hid (fun (X : World) (hX : Below w.heap.size w X) => rjoin2_any (rf.reads2_take (HRD.out.reads.below hX) (by omega : ma ≤ F.length) cF) (by rw [List.length_take]; omega) (by omega))
  have HJB := run.hid (fun (X : World) (v : Value) (hv : clu.Reads2 X v (F.drop mb)) => rjoin2_any hv (by rw [List.length_drop]; omega) (by omega))
  rw [← hTA] at HJA
  rw [← hTB] at HJB
  rw [← hTA, ← hTB] at HIL
  clear hTA hTB hszA hszB
  go_enter Tryz.func16, Tryz.ntmps16
  go_wp2_with fail
  refine HM.out.mono ?_
  rintro e w1 ⟨rfl, hs1⟩
  have HB1 := run.hid hs1.below
  have k0 := (HB1.out.cell (p := ⟨r, 0, none⟩) hrl).trans c0
  clear HM hs1
  go_upto_region 2 with fail
  go_cut [7] (fun p wx => p = .string TA ∧ Hid (Below w.heap.size w wx))
  case first =>
    refine run.alone (by assumption) (by assumption) ?_
    go_light
    intro _ _ _ _
    have HJ := run.hid (HJA.out w1 HB1.out)
    generalize hNF : F.length = NF at *
    have hm1 : ma ≤ cF := by omega
    clear HE HSL HTY HIN HIL HRD HBX HJA HJB hNF
    rcases hways with ⟨rfl, rfl, h0⟩ | ⟨sb, so, rfl⟩
    · obtain rfl : ma = 0 := by omega
      go_wp2_with fail
      refine HJ.out.mono ?_
      rintro e w2 ⟨rfl, hb2⟩
      have HF := run.hid (HB1.out.trans (hb2.mono HB1.out.size))
      clear hb2
      go_wp2
      go_meet
      case rel => exact ⟨rfl, HF⟩
    · go_wp2_with fail
      refine HJ.out.mono ?_
      rintro e w2 ⟨rfl, hb2⟩
      have HF := run.hid (HB1.out.trans (hb2.mono HB1.out.size))
      clear hb2
      go_wp2
      go_meet
      case rel => exact ⟨rfl, HF⟩
  obtain ⟨rfl, HB2⟩ := hcut
  generalize wc = w2 at *
  have k2 := (HB2.out.cell (p := ⟨r, 0, none⟩) hrl).trans c0
  clear k0 HJA
  go_upto_region 3 with fail
  go_cut [8] (fun p wx => p = .string TBB ∧ Hid (Below w.heap.size w wx))
  case first =>
    refine run.alone (by assumption) (by assumption) ?_
    go_light
    intro _ _ _ _
    have hm2 : mb ≤ cF := by omega
    have hRW := HRD.out.reads.below HB2.out
    have hDL : F.drop F.length = [] := List.drop_length
    clear HE HSL HTY HIN HIL HRD HBX
    rcases hways with ⟨rfl, rfl, h0⟩ | ⟨sb, so, rfl⟩
    · obtain rfl : mb = 0 := by omega
      rw [h0] at hDL
      have HJ := run.hid (HJB.out w2 (.slice none 0 0) (by rw [hDL]; exact reads_nil _ _ _))
      clear HJB hRW hDL
      generalize F.length = NF at *
      subst h0
      go_wp2_with fail
      refine HJ.out.mono ?_
      rintro e w3 ⟨rfl, hb3⟩
      have HF := run.hid (HB2.out.trans (hb3.mono HB2.out.size))
      clear hb3
      go_wp2
      go_meet
      case rel => exact ⟨rfl, HF⟩
    · by_cases hcm : cF = mb
      · have hN : F.length = mb := by omega
        rw [hN] at hDL
        have HJ := run.hid (HJB.out w2 (.slice (some ⟨sb, so, none⟩) 0 0) (by rw [hDL]; exact reads_nil _ _ _))
        clear HJB hRW hDL
        generalize F.length = NF at *
        subst hN
        subst hcm
        go_wp2_with fail
        refine HJ.out.mono ?_
        rintro e w3 ⟨rfl, hb3⟩
        have HF := run.hid (HB2.out.trans (hb3.mono HB2.out.size))
        clear hb3
        go_wp2
        go_meet
        case rel => exact ⟨rfl, HF⟩
      · have HJ := run.hid (HJB.out w2 (.slice (some ⟨sb, so + mb * 2, none⟩) (F.length - mb) (cF - mb)) (reads_dropO hRW hmk.2))
        clear HJB hRW hDL
        generalize F.length = NF at *
        go_wp2_with fail
        refine HJ.out.mono ?_
        rintro e w3 ⟨rfl, hb3⟩
        have HF := run.hid (HB2.out.trans (hb3.mono HB2.out.size))
        clear hb3
        go_wp2
        go_meet
        case rel => exact ⟨rfl, HF⟩
  obtain ⟨rfl, HB3⟩ := hcut
  generalize wc = w3 at *
  clear k2 HJB hways
  have HT3 := run.hid (HTY.out w3)
  clear HTY
  go_wp2_with fail
  refine HT3.out.mono ?_
  rintro e w4 ⟨rfl, hb4⟩
  have HB4 := run.hid (HB3.out.trans (hb4.mono HB3.out.size))
  clear hb4 HT3
  have hILe := HIL.out.1
  have hAH := HIL.out.2
  clear HIL
  subst hAH
  have hovA : ¬ 9223372036854775807 < TA.size + TY.size := by omega
  have hovB : ¬ 9223372036854775807 < TA.size + TY.size + TBB.size := by omega
  have HLA := run.hid (fun (X : World) => rline_any (TA ++ TY) X (by rw [ByteArray.size_append]; omega))
  have HLI := run.hid (fun (X : World) => rline_any (TA ++ TY ++ TBB) X (by rw [ByteArray.size_append, ByteArray.size_append]; omega))
  have hl1 := line_len4 (TA ++ TY)
  have hl2 := line_len4 (TA ++ TY ++ TBB)
  have hz2 := line_sizeL (TA ++ TY ++ TBB)
  rw [ByteArray.size_append] at hl1
  rw [ByteArray.size_append, ByteArray.size_append] at hl2 hz2
  rw [← hILe] at hl2 hz2 HLI
  clear hILe
  obtain ⟨LA, hLA⟩ : ∃ LA, LA = (lineT (TA ++ TY)).length := ⟨_, rfl⟩
  rw [← hLA] at hl1 HLA HIN
  clear hLA
  go_wp2_with fail
  refine (HLA.out w4).mono ?_
  rintro e w5 ⟨v5, rfl, hown5, hb5⟩
  obtain ⟨a5, c5, rfl⟩ := run.own_value hown5
  have HB5 := run.hid (HB4.out.trans (hb5.mono HB4.out.size))
  clear hown5 hb5 HLA
  go_wp2_with fail
  refine (HLI.out w5).mono ?_
  rintro e w6 ⟨v6, rfl, hown6, hb6⟩
  obtain ⟨aI, cI, rfl⟩ := run.own_value hown6
  have HB6 := run.hid (HB5.out.trans (hb6.mono HB5.out.size))
  have HO6 := run.hid hown6
  have hsz5 := HB5.out.size
  have hsz6 := HB6.out.size
  clear hown6 hb6 HLI
  have HBT : Hid (∀ p : Bool, decide (IL = F ∧ LA = ca) = p → ((65536 < sizeL IL ∨ (ma = mb ∧ p = true)) → BT = (false, ⟨F, ca, an, L, dn⟩)) ∧ (¬ (65536 < sizeL IL ∨ (ma = mb ∧ p = true)) → BT = (true, stepT ⟨F, ca, an, L, dn⟩ IL LA))) := by
    intro p hp
    have h1 := HIN.out
    rw [become_is] at h1
    constructor
    · intro h
      by_cases hb : 65536 < sizeL IL
      · rw [if_pos hb] at h1; exact h1
      · rw [if_neg hb] at h1
        rcases h with h | ⟨h2, h3⟩
        · exact absurd h hb
        · subst h3
          have h4 := of_decide_eq_true hp
          rw [if_pos ⟨h4.1.symm, h4.2, decide_eq_false (by omega)⟩] at h1
          exact h1
    · intro h
      have hb : ¬ 65536 < sizeL IL := fun hb => h (.inl hb)
      rw [if_neg hb, if_neg] at h1
      · exact h1
      · rintro ⟨h2, h3, h4⟩
        have h5 := of_decide_eq_false h4
        refine h (.inr ⟨by omega, ?_⟩)
        rw [← hp]
        exact decide_eq_true ⟨h2.symm, h3⟩
  have HRI := run.hid (own_rd (S := S) HO6.out rfl (fun k hk => by have := HSL.out k hk; omega))
  have hw7 := run.below_one w6 (.cells #[.slice aI IL.length cI, .int .i64 (LA : Nat)] 47)
  have hx7 := run.heap_new w6 (.cells #[.slice aI IL.length cI, .int .i64 (LA : Nat)] 47)
  have HB7 := run.hid (HB6.out.trans (hw7.mono HB6.out.size))
  have HRI7 := run.hid (HRI.out.kept (S1 := fun _ => False) (S' := S) (Kept.of_below hw7) (fun _ h => h.elim) (fun k hk => .inl hk))
  have hwl7 : (w6.alloc (.cells #[.slice aI IL.length cI, .int .i64 (LA : Nat)] 47)).heap.size = w6.heap.size + 1 := World.size_alloc _ _
  clear HIN HO6 HB2 HB3 HB4 HB5 HRI hw7 HB1 hsz5
  go_upto_region 7 with fail
  generalize w6.alloc (.cells #[.slice aI IL.length cI, .int .i64 (LA : Nat)] 47) = w7 at *
  have HSZ := run.hid (rsize_any _ IL w7 HRI7.out.reads (by omega) (by omega))
  have x0 := blk_cell hx7 0
  have x1 := blk_cell hx7 1
  change w7.cell? _ = some (.slice aI IL.length cI) at x0
  change w7.cell? _ = some (.int .i64 (LA : Nat)) at x1
  have hrb7 := (HB7.out.block r hrl).trans HBX.out
  have b0 := blk_cell hrb7 0
  have b1 := blk_cell hrb7 1
  change w7.cell? _ = some (.slice aF F.length cF) at b0
  change w7.cell? _ = some (.int .i64 (ca : Nat)) at b1
  have HSM := run.hid (fun (X : World) (hX : Below w7.heap.size w7 X) => rsame_any aI aF cI cF IL F LA ca X (HRI7.out.reads.below hX) ((HRD.out.reads.below HB7.out).below hX) (by omega) (by omega))
  have hxl := (Array.getElem?_eq_some_iff.1 hx7).1
  have hrl7 := (Array.getElem?_eq_some_iff.1 hrb7).1
  clear hx7 hrb7 hwl7 c0
  go_wp2_with fail
  refine HSZ.out.mono ?_
  rintro e w8 ⟨rfl, hw8⟩
  replace hw8 := hw8.symm
  subst hw8
  clear HSZ
  generalize hZ : sizeL IL = Z at *
  clear hZ
  generalize decide (IL = F ∧ LA = ca) = p at *
  have HBTp := run.hid (HBT.out p rfl)
  clear HBT
  go_upto_region 8 with fail
  go_cut [13] (fun c wx => c = .bool p ∧ Hid (Below w7.heap.size w7 wx))
  case first =>
    refine run.alone (by assumption) (by assumption) ?_
    go_light
    intro _ _ _ _
    have hK0 : ∀ w', Below w7.heap.size w7 w' → (w'.cell? ⟨r, 0, none⟩ = some (.slice aF F.length cF) ∧ w'.cell? ⟨r, 1, none⟩ = some (.int .i64 (ca : Nat)) ∧ w'.cell? ⟨w6.heap.size, 0, none⟩ = some (.slice aI IL.length cI) ∧ w'.cell? ⟨w6.heap.size, 1, none⟩ = some (.int .i64 (LA : Nat)) ∧ Below w7.heap.size w7 w') := fun w' hb =>
      ⟨(hb.cell (p := ⟨r, 0, none⟩) hrl7).trans b0, (hb.cell (p := ⟨r, 1, none⟩) hrl7).trans b1, (hb.cell (p := ⟨w6.heap.size, 0, none⟩) hxl).trans x0, (hb.cell (p := ⟨w6.heap.size, 1, none⟩) hxl).trans x1, hb⟩
    have h00 := hK0 _ (Below.refl _ w7)
    have HK := run.hid hK0
    clear hK0 HE HSL HRD HBX HBTp HRI7 HB6 HB7
    generalize IL.length = NI at *
    generalize F.length = NF at *
    go_region_held3 (fun w' => w'.cell? ⟨r, 0, none⟩ = some (.slice aF NF cF) ∧ w'.cell? ⟨r, 1, none⟩ = some (.int .i64 (ca : Nat)) ∧ w'.cell? ⟨w6.heap.size, 0, none⟩ = some (.slice aI NI cI) ∧ w'.cell? ⟨w6.heap.size, 1, none⟩ = some (.int .i64 (LA : Nat)) ∧ Below w7.heap.size w7 w')
      (first
        | assumption
        | exact h00
        | exact HK.out _ (Below.drew (Below.refl _ _))
        | exact HK.out _ ((Below.drew (Below.refl _ w7)).trans hb8)
        | (trace_state; fail))
      (first
        | (go_at_call 46; refine (HSM.out _ (Below.drew (Below.refl _ w7))).mono ?_; rintro e w8 ⟨rfl, hb8⟩))
    have HB8 := run.hid ((Below.drew (Below.refl _ w7)).trans hb8)
    clear hb8
    go_wp2
    go_meet
    case rel => exact ⟨rfl, HB8⟩
  obtain ⟨rfl, HB8⟩ := hcut
  generalize wc = w9 at *
  have y0 := (HB8.out.cell (p := ⟨w6.heap.size, 0, none⟩) hxl).trans x0
  have y1 := (HB8.out.cell (p := ⟨w6.heap.size, 1, none⟩) hxl).trans x1
  have HB9 := run.hid (HB7.out.trans (HB8.out.mono HB7.out.size))
  have HST := run.hid (rstep_any (HE.out.below HB9.out) (fun k hk => Nat.lt_of_lt_of_le (HSL.out k hk) HB9.out.size) aI cI IL LA (HRI7.out.kept (S1 := fun _ => False) (S' := S) (Kept.of_below HB8.out) (fun _ h => h.elim) (fun k hk => .inl hk)) hdn hdm)
  have HNO := run.hid (And.intro (HE.out.below HB9.out) (Kept.of_below (S := fun x => x = r) HB9.out))
  clear x0 x1 b0 b1 HRI7 HRD HBX HE HSL HSM HB6 HB7 HB8
  generalize IL.length = NI at *
  by_cases hZ : 65536 < Z
  · have hbt := run.hid (HBTp.out.1 (.inl hZ))
    have hZI : (65536 : Int) < (Z : Int) := by omega
    clear HBTp HST HB9
    go_wp2
    go_ret
    rw [hbt.out]
    exact ⟨rfl, HNO.out⟩
  · have hZI : ¬ (65536 : Int) < (Z : Int) := by omega
    by_cases hm : ma = mb
    · subst hm
      have heqm : ((ma : Int) == (ma : Int)) = true := beq_self_eq_true _
      cases p with
      | true =>
        have hbt := run.hid (HBTp.out.1 (.inr ⟨rfl, rfl⟩))
        clear HBTp HST HB9
        go_wp2
        go_ret
        rw [hbt.out]
        exact ⟨rfl, HNO.out⟩
      | false =>
        have hbt := run.hid (HBTp.out.2 (by rintro (h | ⟨-, h⟩); exact hZ h; cases h))
        clear HBTp HNO
        go_wp2_with fail
        refine HST.out.mono ?_
        rintro e wf ⟨rfl, hre, hkf⟩
        have HF := run.hid (And.intro hre ((Kept.of_below (S := fun x => x = r) HB9.out).trans hkf (fun _ _ h => h)))
        clear HST hre hkf HB9
        go_wp2
        go_ret
        rw [hbt.out]
        exact ⟨rfl, HF.out⟩
    · have heqm : ((ma : Int) == (mb : Int)) = false := beq_eq_false_iff_ne.2 (by omega)
      have hbt := run.hid (HBTp.out.2 (by rintro (h | ⟨h, -⟩); exact hZ h; exact hm h))
      clear HBTp HNO
      go_wp2_with fail
      refine HST.out.mono ?_
      rintro e wf ⟨rfl, hre, hkf⟩
      have HF := run.hid (And.intro hre ((Kept.of_below (S := fun x => x = r) HB9.out).trans hkf (fun _ _ h => h)))
      clear HST hre hkf HB9
      go_wp2
      go_ret
      rw [hbt.out]
      exact ⟨rfl, HF.out⟩
end
end Go.Proofs.YtbhhfagifdjmmaaGreat.ed
namespace Go.Proofs.YtbhhfagifdjmmaaGreat.ed
open Go Go.RowKit Go.Proofs
set_option linter.unusedVariables false
section
variable {S : Nat → Prop} {r : Nat} {s : Sta} {w : World}
set_option maxRecDepth 100000 in
set_option maxHeartbeats 8000000 in
theorem rdel_any (h : RE S r s w) (hS : ∀ k, S k → k < w.heap.size) (way : Int) (hF : s.F.length ≤ 65536) (hFs : sizeL s.F ≤ 65536) (hca : s.ca ≤ s.F.length) (han : s.an ≤ s.F.length) (hdn : s.dn ≤ s.L.length) (hdm : s.dn ≤ 256) :
    Calls Tryz.prog 18 #[.pointer (some ⟨r, 0, none⟩), .int .i64 way] w fun e w' => e = .returned (.bool (delT s way).1) ∧ RE S r (delT s way).2 w' ∧ Kept (fun x => x = r) w w' := by
  obtain ⟨F, ca, an, L, dn⟩ := s
  dsimp only at hF hFs hca han hdn hdm
  have HE := run.hid h
  have HSL := run.hid hS
  have HM := run.hid (rmarked_any h)
  have HLD := run.hid (fun (X : World) (hX : Below w.heap.size w X) => rleads_any (h.below hX) way hca (by dsimp only; omega))
  have hmk := mk_le (an := an) hca han
  have HLE := run.hid (fun tt (h : leadsT F ca way = some tt) => leads_le h hca)
  have HDT : Hid (∀ a b : Nat, ((mkT an ca).1 ≠ (mkT an ca).2 → a = (mkT an ca).1 → b = (mkT an ca).2 → delT ⟨F, ca, an, L, dn⟩ way = del2 ⟨F, ca, an, L, dn⟩ a b) ∧ ((mkT an ca).1 = (mkT an ca).2 → leadsT F ca way = none → delT ⟨F, ca, an, L, dn⟩ way = (false, ⟨F, ca, an, L, dn⟩)) ∧
      ∀ tt, (mkT an ca).1 = (mkT an ca).2 → leadsT F ca way = some tt → a = min tt ca → b = max tt ca → (a = b → delT ⟨F, ca, an, L, dn⟩ way = (false, ⟨F, ca, an, L, dn⟩)) ∧ (a ≠ b → delT ⟨F, ca, an, L, dn⟩ way = del2 ⟨F, ca, an, L, dn⟩ a b)) := by
    intro a b
    unfold delT
    dsimp only
    refine ⟨fun h ha hb => by rw [if_neg h, ha, hb], fun h hl => by rw [if_pos h, hl], fun tt h hl ha hb => ⟨fun hab => ?_, fun hab => ?_⟩⟩
    · rw [if_pos h, hl]
      dsimp only
      rw [if_pos (by omega)]
    · rw [if_pos h, hl]
      dsimp only
      rw [if_neg (by omega), ha, hb]
  generalize delT ⟨F, ca, an, L, dn⟩ way = BT at *
  obtain ⟨hs, aF, cF, aS, cS, hb, hRd, hSt⟩ := h
  dsimp only at hb hRd HM HLD
  have hways := hRd.ways
  have hcF := hRd.2
  have HRD := run.hid hRd
  have c0 := blk_cell hb 0
  have c1 := blk_cell hb 1
  change w.cell? _ = some (.slice aF F.length cF) at c0
  change w.cell? _ = some (.int .i64 (ca : Nat)) at c1
  have hrl := (Array.getElem?_eq_some_iff.1 hb).1
  have HBX := run.hid hb
  clear hs hb hRd hSt hS
  generalize mkT an ca = MK at *
  generalize hld : leadsT F ca way = ld at *
  clear hld
  obtain ⟨ma, mb⟩ := MK
  dsimp only at hmk HM HDT
  go_enter Tryz.func18, Tryz.ntmps18
  go_wp2_with fail
  refine HM.out.mono ?_
  rintro e w1 ⟨rfl, hs1⟩
  have HB1 := run.hid hs1.below
  clear HM hs1
  go_upto_if 19 with fail
  go_cut [5, 6] (fun p q wx => ∃ a b : Nat, p = .int .i64 (a : Nat) ∧ q = .int .i64 (b : Nat) ∧ a ≤ b ∧ b ≤ F.length ∧ Hid ((a = b → BT = (false, ⟨F, ca, an, L, dn⟩)) ∧ (a ≠ b → BT = del2 ⟨F, ca, an, L, dn⟩ a b)) ∧ Hid (Below w.heap.size w wx))
  case first =>
    have HNO := run.hid (fun X (hX : Below w.heap.size w X) => And.intro (HE.out.below hX) (Kept.of_below (S := fun x => x = r) hX))
    have k1 := (HB1.out.cell (p := ⟨r, 1, none⟩) hrl).trans c1
    by_cases hm : ma = mb
    · subst hm
      have HL1 := run.hid (HLD.out w1 HB1.out)
      have heqm : ((ma : Int) == (ma : Int)) = true := beq_self_eq_true _
      clear HLD HSL HE HRD HBX c0 c1
      go_wp2_with fail
      refine HL1.out.mono ?_
      rintro e w2 ⟨rfl, hw2⟩
      replace hw2 := hw2.symm
      subst hw2
      clear HL1
      cases ld with
      | none =>
        have hbt := run.hid ((HDT.out 0 0).2.1 (by first | rfl | trivial) (by first | rfl | trivial))
        have HF := run.hid (HNO.out _ HB1.out)
        clear HDT HLE HNO
        simp only [Option.getD_none, Option.isSome_none]
        go_wp2
        go_ret
        rw [hbt.out]
        exact ⟨rfl, HF.out⟩
      | some tt =>
        have hle := HLE.out tt rfl
        have hbt := run.hid ((HDT.out (min tt ca) (max tt ca)).2.2 tt (by first | rfl | trivial) (by first | rfl | trivial) rfl rfl)
        have hmn : min (tt : Int) (ca : Int) = ((min tt ca : Nat) : Int) := by omega
        have hmx : max (tt : Int) (ca : Int) = ((max tt ca : Nat) : Int) := by omega
        have h3 : min tt ca ≤ max tt ca := by omega
        have h4 : max tt ca ≤ F.length := by omega
        clear HDT HLE HNO
        generalize min tt ca = pa at *
        generalize max tt ca = pb at *
        simp only [Option.getD_some, Option.isSome_some]
        go_wp2
        go_meet
        exact ⟨pa, pb, by rw [← hmn], by rw [← hmx], h3, h4, hbt, HB1⟩
    · have hbt := (HDT.out ma mb).1 hm rfl rfl
      have HD2 : Hid ((ma = mb → BT = (false, ⟨F, ca, an, L, dn⟩)) ∧ (ma ≠ mb → BT = del2 ⟨F, ca, an, L, dn⟩ ma mb)) := ⟨fun h => absurd h hm, fun _ => hbt⟩
      have heqm : ((ma : Int) == (mb : Int)) = false := beq_eq_false_iff_ne.2 (by omega)
      clear hbt HDT HLD HLE HSL HE HRD HBX c0 c1 k1
      go_wp2
      go_meet
      exact ⟨ma, mb, rfl, rfl, hmk.1, hmk.2, HD2, HB1⟩
  case rest =>
    clear HB1 HLD HDT HLE hmk
    obtain ⟨ma, mb, rfl, rfl, hab, hbF, HBT, HB1⟩ := hcut
    generalize wc = w1 at *
    by_cases hme : ma = mb
    · have hbt := run.hid (HBT.out.1 hme)
      have HNO := run.hid (And.intro (HE.out.below HB1.out) (Kept.of_below (S := fun x => x = r) HB1.out))
      subst hme
      have heqm : ((ma : Int) == (ma : Int)) = true := beq_self_eq_true _
      clear HBT HE HSL HRD HBX c0 c1
      go_wp2
      go_ret
      rw [hbt.out]
      exact ⟨rfl, HNO.out⟩
    have hbt := HBT.out.2 hme
    have heqm : ((ma : Int) == (mb : Int)) = false := beq_eq_false_iff_ne.2 (by omega)
    have hsz1 := HB1.out.size
    clear HBT
    have hszAB : sizeL (F.take ma) + sizeL (F.drop mb) ≤ 65536 := by
      have h : textL F = textL (F.take mb) ++ textL (F.drop mb) := by unfold textL; rw [← List.flatMap_append, List.take_append_drop]
      have h2 : (textL F).length ≤ 65536 := hFs
      rw [h, List.length_append] at h2
      have h1 : sizeL (F.take ma) ≤ sizeL (F.take mb) := by
        have : F.take ma = (F.take mb).take ma := by rw [List.take_take, Nat.min_eq_left hab]
        rw [this]
        exact textL_le _ _
      unfold sizeL at h1 ⊢
      omega
    rw [show del2 ⟨F, ca, an, L, dn⟩ ma mb = becomeT ⟨F, ca, an, L, dn⟩ (delL F ma mb) (lineT (textB (F.take ma))).length true from rfl, become_is, if_neg (by rintro ⟨-, -, h⟩; cases h)] at hbt
    have hILe : delL F ma mb = lineT (textB (F.take ma) ++ textB (F.drop mb)) := rfl
    generalize delL F ma mb = IL at *
    obtain ⟨TA, hTA⟩ : ∃ TA, TA = textB (F.take ma) := ⟨_, rfl⟩
    obtain ⟨TBB, hTB⟩ : ∃ TB, TB = textB (F.drop mb) := ⟨_, rfl⟩
    have hTAs : TA.size + TBB.size ≤ 65536 := by rw [hTA, hTB]; exact hszAB
    have HJA := run.hid (fun (X : World) (hX : Below w.heap.size w X) => rjoin2_any (rf.reads2_take (HRD.out.reads.below hX) (by omega : ma ≤ F.length) cF) (by rw [List.length_take]; omega) (by omega))
    have HJB := run.hid (fun (X : World) (v : Value) (hv : clu.Reads2 X v (F.drop mb)) => rjoin2_any hv (by rw [List.length_drop]; omega) (by omega))
    rw [← hTA] at HJA hILe hbt
    rw [← hTB] at HJB hILe
    clear hTA hTB hszAB
    have HBTT := run.hid hbt
    clear hbt
    have k0 := (HB1.out.cell (p := ⟨r, 0, none⟩) hrl).trans c0
    clear c1
    go_upto_region 10 with fail
    go_cut [9] (fun p wx => p = .string TA ∧ Hid (Below w.heap.size w wx))
    case first =>
      refine run.alone (by assumption) (by assumption) ?_
      go_light
      intro _ _ _ _
      have HJ := run.hid (HJA.out w1 HB1.out)
      generalize hNF : F.length = NF at *
      have hm1 : ma ≤ cF := by omega
      clear HE HSL HBTT HRD HBX HJA HJB hNF
      rcases hways with ⟨rfl, rfl, h0⟩ | ⟨sb, so, rfl⟩
      · omega
      · go_wp2_with fail
        refine HJ.out.mono ?_
        rintro e w2 ⟨rfl, hb2⟩
        have HF := run.hid (HB1.out.trans (hb2.mono HB1.out.size))
        clear hb2
        go_wp2
        go_meet
        case rel => exact ⟨rfl, HF⟩
    obtain ⟨rfl, HB2⟩ := hcut
    generalize wc = w2 at *
    have k2 := (HB2.out.cell (p := ⟨r, 0, none⟩) hrl).trans c0
    clear k0 HJA
    go_upto_region 11 with fail
    go_cut [10] (fun p wx => p = .string TBB ∧ Hid (Below w.heap.size w wx))
    case first =>
      refine run.alone (by assumption) (by assumption) ?_
      go_light
      intro _ _ _ _
      have hm2 : mb ≤ cF := by omega
      have hRW := HRD.out.reads.below HB2.out
      have hDL : F.drop F.length = [] := List.drop_length
      clear HE HSL HBTT HRD HBX
      rcases hways with ⟨rfl, rfl, h0⟩ | ⟨sb, so, rfl⟩
      · omega
      · by_cases hcm : cF = mb
        · have hN : F.length = mb := by omega
          rw [hN] at hDL
          have HJ := run.hid (HJB.out w2 (.slice (some ⟨sb, so, none⟩) 0 0) (by rw [hDL]; exact reads_nil _ _ _))
          clear HJB hRW hDL
          generalize F.length = NF at *
          subst hN
          subst hcm
          go_wp2_with fail
          refine HJ.out.mono ?_
          rintro e w3 ⟨rfl, hb3⟩
          have HF := run.hid (HB2.out.trans (hb3.mono HB2.out.size))
          clear hb3
          go_wp2
          go_meet
          case rel => exact ⟨rfl, HF⟩
        · have HJ := run.hid (HJB.out w2 (.slice (some ⟨sb, so + mb * 2, none⟩) (F.length - mb) (cF - mb)) (reads_dropO hRW hbF))
          clear HJB hRW hDL
          generalize F.length = NF at *
          go_wp2_with fail
          refine HJ.out.mono ?_
          rintro e w3 ⟨rfl, hb3⟩
          have HF := run.hid (HB2.out.trans (hb3.mono HB2.out.size))
          clear hb3
          go_wp2
          go_meet
          case rel => exact ⟨rfl, HF⟩
    obtain ⟨rfl, HB3⟩ := hcut
    generalize wc = w3 at *
    clear k2 HJB hways
    have hovB : ¬ 9223372036854775807 < TA.size + TBB.size := by omega
    have HLA := run.hid (fun (X : World) => rline_any TA X (by omega))
    have HLI := run.hid (fun (X : World) => rline_any (TA ++ TBB) X (by rw [ByteArray.size_append]; omega))
    rw [← hILe] at HLI
    clear hILe
    obtain ⟨LA, hLA⟩ : ∃ LA, LA = (lineT TA).length := ⟨_, rfl⟩
    rw [← hLA] at HLA HBTT
    clear hLA
    go_wp2_with fail
    refine (HLA.out w3).mono ?_
    rintro e w5 ⟨v5, rfl, hown5, hb5⟩
    obtain ⟨a5, c5, rfl⟩ := run.own_value hown5
    have HB5 := run.hid (HB3.out.trans (hb5.mono HB3.out.size))
    clear hown5 hb5 HLA
    go_wp2_with fail
    refine (HLI.out w5).mono ?_
    rintro e w6 ⟨v6, rfl, hown6, hb6⟩
    obtain ⟨aI, cI, rfl⟩ := run.own_value hown6
    have HB6 := run.hid (HB5.out.trans (hb6.mono HB5.out.size))
    have hsz5 := HB5.out.size
    have HST := run.hid (rstep_any (HE.out.below HB6.out) (fun k hk => Nat.lt_of_lt_of_le (HSL.out k hk) HB6.out.size) aI cI IL LA (own_rd (S := S) hown6 rfl (fun k hk => by have := HSL.out k hk; omega)) hdn hdm)
    clear hown6 hb6 HLI HE HSL HRD HBX
    generalize IL.length = NI at *
    go_wp2_with fail
    refine HST.out.mono ?_
    rintro e wf ⟨rfl, hre, hkf⟩
    have HF := run.hid (And.intro hre ((Kept.of_below (S := fun x => x = r) HB6.out).trans hkf (fun _ _ h => h)))
    clear HST hre hkf
    go_wp2
    go_ret
    rw [HBTT.out]
    exact ⟨rfl, HF.out⟩
end
end Go.Proofs.YtbhhfagifdjmmaaGreat.ed
namespace Go.Proofs.YtbhhfagifdjmmaaGreat.ed
open Go Go.RowKit Go.Proofs
set_option linter.unusedVariables false
/-- the cells of what lies from s up to ca -/
def sm (F : List TV) (ca s : Nat) : Nat := rf.sum2 ((F.take ca).drop s)
theorem sm_step {F : List TV} {ca s : Nat} (h : s < ca) (hc : ca ≤ F.length) : sm F ca s = wd F s + sm F ca (s + 1) := by
  unfold sm
  have hl : s < (F.take ca).length := by rw [List.length_take]; omega
  rw [List.drop_eq_getElem_cons hl]
  show ((((F.take ca)[s]) :: (F.take ca).drop (s + 1)).map (·.2)).sum = _
  rw [List.map_cons, List.sum_cons]
  congr 1
  unfold wd
  rw [List.getElem_take]
  simp [List.getD_eq_getElem?_getD, show s < F.length by omega]
theorem sm_end (F : List TV) (ca : Nat) : sm F ca ca = 0 := by
  unfold sm
  rw [List.drop_eq_nil_of_le (by rw [List.length_take]; omega)]
  rfl
theorem sm_anti {F : List TV} {ca : Nat} (hc : ca ≤ F.length) (s : Nat) : ∀ d, s + d ≤ ca → sm F ca (s + d) ≤ sm F ca s
  | 0, _ => Nat.le_refl _
  | d + 1, h => by
    have h1 := sm_anti hc s d (by omega)
    have h2 := sm_step (F := F) (s := s + d) (by omega) hc
    rw [show s + (d + 1) = s + d + 1 by omega]
    omega
theorem back_is {F : List TV} {ca W : Nat} (hc : ca ≤ F.length) : ∀ c, c ≤ ca → sm F ca c ≤ W - 1 → (backT F W c (sm F ca c)).2 = sm F ca (backT F W c (sm F ca c)).1 ∧ (backT F W c (sm F ca c)).1 ≤ c ∧ (backT F W c (sm F ca c)).2 ≤ W - 1 ∧ ((backT F W c (sm F ca c)).1 = 0 ∨ W - 1 < sm F ca ((backT F W c (sm F ca c)).1 - 1))
  | 0, _, h => ⟨rfl, Nat.le_refl _, h, .inl rfl⟩
  | c + 1, hcc, h => by
    have hs := sm_step (F := F) (s := c) (by omega) hc
    unfold backT
    by_cases hW : W - 1 < sm F ca (c + 1) + wd F c
    · rw [if_pos hW]
      exact ⟨rfl, Nat.le_refl _, h, .inr (by show W - 1 < sm F ca c; omega)⟩
    · rw [if_neg hW, show sm F ca (c + 1) + wd F c = sm F ca c by omega]
      have ih := back_is (W := W) hc c (by omega) (by omega)
      exact ⟨ih.1, Nat.le_succ_of_le ih.2.1, ih.2.2.1, ih.2.2.2⟩
theorem view_at {F : List TV} {ca W s : Nat} (hc : ca ≤ F.length) (hs : s ≤ ca) (hb : ∀ j, j < s → W - 1 < sm F ca j) (he : sm F ca s ≤ W - 1) : backT F W ca 0 = (s, sm F ca s) := by
  have h := back_is (W := W) hc ca (Nat.le_refl _) (by rw [sm_end]; omega)
  rw [sm_end] at h
  obtain ⟨h1, h2, h3, h4⟩ := h
  generalize backT F W ca 0 = p at *
  obtain ⟨p1, p2⟩ := p
  dsimp only at h1 h2 h3 h4
  have h5 : s ≤ p1 := by
    rcases Nat.lt_or_ge p1 s with h | h
    · have := hb p1 h; omega
    · exact h
  have h6 : p1 ≤ s := by
    rcases Nat.lt_or_ge s p1 with h | h
    · rcases h4 with h4 | h4
      · omega
      · have := sm_anti hc s (p1 - 1 - s) (by omega)
        rw [show s + (p1 - 1 - s) = p1 - 1 by omega] at this
        omega
    · exact h
  have : p1 = s := by omega
  subst this
  rw [h1]
theorem fore_fit (F : List TV) : ∀ f s left, s + f = F.length → foreT F f s left = s + rf.fit2 (F.drop s) left
  | 0, s, left, h => by
    rw [show s = F.length by omega, rf.fit2_end]
    rfl
  | f + 1, s, left, h => by
    have hlt : s < F.length := by omega
    have e : (F.getD s rf.t0).2 = wd F s := rfl
    rw [rf.fit2_at hlt, e]
    unfold foreT
    by_cases hw : left < wd F s
    · rw [if_pos hw, if_neg (by omega)]; omega
    · rw [if_neg hw, if_pos (by omega), fore_fit F f (s + 1) (left - wd F s) (by omega)]; omega
theorem fit_le : ∀ (X : List TV) (left : Nat), rf.fit2 X left ≤ X.length
  | [], _ => Nat.le_refl _
  | q :: t, left => by
    rw [rf.fit2_cons]
    have := fit_le t (left - q.2)
    split <;> rw [List.length_cons] <;> omega
/-- as the document tells a View -/
theorem view_is {F : List TV} {ca W s : Nat} (hc : ca ≤ F.length) (hs : s ≤ ca) (hb : ∀ j, j < s → W - 1 < sm F ca j) (he : sm F ca s ≤ W - 1) : viewW F ca W = (textB ((F.drop s).take (rf.fit2 (F.drop s) W)), sm F ca s) := by
  unfold viewW
  rw [view_at hc hs hb he]
  dsimp only
  rw [fore_fit F _ _ _ (by omega), Nat.add_sub_cancel_left]
theorem sm_small {F : List TV} {ca : Nat} (hw : ∀ i, wd F i ≤ 2) (hc : ca ≤ F.length) : ∀ d s, s + d = ca → sm F ca s ≤ 2 * d
  | 0, s, h => by rw [show s = ca by omega, sm_end]; omega
  | d + 1, s, h => by
    rw [sm_step (by omega) hc]
    have := sm_small hw hc d (s + 1) (by omega)
    have := hw s
    omega
section
variable {S : Nat → Prop} {r : Nat} {s : Sta} {w : World}
set_option maxRecDepth 100000 in
set_option maxHeartbeats 8000000 in
theorem rview_any (h : RE S r s w) (x : Int) (hF : s.F.length ≤ 65536) (hFs : sizeL s.F ≤ 65536) (hca : s.ca ≤ s.F.length) (hw : ∀ i, wd s.F i ≤ 2) :
    Calls Tryz.prog 24 #[.pointer (some ⟨r, 0, none⟩), .int .i64 x] w fun e w' => e = .returned (.tuple #[.string (viewT s.F s.ca x).1, .int .i64 ((viewT s.F s.ca x).2 : Nat)]) ∧ Below w.heap.size w w' := by
  obtain ⟨F, ca, an, L, dn⟩ := s
  dsimp only at hF hFs hca hw ⊢
  by_cases hz1 : min x 4096 < 1
  · have hv : viewT F ca x = (⟨#[]⟩, 0) := by unfold viewT; rw [if_pos hz1]
    have hz0 : min (max x 0) 4096 = 0 := by omega
    rw [hv]
    clear hv h hw
    go_enter Tryz.func24, Tryz.ntmps24
    go_wp2
    go_ret2
    exact ⟨rfl, Below.refl _ _⟩
  obtain ⟨W, hW⟩ : ∃ W : Nat, W = (min x 4096).toNat := ⟨_, rfl⟩
  have hWI : min (max x 0) 4096 = (W : Int) := by omega
  have hW1 : 1 ≤ W ∧ W ≤ 4096 := by omega
  have hv : viewT F ca x = viewW F ca W := by unfold viewT; rw [if_neg hz1, hW]
  rw [hv]
  have HVI := run.hid (fun s hs hb he => @view_is F ca W s hca hs hb he)
  clear hv hW hz1
  generalize viewW F ca W = VW at *
  have hsm0 : sm F ca 0 = rf.sum2 (F.take ca) := rfl
  have hsm2 := sm_small (F := F) hw hca ca 0 (Nat.zero_add _)
  have HST := run.hid (fun j (h : j < ca) => @sm_step F ca j h hca)
  have HAN := run.hid (fun j (h : j ≤ ca) => (by have := sm_anti (F := F) hca 0 j (by omega); rwa [Nat.zero_add] at this : sm F ca j ≤ sm F ca 0))
  have HEND := run.hid (sm_end F ca)
  obtain ⟨hs, aF, cF, aS, cS, hb, hRd, hSt⟩ := h
  dsimp only at hb hRd
  have hways := hRd.ways
  have hcF := hRd.2
  have HRD := run.hid hRd
  have c0 := blk_cell hb 0
  have c1 := blk_cell hb 1
  change w.cell? _ = some (.slice aF F.length cF) at c0
  change w.cell? _ = some (.int .i64 (ca : Nat)) at c1
  have hrl := (Array.getElem?_eq_some_iff.1 hb).1
  have HSUM := run.hid (fun (X : World) (hX : Below w.heap.size w X) => (rf.refSum_any _ _ X (rf.reads2_take (HRD.out.reads.below hX) hca cF) (by rw [List.length_take]; omega) (by rw [← hsm0]; omega)).mono (R' := fun e w' => e = .returned (.int .i64 (sm F ca 0 : Nat)) ∧ Below X.heap.size X w') (fun e w' h => ⟨by rw [h.1, hsm0], by rw [h.2]; exact Below.refl _ _⟩))
  clear hs hb hRd hSt hsm0 hw
  obtain ⟨hW1, hW2⟩ := hW1
  go_enter Tryz.func24, Tryz.ntmps24
  have hWn : ¬ (W : Int) = 0 := by omega
  go_upto_region 5 with fail
  go_cut [8] (fun c wx => c = .int .i64 (sm F ca 0 : Nat) ∧ Hid (Below w.heap.size w wx))
  case first =>
    refine run.alone (by assumption) (by assumption) ?_
    go_light
    intro _ _ _ _
    have hK0 : ∀ w', Below w.heap.size w w' → (w'.cell? ⟨r, 0, none⟩ = some (.slice aF F.length cF) ∧ w'.cell? ⟨r, 1, none⟩ = some (.int .i64 (ca : Nat)) ∧ Below w.heap.size w w') := fun w' hb =>
      ⟨(hb.cell (p := ⟨r, 0, none⟩) hrl).trans c0, (hb.cell (p := ⟨r, 1, none⟩) hrl).trans c1, hb⟩
    have h00 := hK0 _ (Below.refl _ w)
    have HK := run.hid hK0
    have hc1 : (ca : Int) ≤ (cF : Int) := by omega
    have hc2 : ca ≤ cF := by omega
    clear hK0 HVI HST HAN HEND HRD
    generalize hNF : F.length = NF at *
    generalize sm F ca 0 = Z at *
    rcases hways with ⟨rfl, rfl, h0⟩ | ⟨sb, so, rfl⟩
    · obtain rfl : ca = 0 := by omega
      subst h0
      have HS1 := HSUM
      go_region_held3 (fun w' => w'.cell? ⟨r, 0, none⟩ = some (.slice none 0 0) ∧ w'.cell? ⟨r, 1, none⟩ = some (.int .i64 (0 : Nat)) ∧ Below w.heap.size w w')
        (first
          | assumption
          | exact h00
          | exact HK.out _ (Below.drew (Below.refl _ w))
          | exact HK.out _ ((Below.drew (Below.refl _ w)).trans hb8)
          | (trace_state; fail))
        (first
          | (go_at_call 52; refine (HS1.out _ (Below.drew (Below.refl _ w))).mono ?_; rintro e w8 ⟨rfl, hb8⟩))
      have HB8 := run.hid ((Below.drew (Below.refl _ w)).trans hb8)
      clear hb8
      go_wp2
      go_meet
      case rel => exact ⟨rfl, HB8⟩
    · have HS1 := HSUM
      go_region_held3 (fun w' => w'.cell? ⟨r, 0, none⟩ = some (.slice (some ⟨sb, so, none⟩) NF cF) ∧ w'.cell? ⟨r, 1, none⟩ = some (.int .i64 (ca : Nat)) ∧ Below w.heap.size w w')
        (first
          | assumption
          | exact h00
          | exact HK.out _ (Below.drew (Below.refl _ w))
          | exact HK.out _ ((Below.drew (Below.refl _ w)).trans hb8)
          | (trace_state; fail))
        (first
          | (go_at_call 52; refine (HS1.out _ (Below.drew (Below.refl _ w))).mono ?_; rintro e w8 ⟨rfl, hb8⟩))
      have HB8 := run.hid ((Below.drew (Below.refl _ w)).trans hb8)
      clear hb8
      go_wp2
      go_meet
      case rel => exact ⟨rfl, HB8⟩
  obtain ⟨rfl, HB1⟩ := hcut
  generalize wc = w1 at *
  have k0 := (HB1.out.cell (p := ⟨r, 0, none⟩) hrl).trans c0
  have HRD1 := run.hid (HRD.out.reads.below HB1.out)
  clear HSUM c0 c1 HRD
  go_wp2
  go_loopw [8, 7] (fun vz vs wr => ∃ s : Nat, s ≤ ca ∧ vs = .int .i64 s ∧ vz = .int .i64 (sm F ca s : Nat) ∧ Hid (∀ j, j < s → W - 1 < sm F ca j) ∧ wr = w1) (fun _ vs _ => ((ca : Int) - intOf vs).toNat)
  case atStart => exact ⟨0, Nat.zero_le _, rfl, rfl, run.hid (fun j hj => absurd hj (Nat.not_lt_zero _)), rfl⟩
  case round =>
    obtain ⟨s, hs, rfl, rfl, HJ, hwr⟩ := hrel
    replace hwr := hwr.symm
    subst hwr
    by_cases hbig : W - 1 < sm F ca s
    · have hlt : s < ca := by
        rcases Nat.lt_or_ge s ca with h | h
        · exact h
        · have e : s = ca := by omega
          rw [e, HEND.out] at hbig
          omega
      have hst := HST.out s hlt
      have hsl : s < F.length := by omega
      have HJ2 : Hid (∀ j, j < s + 1 → W - 1 < sm F ca j) := by
        intro j hj
        rcases Nat.lt_or_ge j s with h | h
        · exact HJ.out j h
        · rw [show j = s by omega]; exact hbig
      obtain ⟨a', cap', e1, hrow⟩ := HRD1.out
      simp only [Value.slice.injEq] at e1
      obtain ⟨rfl, -, rfl⟩ := e1
      obtain ⟨b1, o1, rfl, hlb1, -, hx1⟩ := hrow s hsl
      change w1.cell? _ = some (.int .i64 (wd F s : Nat)) at hx1
      have hle := HAN.out s (by omega)
      have hbI : ((W : Int) - 1) < ((sm F ca s : Nat) : Int) := by omega
      have hdiff : ((sm F ca s : Nat) : Int) - ((wd F s : Nat) : Int) = ((sm F ca (s + 1) : Nat) : Int) := by omega
      have hw64 : wrap64 (((sm F ca s : Nat) : Int) - ((wd F s : Nat) : Int)) = ((sm F ca (s + 1) : Nat) : Int) := by
        rw [hdiff]
        exact ints.wrap64_in ⟨by omega, by omega⟩
      have HDIFF := run.hid hw64
      clear hrow HJ hst HVI HST HAN HEND HRD1 hdiff hw64 hways hbig
      generalize F.length = NF at *
      generalize sm F ca s = z0 at *
      generalize wd F s = q at *
      go_wp2
      go_roundw
      case rel => exact ⟨s + 1, by omega, by go_num, congrArg (Value.int .i64) HDIFF.out, HJ2, by first | rfl | trivial⟩
      case measure => simp [intOf]; omega
    · have hbI : ¬ ((W : Int) - 1) < ((sm F ca s : Nat) : Int) := by omega
      have HVV := run.hid (HVI.out s hs HJ.out (by omega))
      clear HVI HST HAN HEND HJ
      have hmax : (max 0 (W : Int)).toNat = W := by omega
      have hszD : sizeL (F.drop s) ≤ 65536 := by
        have h : textL F = textL (F.take s) ++ textL (F.drop s) := by unfold textL; rw [← List.flatMap_append, List.take_append_drop]
        have h2 : (textL F).length ≤ 65536 := hFs
        rw [h, List.length_append] at h2
        show (textL (F.drop s)).length ≤ 65536
        omega
      have hkl := fit_le (F.drop s) W
      rw [List.length_drop] at hkl
      have HFIT := run.hid (fun (v : Value) (hv : clu.Reads2 w1 v (F.drop s)) => by
        have := rf.refFits_any v (F.drop s) W w1 hv (by rw [List.length_drop]; omega) (by omega)
        rw [hmax] at this
        exact this)
      have HJOI := run.hid (fun (v : Value) (hv : clu.Reads2 w1 v ((F.drop s).take (rf.fit2 (F.drop s) W))) => rjoin2_any hv (by rw [List.length_take, List.length_drop]; omega) (Nat.le_trans (Nat.le_trans (textL_le (F.drop s) _) hszD) (by omega)))
      have hDL : F.drop F.length = [] := List.drop_length
      have hsF : s ≤ F.length := by omega
      clear hmax hszD hbig
      rcases hways with ⟨rfl, rfl, h0⟩ | ⟨sb, so, rfl⟩
      · obtain rfl : s = 0 := by omega
        rw [h0] at hDL
        rw [hDL] at HFIT HJOI HVV hkl
        have HF1 := run.hid (HFIT.out (.slice none 0 0) (reads_nil _ _ _))
        have HJ1 := run.hid (HJOI.out (.slice none 0 0) (reads_nil _ _ _))
        rw [show rf.fit2 [] W = 0 from rfl] at HF1
        clear HFIT HJOI HRD1 hDL hkl
        generalize F.length = NF at *
        subst h0
        go_wp2_with fail
        refine HF1.out.mono ?_
        rintro e w2 ⟨rfl, hw2⟩
        replace hw2 := hw2.symm
        subst hw2
        clear HF1
        go_wp2_with fail
        refine HJ1.out.mono ?_
        rintro e w3 ⟨rfl, hb3⟩
        have HF := run.hid (HB1.out.trans (hb3.mono HB1.out.size))
        clear hb3 HJ1
        go_wp2
        go_ret2
        rw [HVV.out]
        exact ⟨rfl, HF.out⟩
      · by_cases hcm : cF = s
        · have hN : F.length = s := by omega
          rw [hN] at hDL
          rw [hDL] at HFIT HJOI HVV hkl
          have HF1 := run.hid (HFIT.out (.slice (some ⟨sb, so, none⟩) 0 0) (reads_nil _ _ _))
          have HJ1 := run.hid (HJOI.out (.slice (some ⟨sb, so, none⟩) 0 0) (reads_nil _ _ _))
          rw [show rf.fit2 [] W = 0 from rfl] at HF1
          clear HFIT HJOI HRD1 hDL hkl
          generalize F.length = NF at *
          subst hN
          subst hcm
          go_wp2_with fail
          refine HF1.out.mono ?_
          rintro e w2 ⟨rfl, hw2⟩
          replace hw2 := hw2.symm
          subst hw2
          clear HF1
          go_wp2_with fail
          refine HJ1.out.mono ?_
          rintro e w3 ⟨rfl, hb3⟩
          have HF := run.hid (HB1.out.trans (hb3.mono HB1.out.size))
          clear hb3 HJ1
          go_wp2
          go_ret2
          rw [HVV.out]
          exact ⟨rfl, HF.out⟩
        · have HF1 := run.hid (HFIT.out (.slice (some ⟨sb, so + s * 2, none⟩) (F.length - s) (cF - s)) (reads_dropO HRD1.out hsF))
          have hrt := rf.reads2_take (n := rf.fit2 (F.drop s) W) (c' := cF - s) (by have := reads_dropO (c := cF - s) HRD1.out hsF; rw [← List.length_drop] at this; exact this) (by rw [List.length_drop]; exact hkl)
          have HJ1 := run.hid (HJOI.out _ hrt)
          clear HFIT HJOI HRD1 hDL hrt
          generalize F.length = NF at *
          generalize rf.fit2 (F.drop s) W = k at *
          have hskI : (s : Int) + (k : Int) ≤ 65536 := by omega
          have hlo : (s : Int) ≤ (s : Int) + (k : Int) := by omega
          have hhi : (s : Int) + (k : Int) ≤ (cF : Int) := by omega
          have hst : ((s : Int) + (k : Int)).toNat = s + k := by omega
          have hsub : s + k - s = k := by omega
          go_wp2_with fail
          refine HF1.out.mono ?_
          rintro e w2 ⟨rfl, hw2⟩
          replace hw2 := hw2.symm
          subst hw2
          clear HF1
          go_wp2_with fail
          refine HJ1.out.mono ?_
          rintro e w3 ⟨rfl, hb3⟩
          have HF := run.hid (HB1.out.trans (hb3.mono HB1.out.size))
          clear hb3 HJ1
          go_wp2
          go_ret2
          rw [HVV.out]
          exact ⟨rfl, HF.out⟩
end
end Go.Proofs.YtbhhfagifdjmmaaGreat.ed
