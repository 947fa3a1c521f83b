/-
  A pair in the end: what it has told is what it was, and new memory. (Printed by gen_celwh.py.)
-/
import Derived.Test.YtdgcfmfjgidbjaaGreatCelPD
namespace Go.Proofs.YtdgcfmfjgidbjaaGreat.cel
open Go Go.RowKit Go.Proofs
set_option linter.unusedVariables false
theorem own_ne_box {X : World} {B e sz n k : Nat} {v : Value} {xs : List Value} {cs : Array Value} {t : TypeId} (ho : X.ownsRow B e sz v n xs) (hx : X.heap[k]? = some (.cells cs t (0, 0))) (hne : e ≠ t) : v.ownBlock ≠ some k := by
  intro hk
  rcases ho.2 with ⟨h0, -⟩ | ⟨g, cap, cur, e1, e2, e3, e4⟩
  · rw [h0] at hk
    cases hk
  · rw [e1] at hk
    have hg : g = k := by
      have : (Value.slice (some ⟨g, 0, none⟩) n cap).ownBlock = some g := rfl
      rw [this] at hk
      exact Option.some.inj hk
    subst hg
    rw [hx] at e3
    simp only [Option.some.injEq, Obj.cells.injEq] at e3
    exact hne e3.2.1.symm
theorem tell2V_done {q : PR} {L R : List CV} {w9 wA w10 : World} {v1 v2 t1 : Value} {Lc : List CV} (h : PB q L R w9) (hm : q.m = q.n) (hA : Below w9.heap.size w9 wA)
    (hown : w10.ownsRow q.B 35 1 t1 (q.n + 2) (vals q.V q.n ++ [v1, v2])) (hg : wA.grownBy w10 q.vt.ownBlock) (hst : run.Step wA q.vt q.n t1 (q.n + 2)) (hv1 : w9.ownsRow q.B 59 5 v1 (q.W * q.H) (cells5 Lc)) (hv2 : w9.ownsRow q.B 59 5 v2 (q.W * q.H) (cells5 Lc))
    (hn1 : ∀ k, v1.ownBlock = some k → ¬ q.blk k) (hn2 : ∀ k, v2.ownBlock = some k → ¬ q.blk k) (h12 : ∀ k, v1.ownBlock = some k → v2.ownBlock ≠ some k) (hlc : Lc.length = q.W * q.H) :
    PB ((q.tellV v1 t1 Lc).tellV v2 t1 Lc) L R (w10.setCell ⟨q.pb, 2, none⟩ t1) ∧ KeptC (fun k => k = q.pb ∨ q.vt.ownBlock = some k) w9 (w10.setCell ⟨q.pb, 2, none⟩ t1) ∧ ∀ k, t1.ownBlock = some k → q.vt.ownBlock = some k ∨ w9.heap.size ≤ k := by
  have hpB := h.pB
  have hbA := (hA.block q.pb (h.lt (.inl rfl))).trans h.box
  have hb10 : w10.heap[q.pb]? = _ := (hg.block q.pb (Array.getElem?_eq_some_iff.1 hbA).1 (fun e => by have := (h.told.lt q.pb e.symm).1; omega)).trans hbA
  have hk : KeptC (fun k => k = q.pb ∨ q.vt.ownBlock = some k) w9 (w10.setCell ⟨q.pb, 2, none⟩ t1) :=
    ((KeptC.of_below (S := fun k => k = q.pb ∨ q.vt.ownBlock = some k) hA).trans (KeptC.of_grown (S := fun k => k = q.pb ∨ q.vt.ownBlock = some k) hg (fun k e => .inr e)) (fun _ _ h => h)).trans (KeptC.of_grown (S := fun k => k = q.pb ∨ q.vt.ownBlock = some k) (run.setCell_grown w10 q.pb 2 t1) (fun k e => .inl (by simp only [Option.some.injEq] at e; exact e.symm))) (fun _ _ h => h)
  have hvt2 : ∀ k, t1.ownBlock = some k → q.vt.ownBlock = some k ∨ w9.heap.size ≤ k := fun k e => by
    rcases hst with ⟨g, cap, e1, e2⟩ | h2
    · rw [e2] at e
      rw [e1]
      exact .inl e
    · exact .inr (Nat.le_trans hA.size (h2 k e))
  have hown2 := run.own_kept hown (run.setCell_grown w10 q.pb 2 t1) (fun k hk e => by
    have := (hown.lt k hk).1
    simp only [Option.some.injEq] at e
    omega)
  have hp := h.parts hk h.told (fun _ h => h)
  have hrow : ∀ {v : Value}, w9.ownsRow q.B 59 5 v (q.W * q.H) (cells5 Lc) → (w10.setCell ⟨q.pb, 2, none⟩ t1).ownsRow q.B 59 5 v (q.W * q.H) (cells5 Lc) := fun hv => by
    refine own_keptC hv hk (fun k e hs => ?_)
    rcases hs with e2 | e2
    · have := (hv.lt k e).1
      omega
    · exact run.own_apart hv h.told (by decide) k e e2
  have hVo : ∀ j, j < q.n → ∀ k, (q.V j).ownBlock = some k → q.blk k := fun j hj k e => .inr (.inr (.inr (.inr (.inr (.inr (.inr (.inl ⟨j, hj, e⟩)))))))
  refine ⟨⟨blk_set hb10, hp.buf, hp.rb, ?_, own_keptC h.want hk (fun k e hs => ?_), fun j hj => ?_, fun j hj => ?_, fun j hj => ?_, fun i j hi hj hne k e1 e2 => ?_, fun k e1 e2 => ?_, h.gr, h.br, h.rp, h.vp, h.pB, Nat.le_trans h.Bw hk.size⟩, hk, hvt2⟩
  · show World.ownsRow _ q.B _ 1 t1 (q.n + 1 + 1) (vals (fun j => if j = q.n + 1 then v2 else if j = q.n then v1 else q.V j) (q.n + 1 + 1))
    rw [vals_next, vals_next, List.append_assoc]
    exact hown2
  · rcases hs with e2 | e2
    · have := (h.want.lt k e).1
      omega
    · exact h.tw k e2 e
  · show World.ownsRow _ q.B _ 5 (if j = q.n + 1 then v2 else if j = q.n then v1 else q.V j) _ (cells5 (if j = q.n + 1 then Lc else if j = q.n then Lc else q.Ls j))
    by_cases hj1 : j = q.n + 1
    · rw [if_pos hj1, if_pos hj1]
      exact hrow hv2
    · rw [if_neg hj1, if_neg hj1]
      by_cases hj2 : j = q.n
      · rw [if_pos hj2, if_pos hj2]
        exact hrow hv1
      · rw [if_neg hj2, if_neg hj2]
        have : j < q.n + 1 + 1 := hj
        exact hp.tr j (by omega)
  · show World.ownsRow _ q.B _ 5 (q.U j) _ (cells5 (if j = q.n + 1 then Lc else if j = q.n then Lc else q.Ls j))
    have : j < q.m := hj
    rw [if_neg (by omega), if_neg (by omega)]
    exact hp.ur j hj
  · show (if j = q.n + 1 then Lc else if j = q.n then Lc else q.Ls j).length = q.W * q.H
    have : j < q.n + 1 + 1 ∨ j < q.m := hj
    split
    · exact hlc
    · split
      · exact hlc
      · exact h.ll j (by omega)
  · have hi2 : i < q.n + 1 + 1 := hi
    have hj2 : j < q.n + 1 + 1 := hj
    replace e1 : (if i = q.n + 1 then v2 else if i = q.n then v1 else q.V i).ownBlock = some k := e1
    replace e2 : (if j = q.n + 1 then v2 else if j = q.n then v1 else q.V j).ownBlock = some k := e2
    by_cases hi3 : i = q.n + 1
    · rw [if_pos hi3] at e1
      rw [if_neg (by omega)] at e2
      by_cases hj3 : j = q.n
      · rw [if_pos hj3] at e2
        exact h12 k e2 e1
      · rw [if_neg hj3] at e2
        exact hn2 k e1 (hVo j (by omega) k e2)
    · rw [if_neg hi3] at e1
      by_cases hi4 : i = q.n
      · rw [if_pos hi4] at e1
        by_cases hj3 : j = q.n + 1
        · rw [if_pos hj3] at e2
          exact h12 k e1 e2
        · rw [if_neg hj3, if_neg (by omega)] at e2
          exact hn1 k e1 (hVo j (by omega) k e2)
      · rw [if_neg hi4] at e1
        by_cases hj3 : j = q.n + 1
        · rw [if_pos hj3] at e2
          exact hn2 k e2 (hVo i (by omega) k e1)
        · rw [if_neg hj3] at e2
          by_cases hj4 : j = q.n
          · rw [if_pos hj4] at e2
            exact hn1 k e2 (hVo i (by omega) k e1)
          · rw [if_neg hj4] at e2
            exact h.ap i j (by omega) (by omega) hne k e1 e2
  · rcases hvt2 k e1 with e3 | e3
    · exact h.tw k e3 e2
    · have := (h.want.lt k e2).2
      omega
theorem tell2W_done {q : PR} {L R : List CV} {w9 wA w10 : World} {u t1 : Value} (h : PB q L R w9) (hm : q.n = q.m + 2) (hA : Below w9.heap.size w9 wA)
    (hown : w10.ownsRow q.B 35 1 t1 (q.m + 2) (vals q.U q.m ++ [u, u])) (hg : wA.grownBy w10 q.vw.ownBlock) (hst : run.Step wA q.vw q.m t1 (q.m + 2)) (hu1 : w9.ownsRow q.B 59 5 u (q.W * q.H) (cells5 (q.Ls q.m))) (hu2 : w9.ownsRow q.B 59 5 u (q.W * q.H) (cells5 (q.Ls (q.m + 1)))) :
    PB ((q.tellW u t1).tellW u t1) L R (w10.setCell ⟨q.pb, 3, none⟩ t1) ∧ KeptC (fun k => k = q.pb ∨ q.vw.ownBlock = some k) w9 (w10.setCell ⟨q.pb, 3, none⟩ t1) ∧ ∀ k, t1.ownBlock = some k → q.vw.ownBlock = some k ∨ w9.heap.size ≤ k := by
  have hpB := h.pB
  have hbA := (hA.block q.pb (h.lt (.inl rfl))).trans h.box
  have hb10 : w10.heap[q.pb]? = _ := (hg.block q.pb (Array.getElem?_eq_some_iff.1 hbA).1 (fun e => by have := (h.want.lt q.pb e.symm).1; omega)).trans hbA
  have hk : KeptC (fun k => k = q.pb ∨ q.vw.ownBlock = some k) w9 (w10.setCell ⟨q.pb, 3, none⟩ t1) :=
    ((KeptC.of_below (S := fun k => k = q.pb ∨ q.vw.ownBlock = some k) hA).trans (KeptC.of_grown (S := fun k => k = q.pb ∨ q.vw.ownBlock = some k) hg (fun k e => .inr e)) (fun _ _ h => h)).trans (KeptC.of_grown (S := fun k => k = q.pb ∨ q.vw.ownBlock = some k) (run.setCell_grown w10 q.pb 3 t1) (fun k e => .inl (by simp only [Option.some.injEq] at e; exact e.symm))) (fun _ _ h => h)
  have hvt2 : ∀ k, t1.ownBlock = some k → q.vw.ownBlock = some k ∨ w9.heap.size ≤ k := fun k e => by
    rcases hst with ⟨g, cap, e1, e2⟩ | h2
    · rw [e2] at e
      rw [e1]
      exact .inl e
    · exact .inr (Nat.le_trans hA.size (h2 k e))
  have hown2 := run.own_kept hown (run.setCell_grown w10 q.pb 3 t1) (fun k hk e => by
    have := (hown.lt k hk).1
    simp only [Option.some.injEq] at e
    omega)
  have hp := h.parts hk h.want (fun _ h => h)
  have hrow : ∀ {v : Value} {Lc : List CV}, w9.ownsRow q.B 59 5 v (q.W * q.H) (cells5 Lc) → (w10.setCell ⟨q.pb, 3, none⟩ t1).ownsRow q.B 59 5 v (q.W * q.H) (cells5 Lc) := fun hv => by
    refine own_keptC hv hk (fun k e hs => ?_)
    rcases hs with e2 | e2
    · have := (hv.lt k e).1
      omega
    · exact run.own_apart hv h.want (by decide) k e e2
  refine ⟨⟨blk_set hb10, hp.buf, hp.rb, own_keptC h.told hk (fun k e hs => ?_), ?_, hp.tr, fun j hj => ?_, fun j hj => ?_, h.ap, fun k e1 e2 => ?_, h.gr, h.br, h.rp, h.vp, h.pB, Nat.le_trans h.Bw hk.size⟩, hk, hvt2⟩
  · rcases hs with e2 | e2
    · have := (h.told.lt k e).1
      omega
    · exact h.tw k e e2
  · show World.ownsRow _ q.B _ 1 t1 (q.m + 1 + 1) (vals (fun j => if j = q.m + 1 then u else if j = q.m then u else q.U j) (q.m + 1 + 1))
    rw [vals_next, vals_next, List.append_assoc]
    exact hown2
  · show World.ownsRow _ q.B _ 5 (if j = q.m + 1 then u else if j = q.m then u else q.U j) _ (cells5 (q.Ls j))
    by_cases hj1 : j = q.m + 1
    · rw [if_pos hj1, hj1]
      exact hrow hu2
    · rw [if_neg hj1]
      by_cases hj2 : j = q.m
      · rw [if_pos hj2, hj2]
        exact hrow hu1
      · rw [if_neg hj2]
        have : j < q.m + 1 + 1 := hj
        exact hp.ur j (by omega)
  · have : j < q.n ∨ j < q.m + 1 + 1 := hj
    exact h.ll j (by omega)
  · rcases hvt2 k e2 with e3 | e3
    · exact h.tw k e1 e3
    · have := (h.told.lt k e1).2
      omega
/-- the two buffers, and two screens -/
structure BX (q : PR) (L R : List CV) (k3 k4 : Nat) (s3 s4 : Array Value) (X : World) : Prop where
  box : X.heap[q.pb]? = some (.cells #[.pointer (some ⟨q.b, 0, none⟩), .pointer (some ⟨q.r, 0, none⟩), q.vt, q.vw] 51 (0, 0))
  buf : Buf X q.b q.g q.W q.H L
  rb : RB X (q.r + 1) q.r q.vr q.W q.H R
  x3 : X.heap[k3]? = some (.cells s3 64 (0, 0))
  x4 : X.heap[k4]? = some (.cells s4 64 (0, 0))
section
variable {q : PR} {L R : List CV} {k3 k4 : Nat} {s3 s4 : Array Value} {X X' : World}
theorem BX.below (h : BX q L R k3 k4 s3 s4 X) (hb : Below X.heap.size X X') : BX q L R k3 k4 s3 s4 X' :=
  ⟨(hb.block _ (Array.getElem?_eq_some_iff.1 h.box).1).trans h.box, h.buf.below hb, h.rb.below hb, (hb.block _ (Array.getElem?_eq_some_iff.1 h.x3).1).trans h.x3, (hb.block _ (Array.getElem?_eq_some_iff.1 h.x4).1).trans h.x4⟩
theorem BX.spoil (h : BX q L R k3 k4 s3 s4 X) (hP : PB q L R X) (hs : Spt q.B q.n q.V X X') : BX q L R k3 k4 s3 s4 X' := by
  have h1 := hP.gr
  have h2 := hP.br
  have h3 := hP.rp
  have h4 := hP.pB
  have hlo : ∀ k, k ≤ q.pb → X'.heap[k]? = X.heap[k]? := fun k hk => hs.1.block k (by omega)
  have hbx : ∀ {k : Nat} {cs : Array Value}, X.heap[k]? = some (.cells cs 64 (0, 0)) → X'.heap[k]? = some (.cells cs 64 (0, 0)) := fun hx =>
    (hs.2 _ (Array.getElem?_eq_some_iff.1 hx).1 (fun j hj => own_ne_box (hP.tr j hj) hx (by decide))).trans hx
  exact ⟨(hlo _ (Nat.le_refl _)).trans h.box, h.buf.of_blocks (hlo _ (by omega)) (hlo _ (by omega)), ⟨(hlo _ (by omega)).trans h.rb.box, own_keptC h.rb.row (S := fun k => q.B ≤ k) ⟨hs.1.os, hs.1.tape, hs.1.output, hs.1.size, fun k _ hn => hs.1.block k (by omega)⟩ (fun k hk hn => by have := hP.vp k hk; omega), h.rb.len, h.rb.ne, h.rb.wide, h.rb.high, h.rb.size⟩, hbx h.x3, hbx h.x4⟩
end
theorem spt_kept {q : PR} {X X' : World} (hs : Spt q.B q.n q.V X X') : KeptC q.blk X X' :=
  ⟨hs.1.os, hs.1.tape, hs.1.output, hs.1.size, fun k hk hn => hs.2 k hk (fun j hj e => hn (.inr (.inr (.inr (.inr (.inr (.inr (.inr (.inl ⟨j, hj, e⟩)))))))))⟩
/-- a list of rows as it lies -/
theorem told_cells {X : World} {B n : Nat} {v : Value} {V : Nat → Value} (h : X.ownsRow B 35 1 v n (vals V n)) (h0 : 0 < n) : ∃ g lo c, v = .slice (some ⟨g, lo, none⟩) n c ∧ g < X.heap.size ∧ v.ownBlock = some g ∧ ∀ j, j < n → X.cell? ⟨g, lo + j, none⟩ = some (V j) := by
  obtain ⟨a, c, e⟩ := run.own_value h
  subst e
  rcases h.2 with ⟨-, h1⟩ | ⟨g, cap, cur, e1, -⟩
  · omega
  · simp only [Value.slice.injEq] at e1
    obtain ⟨rfl, -, -⟩ := e1
    refine ⟨g, 0, c, rfl, (h.lt g rfl).2, rfl, fun j hj => ?_⟩
    have := h.cellAt j (by omega)
    rw [Nat.zero_add, this]
    exact vals_get hj
/-- the blocks of a pair that has told two rows more -/
theorem tell2_blk {q : PR} {v1 v2 u t1 t2 : Value} {Lc : List CV} {n : Nat} (h1 : ∀ k, t1.ownBlock = some k → q.vt.ownBlock = some k ∨ n ≤ k) (h2 : ∀ k, t2.ownBlock = some k → q.vw.ownBlock = some k ∨ n ≤ k) (hv1 : ∀ k, v1.ownBlock = some k → n ≤ k) (hv2 : ∀ k, v2.ownBlock = some k → n ≤ k) (hu : ∀ k, u.ownBlock = some k → n ≤ k) :
    ∀ k, ((((q.tellV v1 t1 Lc).tellV v2 t1 Lc).tellW u t2).tellW u t2).blk k → q.blk k ∨ n ≤ k := by
  intro k hk
  rcases hk with h | h | h | h | h | h | h | ⟨j, hj, h⟩ | ⟨j, hj, h⟩
  · exact .inl (.inl h)
  · exact .inl (.inr (.inl h))
  · exact .inl (.inr (.inr (.inl h)))
  · exact .inl (.inr (.inr (.inr (.inl h))))
  · exact .inl (.inr (.inr (.inr (.inr (.inl h)))))
  · exact (h1 k h).imp (fun e => .inr (.inr (.inr (.inr (.inr (.inl e)))))) id
  · exact (h2 k h).imp (fun e => .inr (.inr (.inr (.inr (.inr (.inr (.inl e))))))) id
  · replace hj : j < q.n + 1 + 1 := hj
    replace h : (if j = q.n + 1 then v2 else if j = q.n then v1 else q.V j).ownBlock = some k := h
    by_cases e0 : j = q.n + 1
    · rw [if_pos e0] at h
      exact .inr (hv2 k h)
    · rw [if_neg e0] at h
      by_cases e : j = q.n
      · rw [if_pos e] at h
        exact .inr (hv1 k h)
      · rw [if_neg e] at h
        exact .inl (.inr (.inr (.inr (.inr (.inr (.inr (.inr (.inl ⟨j, by omega, h⟩))))))))
  · replace hj : j < q.m + 1 + 1 := hj
    replace h : (if j = q.m + 1 then u else if j = q.m then u else q.U j).ownBlock = some k := h
    by_cases e0 : j = q.m + 1
    · rw [if_pos e0] at h
      exact .inr (hu k h)
    · rw [if_neg e0] at h
      by_cases e : j = q.m
      · rw [if_pos e] at h
        exact .inr (hu k h)
      · rw [if_neg e] at h
        exact .inl (.inr (.inr (.inr (.inr (.inr (.inr (.inr (.inr ⟨j, by omega, h⟩))))))))
end Go.Proofs.YtdgcfmfjgidbjaaGreat.cel
