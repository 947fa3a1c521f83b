/-
  The walk of the document's layer wrap: Rows.
-/
import Derived.Test.YtgniobgadilpgaaWrpRefRow
import Derived.Test.YtgniobgadilpgaaWrpRefFlow
import Derived.Test.YtgniobgadilpgaaRack
import Derived.IntWalk
import Derived.Deep.AppendLies
namespace Go.Proofs.Ytgniobgadilpgaa.wrp
open Go.RowKit Go.Proofs
open Go.Proofs.Ytgniobgadilpgaa.wid Go.Proofs.Ytgniobgadilpgaa.utf Go.Proofs.Ytgniobgadilpgaa.clu
set_option linter.unusedVariables false

/-- rows of clusters, each owned, none in another's block -/
structure Lot (w : World) (B : Nat) (vs : List Value) (rs : List (List TV)) : Prop where
  len : vs.length = rs.length
  own : ∀ j, j < rs.length → w.ownsRow B 47 2 (vs.getD j (.bool false)) (rs.getD j []).length (cells2 (rs.getD j []))
  apart : ∀ i j, i < rs.length → j < rs.length → i ≠ j → ∀ k, (vs.getD i (.bool false)).ownBlock = some k → (vs.getD j (.bool false)).ownBlock ≠ some k
theorem Lot.kept {w w' : World} {B : Nat} {vs : List Value} {rs : List (List TV)} (h : Lot w B vs rs) (hk : ∀ v n xs, w.ownsRow B 47 2 v n xs → w'.ownsRow B 47 2 v n xs) : Lot w' B vs rs := ⟨h.len, fun j hj => hk _ _ _ (h.own j hj), h.apart⟩
theorem getD_last {α : Type} (l : List α) (x d : α) : (l ++ [x]).getD l.length d = x := by simp [List.getD_eq_getElem?_getD]
theorem getD_old {α : Type} (l : List α) (x d : α) {j : Nat} (h : j < l.length) : (l ++ [x]).getD j d = l.getD j d := by
  simp only [List.getD_eq_getElem?_getD]; rw [List.getElem?_append_left h]
theorem Lot.more {w : World} {B : Nat} {vs : List Value} {rs : List (List TV)} (h : Lot w B vs rs) : Lot w B (vs ++ [.slice none 0 0]) (rs ++ [[]]) := by
  have hl := h.len
  refine ⟨by simp [hl], ?_, ?_⟩
  · intro j hj
    simp only [List.length_append, List.length_singleton] at hj
    by_cases e : j = rs.length
    · subst e
      rw [getD_last, ← hl, getD_last]
      exact World.ownsRow_nil _ _ _ _
    · rw [getD_old _ _ _ (by omega), getD_old _ _ _ (by omega)]
      exact h.own j (by omega)
  · intro i j hi hj hne k hk
    simp only [List.length_append, List.length_singleton] at hi hj
    by_cases ei : i = rs.length
    · subst ei; rw [← hl, getD_last] at hk; simp [Value.ownBlock] at hk
    · rw [getD_old _ _ _ (by omega)] at hk
      by_cases ej : j = rs.length
      · subst ej; rw [← hl, getD_last]; simp [Value.ownBlock]
      · rw [getD_old _ _ _ (by omega)]; exact h.apart i j (by omega) (by omega) hne k hk
theorem Lot.grow {w w' : World} {B : Nat} {vs : List Value} {rs : List (List TV)} {v v' : Value} {r r' : List TV} (h : Lot w B (vs ++ [v]) (rs ++ [r])) (ho : w'.ownsRow B 47 2 v' r'.length (cells2 r')) (hg : w.grownBy w' v.ownBlock) (hs : run.Step w v r.length v' r'.length) : Lot w' B (vs ++ [v']) (rs ++ [r']) := by
  have hl : vs.length = rs.length := by have := h.len; simpa using this
  have hlast : (vs ++ [v]).getD rs.length (.bool false) = v := by rw [← hl, getD_last]
  have old : ∀ j, j < rs.length → w.ownsRow B 47 2 (vs.getD j (.bool false)) (rs.getD j []).length (cells2 (rs.getD j [])) := fun j hj => by
    have := h.own j (by simp; omega)
    rwa [getD_old _ _ _ (by omega), getD_old _ _ _ (by omega)] at this
  have ap : ∀ j, j < rs.length → ∀ k, v.ownBlock = some k → (vs.getD j (.bool false)).ownBlock ≠ some k := fun j hj k hk => by
    have := h.apart rs.length j (by simp) (by simp; omega) (by omega) k (by rw [hlast]; exact hk)
    rwa [getD_old _ _ _ (by omega)] at this
  have ap' : ∀ j, j < rs.length → ∀ k, v'.ownBlock = some k → (vs.getD j (.bool false)).ownBlock ≠ some k := fun j hj k hk => by
    rcases hs with ⟨g, c, e1, e2⟩ | hs
    · exact ap j hj k (by rw [e1]; rw [e2] at hk; exact hk)
    · intro hk'
      have h1 := hs k hk
      have h2 := ((old j hj).lt k hk').2
      omega
  refine ⟨by simp [hl], ?_, ?_⟩
  · intro j hj
    simp only [List.length_append, List.length_singleton] at hj
    by_cases e : j = rs.length
    · subst e
      rw [getD_last, ← hl, getD_last]
      exact ho
    · rw [getD_old _ _ _ (by omega), getD_old _ _ _ (by omega)]
      exact run.own_kept (old j (by omega)) hg fun k hk hk' => ap j (by omega) k hk' hk
  · intro i j hi hj hne k hk
    simp only [List.length_append, List.length_singleton] at hi hj
    by_cases ei : i = rs.length
    · subst ei
      rw [← hl, getD_last] at hk
      rw [getD_old _ _ _ (by omega)]
      exact ap' j (by omega) k hk
    · rw [getD_old _ _ _ (by omega)] at hk
      by_cases ej : j = rs.length
      · subst ej
        rw [← hl, getD_last]
        exact fun hk' => ap' i (by omega) k hk' hk
      · rw [getD_old _ _ _ (by omega)]
        have := h.apart i j (by simp; omega) (by simp; omega) hne k (by rw [getD_old _ _ _ (by omega)]; exact hk)
        rwa [getD_old _ _ _ (by omega)] at this
theorem Lot.start (w : World) (B : Nat) : Lot w B [.slice none 0 0] [[]] := Lot.more (vs := []) (rs := []) ⟨rfl, fun j hj => by simp at hj, fun i j hi => by simp at hi⟩
theorem Lot.rows {w : World} {B : Nat} {vs : List Value} {rs : List (List TV)} (h : Lot w B vs rs) : Rows w vs rs := ⟨h.len, fun i hi => rs_own (h.own i hi)⟩
theorem own_fresh (w : World) (B e : Nat) (u : Value) (hB : B ≤ w.heap.size) : (w.alloc (.cells #[u] e)).ownsRow B e 1 (.slice (some ⟨w.heap.size, 0, none⟩) 1 1) 1 [u] :=
  ⟨rfl, .inr ⟨w.heap.size, 1, #[u], rfl, hB, run.heap_new w _, Nat.le_refl _, by decide, rfl, rfl⟩⟩

theorem last_get {vs : List Value} {v : Value} {n : Nat} (h : n = vs.length) : (vs ++ [v])[n]? = some v := by subst h; simp
theorem set_last {vs : List Value} {v u : Value} {n : Nat} (h : n = vs.length) : (vs ++ [v]).set n u = vs ++ [u] := by subst h; simp
/-- behind a cluster more in the last row -/
def RefRowsStep (w1 : World) (X : List TV) (f i n g c : Nat) (vs : List Value) (done : List (List TV)) (v8 : Value) (w' : World) : Prop :=
  w'.ownsRow w1.heap.size 22 1 (.slice (some ⟨g, 0, none⟩) (n + 1) c) (n + 1) (vs ++ [v8]) ∧ Lot w' w1.heap.size (vs ++ [v8]) (done ++ [seg X f (i + 1)]) ∧ Below w1.heap.size w1 w'
set_option maxRecDepth 100000 in
set_option maxHeartbeats 4000000 in
theorem refRows_any (s : ByteArray) (w : World) (hs : s.size ≤ 16777216) : Calls Try.prog 64 #[.string s] w fun e w' =>
    ∃ u vs, e = .returned u ∧ w'.ownsRow w.heap.size 22 1 u (rowsT (flow s)).length vs ∧ Rows w' vs (rowsT (flow s)) ∧ Below w.heap.size w w' := by
  obtain ⟨it, hit, ht0, ht1, ht2⟩ := info_parts info_clu
  obtain ⟨ir, hir, hr0, hr1, hr2⟩ := info_parts info_row
  have HF := run.hid (refFlow_any s w (by omega))
  have hfl : (flow s).length ≤ 67108864 := by have := flow_len s; omega
  generalize flow s = X at *
  have HR : Hid (X = [] → rowsT X = []) := fun e => by rw [e]; rfl
  have HR2 : Hid (X ≠ [] → rowsT X = splitNl X) := fun e => by unfold rowsT; rw [if_neg e]
  have HS := run.hid (rowInv_start X)
  have HNL := run.hid (fun i f done h => @rowInv_nl X i f done h)
  have HEL := run.hid (fun i f done h => @rowInv_else X i f done h)
  have HEND := run.hid (fun f done h => @rowInv_end X f done h)
  have HSN := run.hid (fun f i h hf => @seg_next X f i h hf)
  have HSE := run.hid (fun i => seg_nil X i)
  have HSA := run.hid (fun f => @seg_all X f)
  have HSL := run.hid (fun f i h => @seg_length X f i h)
  generalize hRT : rowsT X = RT at *
  clear hRT
  go_enter Try.func64, Try.ntmps64
  go_wp2_with fail
  refine HF.out.mono ?_
  rintro e w1 ⟨v1, rfl, hown1, hb1⟩
  have hs1 := hb1.size
  obtain ⟨a1, cap1, rfl, -, hcell⟩ := rs_own hown1
  have HC := run.hid hcell
  clear hown1 hcell HF
  by_cases hx : X = []
  · have e0 := HR.out hx
    subst hx
    subst e0
    clear HC HR HR2 HS HNL HEL HEND HSN HSE HSA HSL
    go_wp2
    go_ret
    exact ⟨_, [], rfl, World.ownsRow_nil _ _ _ _, Rows.nil _, hb1⟩
  · have e0 := HR2.out hx
    have hx0 : 0 < X.length := List.length_pos_iff.2 hx
    subst e0
    clear hx HR HR2
    generalize hN : X.length = N at *
    have hN0 : ((N : Int) == 0) = false := by rw [beq_eq_false_iff_ne]; omega
    have hown0 := own_fresh w1 w1.heap.size 22 (.slice none 0 0) (Nat.le_refl _)
    have hbel0 := run.below_one w1 (.cells #[.slice none 0 0] 22)
    go_wp2
    go_loopw [4, 5] (fun vo vi wr => ∃ (i f n : Nat) (done : List (List TV)) (vs : List Value) (v : Value), i ≤ N ∧ vi = .int .i64 i ∧ Hid (RowInv X i done f) ∧ f ≤ i ∧ Hid (n = vs.length) ∧ n ≤ f ∧
      wr.ownsRow w1.heap.size 22 1 vo (n + 1) (vs ++ [v]) ∧ Hid (Lot wr w1.heap.size (vs ++ [v]) (done ++ [seg X f i])) ∧ Below w1.heap.size w1 wr) (fun _ vi _ => ((N : Int) - intOf vi).toNat)
    case atStart => exact ⟨0, 0, 0, [], [], .slice none 0 0, by omega, rfl, HS, Nat.le_refl _, (show _ = _ from rfl), Nat.le_refl _, hown0, (by rw [HSE.out]; exact Lot.start _ _), hbel0⟩
    case round =>
      obtain ⟨i, f, n, done, vs, v, hi, rfl, HI, hfi, hnv, hnf, hown, HLOT, hbel⟩ := hrel
      have hsz := hbel.size
      by_cases hlt : i < N
      · obtain ⟨b, off, rfl, hb, hx0, hx1⟩ := HC.out i hlt
        replace hx0 := (hbel.cell (p := ⟨b, off + i * 2, none⟩) hb).trans hx0
        replace hx1 := (hbel.cell (p := ⟨b, off + i * 2 + 1, none⟩) hb).trans hx1
        have H1 := run.hid (HNL.out i f done HI.out (by omega))
        have H2 := run.hid (HEL.out i f done HI.out (by omega))
        have H3 := run.hid (HSN.out f i (by omega) hfi)
        have H4 := run.hid (HSE.out (i + 1))
        have H5 := HSL.out f i (by omega)
        generalize X.getD i t0 = q at *
        obtain ⟨qs, qw⟩ := q
        dsimp only at hx0 hx1 H1 H2
        have hbeq := nl_eq qs
        clear HNL HEL HEND HSA hN HS HSN HSE HSL HC
        by_cases hk : qs = nl
        · have HN := run.hid (H1.out hk)
          rw [decide_eq_true hk] at hbeq
          subst hk
          clear H1 H2 HI H3
          obtain ⟨vv, hvv, hvl⟩ : ∃ vv, vs ++ [v] = vv ∧ Hid (n + 1 = vv.length) := ⟨_, rfl, by show _ = _; rw [List.length_append, ← hnv.out]; rfl⟩
          rw [hvv] at hown HLOT
          clear hvv hnv
          go_wp2_with (at_builtin; refine run.wpList_append_any _ rfl _ _ 26 rfl w1.heap.size 22 ir (.slice none 0 0) 1 24 Try.underlying26 hir hr0 hr1 hr2 rfl (by decide) _ _ _ rfl (hown.alloc _) _ 1 [.slice none 0 0] rfl (run.readsN_new wr [.slice none 0 0] 1 1 _ rfl) (by intro u hu; simp only [List.mem_singleton] at hu; subst hu; rfl) (by unfold maxLen; omega) (by omega) (by simp; omega) ?_)
          intro v' w3 hown3 hgrow hold hstep
          have hbel3 := run.below_append (hbel.alloc hsz _) (hown.alloc _) hgrow (by simp; omega)
          have HLOT3 : Hid (Lot w3 w1.heap.size (vv ++ [.slice none 0 0]) ((done ++ [seg X f i]) ++ [seg X (i + 1) (i + 1)])) := by
            rw [H4.out]
            exact (HLOT.out.kept fun v n xs h => run.own_kept (h.alloc (.cells #[.slice none 0 0] 22)) hgrow (run.own_apart (h.alloc (.cells #[.slice none 0 0] 22)) (hown.alloc _) (by decide))).more
          have HO3 := run.hid hown3
          clear hown hgrow hold hstep HLOT hown3
          go_wp2
          go_roundw
          case rel => exact ⟨i + 1, i + 1, n + 1, _, _, _, by omega, by go_num, HN, Nat.le_refl _, hvl, by omega, HO3.out, HLOT3, hbel3⟩
          case measure => simp [intOf]; omega
        · have HN := run.hid (H2.out hk)
          rw [decide_eq_false hk] at hbeq
          clear H1 H2 HI H4 hk
          obtain ⟨g, c, rfl⟩ := ownsRow_succ hown
          have hvl := hnv.out
          have hov : wr.ownsRow w1.heap.size 47 2 v (seg X f i).length (cells2 (seg X f i)) := by
            have h := HLOT.out.own done.length (by simp)
            have hl : vs.length = done.length := by have := HLOT.out.len; simpa using this
            rw [getD_last, ← hl, getD_last] at h
            exact h
          have hq : wr.cell? ⟨g, n, none⟩ = some v := (hown.cellAt n (by omega)).trans (by rw [List.getElem?_append_right (by omega), hvl]; simp)
          have hidx : (((n + 1 : Nat) : Int)) - 1 = (n : Int) := by omega
          have hidx2 : ((n : Int) + 1) - 1 = (n : Int) := by omega
          have hn0 : (0 : Int) ≤ (n : Int) := by omega
          have hlt1 : (n : Int) < (n : Int) + 1 := by omega
          have hwn : IntKind.i64.wrap (n : Int) = (n : Int) := IntWalk.i64_in _ (by omega)
          have hn1 : (n : Int) < ((n + 1 : Nat) : Int) := by omega
          have hgl := (hown.lt g rfl).2
          have hne1 : ¬ g = wr.heap.size := by omega
          have hne2 : ¬ wr.heap.size = g := by omega
          have hne3 : ¬ b = wr.heap.size := by omega
          have hne4 : ¬ wr.heap.size = b := by omega
          rw [H5] at hov
          have HOV := run.hid hov
          have HOW := run.hid hown
          have HVL := run.hid hvl
          clear hvl hnv
          obtain ⟨vv, hvv⟩ : ∃ vv, vs ++ [v] = vv := ⟨_, rfl⟩
          have HVV := run.hid hvv
          clear hvv hov hown
          go_wp2_with fail
          go_region_law (first | (refine step_append_any _ rfl _ _ 22 rfl w1.heap.size 47 it (.agg #[.string ByteArray.empty, .int .i64 0]) 2 24 Try.underlying22 hit ht0 ht1 ht2 rfl (by decide) v (i - f) (cells2 (seg X f i)) rfl (HOV.out.drew.alloc _) _ 1 [.string qs, .int .i64 (qw : Nat)] rfl (run.readsN_new wr.drew [.string qs, .int .i64 (qw : Nat)] 1 2 _ rfl) (by intro u hu; simp only [List.mem_cons, List.not_mem_nil, or_false] at hu; rcases hu with rfl | rfl <;> rfl) (by unfold maxLen; omega) (by omega) (by simp; omega) ?_; intro v8 w8 hown8 hgrow hold hstep; obtain ⟨a8, c8, rfl⟩ := run.own_value hown8; have ho8 := run.own_kept (HOW.out.drew.alloc (.cells #[.string qs, .int .i64 (qw : Nat)] 47)) hgrow (run.own_apart (HOW.out.drew.alloc (.cells #[.string qs, .int .i64 (qw : Nat)] 47)) (HOV.out.drew.alloc _) (by decide)); have hq8 := (ho8.cellAt n (by omega)).trans (last_get HVL.out); have hf8 := ho8.frozenAt n))
          all_goals
            have HO8 := run.hid ho8
            have HN8 := run.hid hown8
            have HG8 := run.hid hgrow
            have HS8 := run.hid hstep
            clear ho8 hown8 hgrow hstep hold
            have hfin : Hid (RefRowsStep w1 X f i n g c vs (done) (.slice a8 (i - f + 1) c8) (w8.setCell ⟨g, n, none⟩ (.slice a8 (i - f + 1) c8))) := by
              refine ⟨?_, ?_, ?_⟩
              · have h := (HO8.out.stored n (.slice a8 (i - f + 1) c8)).1
                rw [set_last HVL.out] at h
                exact h
              · have h1 := HLOT.out.kept (w' := wr.drew.alloc (.cells #[.string qs, .int .i64 (qw : Nat)] 47)) fun v n xs h => h.drew.alloc _
                have e3 : (seg X f (i + 1)).length = i - f + 1 := by rw [← H3.out, List.length_append, H5]; rfl
                have h2 : Lot w8 w1.heap.size (vs ++ [.slice a8 (i - f + 1) c8]) (done ++ [seg X f (i + 1)]) := h1.grow (by rw [e3, ← H3.out, ← cells2_snoc]; exact HN8.out) HG8.out (by rw [e3, H5]; exact HS8.out)
                exact h2.kept fun v n' xs h => run.own_kept h (run.setCell_grown w8 g n _) (fun k hk hk' => run.own_apart h HO8.out (by decide) k hk hk')
              · have hb8 := run.below_grown (hbel.drew.alloc hsz _) (HOV.out.drew.alloc _) HG8.out (Nat.le_refl _) (by simp; omega)
                exact hb8.setCell (p := ⟨g, n, none⟩) (HO8.out.lt g rfl).1 _
            clear HO8 HN8 HG8 HS8 HOV HOW HLOT hq8 hf8 H3 H5 HVV
            go_wp2
            go_roundw
            case rel => exact ⟨i + 1, f, n, done, vs, _, by omega, by go_num, HN, by omega, HVL, hnf, hfin.out.1, hfin.out.2.1, hfin.out.2.2⟩
            case measure => simp [intOf]; omega
      · obtain rfl : i = N := by omega
        have HE := run.hid (HEND.out f done HI.out)
        have hsa := HSA.out f
        rw [hsa, ← HE.out] at HLOT
        have hll : n + 1 = (splitNl X).length := by have := HLOT.out.len; rw [List.length_append, ← hnv.out] at this; exact this
        have HL := run.hid HLOT.out.rows
        have HO := run.hid (run.own_mono hown hs1)
        have HLL := run.hid hll
        have hb := hb1.trans (hbel.mono hs1)
        clear hown HLOT hll hnv HI HE hsa HNL HEL HEND HSA hN HS HSN HSE HSL HC hlt
        go_wp2
        go_ret
        exact ⟨_, _, rfl, by rw [← HLL.out]; exact HO.out, HL.out, hb⟩

end Go.Proofs.Ytgniobgadilpgaa.wrp
