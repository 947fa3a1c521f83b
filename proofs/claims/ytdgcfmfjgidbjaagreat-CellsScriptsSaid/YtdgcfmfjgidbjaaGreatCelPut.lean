/-
  The walk of the layer cells: a text put into a buffer.
-/
import Derived.Test.YtdgcfmfjgidbjaaGreatCelB
import Derived.Test.YtdgcfmfjgidbjaaGreatWrpAll
namespace Go.Proofs.YtdgcfmfjgidbjaaGreat.cel
open Go Go.RowKit Go.Proofs
open Go.Proofs.YtdgcfmfjgidbjaaGreat.wrp (TV t0 flow nl sp flow_any flow_len kept2 del2 sp_eq nl_eq)
open Go.Proofs.YtdgcfmfjgidbjaaGreat.clu (cells2 told)
set_option linter.unusedVariables false

/-- a cluster as it is put: a line feed is a blank -/
def shownQ (q : TV) : TV := if q.1 = nl then (sp, 1) else q
def cellQ (s : SV) (q : TV) : CV := ⟨(shownQ q).1, ((shownQ q).2 : Nat), s⟩
def putStep (W : Nat) (r : RT) (y : Int) (s : SV) (p : Int × List CV) (q : TV) : Int × List CV := (p.1 + ((shownQ q).2 : Nat), layT W p.2 p.1 y (cellQ s q) (hasT r p.1 y) (hasT r (p.1 + 1) y))
def putT (W : Nat) (r : RT) (y : Int) (s : SV) (x : Int) (L : List CV) (F : List TV) : Int × List CV := F.foldl (putStep W r y s) (x, L)
def farX (x : Int) : Int := min (max x (-1099511627776)) 1099511627776
def letIn (r : RT) (W H : Nat) : RT := meetT r ⟨0, 0, W, H⟩
/-- the width of a text that is put -/
def putW (F : List TV) : Nat := (F.map fun q => (shownQ q).2).sum

theorem blk2 {w : World} {n : Nat} {a b : Value} {t : TypeId} (h : w.heap[n]? = some (.cells #[a, b] t (0, 0))) : w.cell? ⟨n, 0, none⟩ = some a ∧ w.cell? ⟨n, 1, none⟩ = some b := ⟨blk_cell h 0, blk_cell h 1⟩
theorem putT_snoc (W : Nat) (r : RT) (y : Int) (s : SV) (x : Int) (L : List CV) {F : List TV} {k : Nat} (h : k < F.length) : putT W r y s x L (F.take (k + 1)) = putStep W r y s (putT W r y s x L (F.take k)) (F.getD k t0) := by
  unfold putT
  rw [List.take_succ_eq_append_getElem h, List.foldl_append]
  simp [List.getD_eq_getElem?_getD, h]
theorem putW_snoc {F : List TV} {k : Nat} (h : k < F.length) : putW (F.take (k + 1)) = putW (F.take k) + (shownQ (F.getD k t0)).2 := by
  unfold putW
  rw [List.take_succ_eq_append_getElem h, List.map_append, List.sum_append]
  simp [List.getD_eq_getElem?_getD, h]
theorem putT_x (W : Nat) (r : RT) (y : Int) (s : SV) : ∀ (F : List TV) (x : Int) (L : List CV), (putT W r y s x L F).1 = x + (putW F : Nat)
  | [], x, L => by simp [putT, putW]
  | q :: F, x, L => by
    have h : putT W r y s x L (q :: F) = putT W r y s (x + ((shownQ q).2 : Nat)) (layT W L x y (cellQ s q) (hasT r x y) (hasT r (x + 1) y)) F := rfl
    rw [h, putT_x]
    unfold putW
    simp only [List.map_cons, List.sum_cons]
    push_cast
    omega
theorem flow_wide {s : ByteArray} {q : TV} (h : q ∈ flow s) : (shownQ q).2 = 1 ∨ (shownQ q).2 = 2 := by
  unfold flow kept2 at h
  rw [List.mem_filter] at h
  obtain ⟨h1, h2⟩ := h
  unfold shownQ
  by_cases e : q.1 = nl
  · rw [if_pos e]; exact .inl rfl
  · rw [if_neg e]
    have h3 : q.2 ≠ 0 := by
      intro e0
      simp [del2, e0, e] at h2
    unfold told clu.seen at h1
    rw [List.mem_map] at h1
    obtain ⟨p, -, rfl⟩ := h1
    have := clu.wide_le p
    simp only at h3 ⊢
    omega
theorem flow_at (s : ByteArray) {k : Nat} (h : k < (flow s).length) : (shownQ ((flow s).getD k t0)).2 = 1 ∨ (shownQ ((flow s).getD k t0)).2 = 2 := by
  refine flow_wide (s := s) ?_
  rw [List.getD_eq_getElem?_getD, List.getElem?_eq_getElem h]
  exact List.getElem_mem _
theorem putW_le {F : List TV} (h : ∀ k, k < F.length → (shownQ (F.getD k t0)).2 ≤ 2) : ∀ k, k ≤ F.length → putW (F.take k) ≤ 2 * k := by
  intro k
  induction k with
  | zero => intro _; simp [putW]
  | succ k ih =>
    intro hk
    rw [putW_snoc (by omega)]
    have h1 := ih (by omega)
    have h2 := h k (by omega)
    omega

theorem endT_small {a b : Int} (h0 : 0 ≤ a) (h1 : a < b) (h2 : b ≤ 4096) : endT a (b - a) = b := by
  unfold endT bringT
  rw [if_neg (by omega), if_neg (by omega)]
  omega
theorem has_small {x0 y0 x1 y1 : Int} (h0 : 0 ≤ x0 ∧ x0 < x1 ∧ x1 ≤ 4096) (h1 : 0 ≤ y0 ∧ y0 < y1 ∧ y1 ≤ 4096) {x y : Int} (h : hasT ⟨x0, y0, x1 - x0, y1 - y0⟩ x y = true) : x0 ≤ x ∧ x < x1 ∧ y0 ≤ y ∧ y < y1 := by
  unfold hasT endsT at h
  simp only [endT_small h0.1 h0.2.1 h0.2.2, endT_small h1.1 h1.2.1 h1.2.2, Bool.and_eq_true, decide_eq_true_eq] at h
  omega
theorem has_none {x y : Int} (h : hasT ⟨0, 0, 0, 0⟩ x y = true) : False := by
  have : okB (endsT ⟨0, 0, 0, 0⟩) = false := by decide
  unfold hasT at h
  rw [this] at h
  cases h
theorem ends_box {W H : Nat} (hW : W ≤ 4096) (hH : H ≤ 4096) : endsT ⟨0, 0, W, H⟩ = ⟨0, 0, if (W : Int) ≤ 0 then -8388608 else W, if (H : Int) ≤ 0 then -8388608 else H⟩ := by
  unfold endsT endT bringT
  simp only [BT.mk.injEq]
  refine ⟨by omega, by omega, ?_, ?_⟩
  · by_cases h : (W : Int) ≤ 0
    · rw [if_pos h, if_pos h]; omega
    · rw [if_neg h, if_neg h, if_neg (by omega)]; omega
  · by_cases h : (H : Int) ≤ 0
    · rw [if_pos h, if_pos h]; omega
    · rw [if_neg h, if_neg h, if_neg (by omega)]; omega
/-- a rectangle's part of a buffer lies within it -/
theorem let_in (r : RT) (W H : Nat) (hW : W ≤ 4096) (hH : H ≤ 4096) : (letIn r W H).wf ∧ ∀ x y, hasT (letIn r W H) x y = true → 0 ≤ x ∧ x < W ∧ 0 ≤ y ∧ y < H := by
  unfold letIn meetT
  have hno : (RT.mk 0 0 0 0).wf ∧ ∀ x y, hasT ⟨0, 0, 0, 0⟩ x y = true → 0 ≤ x ∧ x < (W : Int) ∧ 0 ≤ y ∧ y < (H : Int) := ⟨by unfold RT.wf w64; simp, fun x y h => (has_none h).elim⟩
  split
  · unfold rectB
    split
    · exact hno
    · rename_i h1 h2
      rw [ends_box hW hH] at h2 ⊢
      generalize endsT r = e at *
      obtain ⟨a0, b0, a1, b1⟩ := e
      unfold cutB meetB at *
      simp only at *
      obtain ⟨x0, hx0⟩ : ∃ q, q = max (max a0 0) (-1048576) := ⟨_, rfl⟩
      obtain ⟨y0, hy0⟩ : ∃ q, q = max (max b0 0) (-1048576) := ⟨_, rfl⟩
      obtain ⟨x1, hx1⟩ : ∃ q, q = min (min a1 (if (W : Int) ≤ 0 then -8388608 else (W : Int))) 1048576 := ⟨_, rfl⟩
      obtain ⟨y1, hy1⟩ : ∃ q, q = min (min b1 (if (H : Int) ≤ 0 then -8388608 else (H : Int))) 1048576 := ⟨_, rfl⟩
      rw [← hx0, ← hx1, ← hy0, ← hy1] at h2 ⊢
      have k1 : 0 ≤ x0 ∧ x0 < x1 ∧ x1 ≤ W := by
        split at hx1 <;> omega
      have k2 : 0 ≤ y0 ∧ y0 < y1 ∧ y1 ≤ H := by
        split at hy1 <;> omega
      clear hx0 hx1 hy0 hy1 h1 h2 hno
      refine ⟨by unfold RT.wf w64; simp only; omega, fun x y h => ?_⟩
      have := has_small (by omega) (by omega) h
      omega
  · exact hno

structure PutSt (w0 : World) (b g W H : Nat) (ns nr : Nat) (sv rv : Array Value) (v : Value) (F : List TV) (L : List CV) (w : World) : Prop where
  buf : Buf w b g W H L
  good : Good W H L
  ks : w.heap[ns]? = some (.cells sv 32 (0, 0))
  kr : w.heap[nr]? = some (.cells rv 34 (0, 0))
  row : w.ownsRow w0.heap.size 83 2 v F.length (cells2 F)
  grown : w0.grownBy w (some g)
  glt : g < w0.heap.size
  sle : w0.heap.size ≤ ns
  rle : w0.heap.size ≤ nr
theorem PutSt.below {w0 w w' : World} {b g W H ns nr : Nat} {sv rv : Array Value} {v : Value} {F : List TV} {L : List CV} (h : PutSt w0 b g W H ns nr sv rv v F L w) (hb : Below w.heap.size w w') : PutSt w0 b g W H ns nr sv rv v F L w' :=
  ⟨h.buf.below hb, h.good, (hb.block _ (Array.getElem?_eq_some_iff.1 h.ks).1).trans h.ks, (hb.block _ (Array.getElem?_eq_some_iff.1 h.kr).1).trans h.kr, run.own_below h.row hb, run.grown_trans h.grown (grown_below hb g) (.inl rfl), h.glt, h.sle, h.rle⟩
theorem PutSt.step {w0 w w' : World} {b g W H ns nr : Nat} {sv rv : Array Value} {v : Value} {F : List TV} {L L' : List CV} (h : PutSt w0 b g W H ns nr sv rv v F L w) (hb : Buf w' b g W H L') (hG : Good W H L') (hg : w.grownBy w' (some g)) : PutSt w0 b g W H ns nr sv rv v F L' w' := by
  have hlt := h.glt
  have h1 := h.sle
  have h2 := h.rle
  refine ⟨hb, hG, (hg.block _ (Array.getElem?_eq_some_iff.1 h.ks).1 (by simp; omega)).trans h.ks, (hg.block _ (Array.getElem?_eq_some_iff.1 h.kr).1 (by simp; omega)).trans h.kr, h.row.kept hg ?_, run.grown_trans h.grown hg (.inl rfl), h.glt, h.sle, h.rle⟩
  cases hv : v.ownBlock with
  | none => exact .inl rfl
  | some k =>
    refine .inr fun e => ?_
    have := (h.row.lt k hv).1
    simp only [Option.some.injEq] at e
    omega

set_option maxHeartbeats 400000 in
theorem put_nil (x y : Int) (t : ByteArray) (s : SV) (r : RT) (w : World) : Calls Tryz.prog 12 #[.pointer none, .int .i64 x, .int .i64 y, .string t, s.val, r.val] w fun e w' => e = .returned (.int .i64 0) ∧ Below w.heap.size w w' := by
  obtain ⟨s1, s2, s3⟩ := s
  obtain ⟨r1, r2, r3, r4⟩ := r
  have hb := run.below_two w (.cells #[.int .i32 s1, .int .i32 s2, .int .u8 s3] 32) (.cells #[.int .i64 r1, .int .i64 r2, .int .i64 r3, .int .i64 r4] 34)
  show Calls _ _ #[_, _, _, _, .agg #[.int .i32 s1, .int .i32 s2, .int .u8 s3], .agg #[.int .i64 r1, .int .i64 r2, .int .i64 r3, .int .i64 r4]] _ _
  go_enter Tryz.func12, Tryz.ntmps12
  go_wp2
  go_ret
  exact ⟨rfl, hb⟩

theorem put_good {W H : Nat} {r : RT} {y : Int} {s : SV} (hin : ∀ x y, hasT r x y = true → 0 ≤ x ∧ x < W ∧ 0 ≤ y ∧ y < H) {F : List TV} (hF : ∀ k, k < F.length → (shownQ (F.getD k t0)).2 = 1 ∨ (shownQ (F.getD k t0)).2 = 2) {x : Int} {L : List CV} (hL : Good W H L) : ∀ k, k ≤ F.length → Good W H (putT W r y s x L (F.take k)).2 := by
  intro k
  induction k with
  | zero => intro _; exact hL
  | succ k ih =>
    intro hk
    rw [putT_snoc W r y s x L (show k < F.length by omega)]
    refine lay_good (ih (by omega)) ?_ (hin _ _) (hin _ _)
    have := hF k (by omega)
    unfold cellQ
    simp only
    omega

set_option maxRecDepth 100000 in
set_option maxHeartbeats 8000000 in
theorem put_any (b g W H : Nat) (L : List CV) (x y : Int) (t : ByteArray) (s : SV) (r : RT) (w : World) (h : Buf w b g W H L) (hG : Good W H L) (hr : r.wf) (ht : t.size ≤ 68719476736) :
    Calls Tryz.prog 12 #[.pointer (some ⟨b, 0, none⟩), .int .i64 x, .int .i64 y, .string t, s.val, r.val] w fun e w' => e = .returned (.int .i64 (putW (flow t) : Nat)) ∧ Buf w' b g W H (putT W (letIn r W H) y (overS s) (farX x) L (flow t)).2 ∧ Good W H (putT W (letIn r W H) y (overS s) (farX x) L (flow t)).2 ∧ w.grownBy w' (some g) := by
  obtain ⟨hblt, hglt⟩ := h.lt
  have hW := h.wide
  have hH := h.high
  obtain ⟨hlw, hlin⟩ := let_in r W H hW hH
  have HWIN := run.hid (fun w (h : Buf w b g W H L) => window_any b g W H L r w h hr)
  have HOV := run.hid (fun w => over_any s w)
  have HFL := run.hid (fun w => flow_any t w ht)
  have hN := flow_len t
  have hFQ := @flow_at t
  change Hid (∀ w, _ → Calls _ _ _ _ fun e w' => e = .returned (letIn r W H).val ∧ _) at HWIN
  have hfx : -1099511627776 ≤ farX x ∧ farX x ≤ 1099511627776 := by unfold farX; omega
  have hfe : min (max x (-1099511627776)) 1099511627776 = farX x := rfl
  generalize farX x = xx at *
  generalize letIn r W H = lt at *
  generalize overS s = os at *
  generalize flow t = F at *
  have HGOOD := run.hid (fun k hk => put_good (r := lt) (y := y) (s := os) hlin (F := F) (fun k hk => hFQ hk) (x := xx) hG k hk)
  have HPX := run.hid (fun k => putT_x W lt y os (F.take k) xx L)
  have HSN := run.hid (fun k hk => @putT_snoc W lt y os xx L F k hk)
  have HWS := run.hid (fun k hk => @putW_snoc F k hk)
  have HWL := run.hid (putW_le (F := F) (fun k hk => by have := hFQ hk; omega))
  have HLAY := run.hid (fun L x c w h hG hc hx => lay_any b g W H L x y c lt w h hG hc hlw hx hlin)
  have HQ := run.hid (fun k hk => @hFQ k hk)
  have HALL := run.hid (show F.take F.length = F from List.take_of_length_le (Nat.le_refl _))
  clear hlin hFQ hr
  obtain ⟨s1, s2, s3⟩ := s
  obtain ⟨o1, o2, o3⟩ := os
  obtain ⟨r1, r2, r3, r4⟩ := r
  obtain ⟨l1, l2, l3, l4⟩ := lt
  show Calls _ _ #[_, _, _, _, .agg #[.int .i32 s1, .int .i32 s2, .int .u8 s3], .agg #[.int .i64 r1, .int .i64 r2, .int .i64 r3, .int .i64 r4]] _ _
  have hbb := run.below_two w (.cells #[.int .i32 s1, .int .i32 s2, .int .u8 s3] 32) (.cells #[.int .i64 r1, .int .i64 r2, .int .i64 r3, .int .i64 r4] 34)
  have k0 := heap_alloc2_old w (.cells #[.int .i32 s1, .int .i32 s2, .int .u8 s3] 32) (.cells #[.int .i64 r1, .int .i64 r2, .int .i64 r3, .int .i64 r4] 34)
  have hB := (h.alloc (.cells #[.int .i32 s1, .int .i32 s2, .int .u8 s3] 32)).alloc (.cells #[.int .i64 r1, .int .i64 r2, .int .i64 r3, .int .i64 r4] 34)
  have HC := run.hid (HWIN.out _ hB)
  change Hid (Calls _ _ _ _ fun e w' => e = .returned (.agg #[.int .i64 l1, .int .i64 l2, .int .i64 l3, .int .i64 l4]) ∧ _) at HC
  change Hid (∀ w, Calls _ _ #[.agg #[.int .i32 s1, .int .i32 s2, .int .u8 s3], _] _ fun e w' => e = .returned (.agg #[.int .i32 o1, .int .i32 o2, .int .u8 o3]) ∧ _) at HOV
  clear HWIN hB
  have HBG := run.hid (And.intro h hG)
  clear h hG
  go_enter Tryz.func12, Tryz.ntmps12
  go_wp2_with fail
  refine HC.out.mono ?_
  rintro e w3 ⟨rfl, hb3⟩
  have s3' := hb3.size
  simp only [World.size_alloc] at s3'
  have k3 : (w3.alloc (.cells #[.int .i64 l1, .int .i64 l2, .int .i64 l3, .int .i64 l4] 34)).heap[w.heap.size]? = some (.cells #[.int .i32 s1, .int .i32 s2, .int .u8 s3] 32 (0, 0)) := (blk_old _ (by omega)).trans ((hb3.block _ (by simp <;> omega)).trans k0)
  have r3k := heap_alloc_new w3 (.cells #[.int .i64 l1, .int .i64 l2, .int .i64 l3, .int .i64 l4] 34)
  have hB3 := (hbb.trans (hb3.mono hbb.size)).alloc (hbb.trans (hb3.mono hbb.size)).size (.cells #[.int .i64 l1, .int .i64 l2, .int .i64 l3, .int .i64 l4] 34)
  clear hb3 hbb k0 HC
  obtain ⟨⟨c0, c1, c2⟩, -⟩ := blk3 k3
  go_wp2_with fail
  refine (HOV.out _).mono ?_
  rintro e w5 ⟨rfl, hb5⟩
  have s5 := hb5.size
  simp only [World.size_alloc] at s5
  have k5 := (hb5.block _ (by simp; omega)).trans k3
  have r5 := (hb5.block w3.heap.size (by simp)).trans r3k
  have hB5 := hB3.trans (hb5.mono hB3.size)
  clear c0 c1 c2 k3 r3k hB3 hb5 HOV
  obtain ⟨⟨d0, d1, d2⟩, g0, g1, g2⟩ := blk3 k5
  have K6 := set3 (a' := .int .i32 o1) (b' := .int .i32 o2) (c' := .int .u8 o3) k5
  have HB6 := below3 (.int .i32 o1) (.int .i32 o2) (.int .u8 o3) hB5 (Nat.le_refl _)
  have R6 : (((w5.setCell ⟨w.heap.size, 0, none⟩ (.int .i32 o1)).setCell ⟨w.heap.size, 1, none⟩ (.int .i32 o2)).setCell ⟨w.heap.size, 2, none⟩ (.int .u8 o3)).heap[w3.heap.size]? = _ := (blk_other _ (by simp; omega)).trans ((blk_other _ (by simp; omega)).trans ((blk_other _ (by simp; omega)).trans r5))
  have KK := run.hid (And.intro K6 (And.intro R6 HB6))
  clear K6 R6 HB6 k5 r5 hB5
  go_wp2_with fail
  refine (HFL.out _).mono ?_
  rintro e w7 ⟨v, rfl, hrow, hb7⟩
  clear d0 d1 d2 g0 g1 g2
  obtain ⟨K6, R6, HB6⟩ := KK.out
  have s6 := HB6.size
  have hB7 := HB6.trans (hb7.mono s6)
  have HST := run.hid (show PutSt w b g W H w.heap.size w3.heap.size #[.int .i32 o1, .int .i32 o2, .int .u8 o3] #[.int .i64 l1, .int .i64 l2, .int .i64 l3, .int .i64 l4] v F (putT W ⟨l1, l2, l3, l4⟩ y ⟨o1, o2, o3⟩ xx L (F.take 0)).2 w7 from
    ⟨HBG.out.1.below hB7, HBG.out.2, (hb7.block _ (Array.getElem?_eq_some_iff.1 K6).1).trans K6, (hb7.block _ (Array.getElem?_eq_some_iff.1 R6).1).trans R6, run.own_mono hrow s6, grown_below hB7 g, hglt, Nat.le_refl _, by omega⟩)
  clear K6 R6 HB6 KK hb7 hB7 HBG HFL
  obtain ⟨a, cap, rfl⟩ := run.own_value hrow
  clear hrow
  have hNF : F.length = (F.take F.length).length := by rw [HALL.out]
  generalize hN2 : F.length = N at *
  clear hNF
  go_wp2
  go_loopw [14, 30] (fun vn vi wr => ∃ k : Nat, k ≤ N ∧ vi = .int .i64 k ∧ vn = .int .i64 (putW (F.take k) : Nat) ∧ Hid (PutSt w b g W H w.heap.size w3.heap.size #[.int .i32 o1, .int .i32 o2, .int .u8 o3] #[.int .i64 l1, .int .i64 l2, .int .i64 l3, .int .i64 l4] (.slice a N cap) F (putT W ⟨l1, l2, l3, l4⟩ y ⟨o1, o2, o3⟩ xx L (F.take k)).2 wr)) (fun _ vi _ => ((N : Int) - intOf vi).toNat)
  case atStart => exact ⟨0, by omega, rfl, rfl, HST⟩
  case round =>
    obtain ⟨k, hk, rfl, rfl, HS⟩ := hrel
    by_cases hlt : k < N
    · have HQk := HQ.out k (by omega)
      have hwl := HWL.out k (by omega)
      have HP1 := run.hid (HSN.out k (by omega))
      have HP2 := run.hid (HWS.out k (by omega))
      have HPx := HPX.out k
      have HGk := run.hid (HGOOD.out (k + 1) (by omega))
      obtain ⟨a', cap', he, hcell⟩ := clu.reads2_own HS.out.row
      simp only [Value.slice.injEq] at he
      obtain ⟨rfl, -, rfl⟩ := he
      obtain ⟨b1, o1', rfl, hb1, hx0, hx1⟩ := hcell k (by omega)
      clear hcell
      change wr.cell? _ = some (.string (F.getD k t0).1) at hx0
      change wr.cell? _ = some (.int .i64 ((F.getD k t0).2 : Nat)) at hx1
      generalize F.getD k t0 = q at *
      obtain ⟨qs, qw⟩ := q
      dsimp only at hx0 hx1
      have hWl : wr.heap.size ≠ g := by have := HS.out.buf.lt; omega
      by_cases e : qs = nl
      · have hcmp : (qs.toList == [10]) = true := by rw [nl_eq]; simp [e]
        have hsq : shownQ (qs, qw) = (sp, 1) := if_pos e
        clear e
        have HP1' : (putT W ⟨l1, l2, l3, l4⟩ y ⟨o1, o2, o3⟩ xx L (F.take (k + 1))).2 = layT W (putT W ⟨l1, l2, l3, l4⟩ y ⟨o1, o2, o3⟩ xx L (F.take k)).2 (xx + (putW (F.take k) : Nat)) y ⟨⟨#[32]⟩, 1, ⟨o1, o2, o3⟩⟩ (hasT ⟨l1, l2, l3, l4⟩ (xx + (putW (F.take k) : Nat)) y) (hasT ⟨l1, l2, l3, l4⟩ (xx + (putW (F.take k) : Nat) + 1) y) := by rw [HP1.out]; unfold putStep cellQ; rw [hsq, HPx]; rfl
        rw [hsq] at HP2
        clear HP1 hsq
        have HA := HS.out.below (run.below_one wr (.cells #[.string ⟨#[32]⟩, .int .i64 1] 83))
        have HAK := heap_alloc_new wr (.cells #[.string ⟨#[32]⟩, .int .i64 1] 83)
        obtain ⟨⟨d0, d1, d2⟩, -⟩ := blk3 HA.ks
        obtain ⟨⟨f0, f1, f2, f3⟩, -⟩ := blk4 HA.kr
        have HLC := run.hid (HLAY.out _ (xx + (putW (F.take k) : Nat)) ⟨⟨#[32]⟩, 1, ⟨o1, o2, o3⟩⟩ _ HA.buf HA.good (.inl rfl) (by omega))
        rw [← HP1'] at HLC
        have HH := run.hid HA
        have HHK := run.hid HAK
        clear HLAY HP1' HA HAK HS HSN HWS HWL HQ HGOOD HPX HPx
        go_wp2_with fail
        refine HLC.out.mono ?_
        rintro e w9 ⟨rfl, hb9, hg9⟩
        have HS9 := run.hid (HH.out.step hb9 HGk.out hg9)
        obtain ⟨-, e1⟩ := blk2 ((hg9.block _ (by simp) (by simp; omega)).trans HHK.out)
        clear HH HHK d0 d1 d2 f0 f1 f2 f3 HLC hb9 hg9 HGk
        go_wp2
        go_roundw
        case rel => exact ⟨k + 1, by omega, by go_num, by rw [HP2.out]; go_num, HS9⟩
        case measure => simp [intOf]; omega
      · have hcmp : (qs.toList == [10]) = false := by rw [nl_eq]; simp [e]
        have hsq : shownQ (qs, qw) = (qs, qw) := if_neg e
        clear e
        have HP1' : (putT W ⟨l1, l2, l3, l4⟩ y ⟨o1, o2, o3⟩ xx L (F.take (k + 1))).2 = layT W (putT W ⟨l1, l2, l3, l4⟩ y ⟨o1, o2, o3⟩ xx L (F.take k)).2 (xx + (putW (F.take k) : Nat)) y ⟨qs, qw, ⟨o1, o2, o3⟩⟩ (hasT ⟨l1, l2, l3, l4⟩ (xx + (putW (F.take k) : Nat)) y) (hasT ⟨l1, l2, l3, l4⟩ (xx + (putW (F.take k) : Nat) + 1) y) := by rw [HP1.out]; unfold putStep cellQ; rw [hsq, HPx]
        rw [hsq] at HP2 HQk
        clear HP1 hsq
        dsimp only at HQk HP2
        rcases HQk with rfl | rfl
        · replace hx1 : wr.cell? ⟨b1, o1' + k * 2 + 1, none⟩ = some (.int .i64 1) := hx1
          change _ = layT W _ _ y ⟨qs, 1, ⟨o1, o2, o3⟩⟩ _ _ at HP1'
          have HA := HS.out.below (run.below_one wr (.cells #[.string qs, .int .i64 1] 83))
          have HAK := heap_alloc_new wr (.cells #[.string qs, .int .i64 1] 83)
          obtain ⟨⟨d0, d1, d2⟩, -⟩ := blk3 HA.ks
          obtain ⟨⟨f0, f1, f2, f3⟩, -⟩ := blk4 HA.kr
          have HLC := run.hid (HLAY.out _ (xx + (putW (F.take k) : Nat)) ⟨qs, 1, ⟨o1, o2, o3⟩⟩ _ HA.buf HA.good (.inl rfl) (by omega))
          rw [← HP1'] at HLC
          have HH := run.hid HA
          have HHK := run.hid HAK
          clear HLAY HP1' HA HAK HS HSN HWS HWL HQ HGOOD HPX HPx
          go_wp2_with fail
          refine HLC.out.mono ?_
          rintro e w9 ⟨rfl, hb9, hg9⟩
          have HS9 := run.hid (HH.out.step hb9 HGk.out hg9)
          obtain ⟨-, e1⟩ := blk2 ((hg9.block _ (by simp) (by simp; omega)).trans HHK.out)
          clear HH HHK d0 d1 d2 f0 f1 f2 f3 HLC hb9 hg9 HGk
          go_wp2
          go_roundw
          case rel => exact ⟨k + 1, by omega, by go_num, by rw [HP2.out]; go_num, HS9⟩
          case measure => simp [intOf]; omega
        · replace hx1 : wr.cell? ⟨b1, o1' + k * 2 + 1, none⟩ = some (.int .i64 2) := hx1
          change _ = layT W _ _ y ⟨qs, 2, ⟨o1, o2, o3⟩⟩ _ _ at HP1'
          have HA := HS.out.below (run.below_one wr (.cells #[.string qs, .int .i64 2] 83))
          have HAK := heap_alloc_new wr (.cells #[.string qs, .int .i64 2] 83)
          obtain ⟨⟨d0, d1, d2⟩, -⟩ := blk3 HA.ks
          obtain ⟨⟨f0, f1, f2, f3⟩, -⟩ := blk4 HA.kr
          have HLC := run.hid (HLAY.out _ (xx + (putW (F.take k) : Nat)) ⟨qs, 2, ⟨o1, o2, o3⟩⟩ _ HA.buf HA.good (.inr rfl) (by omega))
          rw [← HP1'] at HLC
          have HH := run.hid HA
          have HHK := run.hid HAK
          clear HLAY HP1' HA HAK HS HSN HWS HWL HQ HGOOD HPX HPx
          go_wp2_with fail
          refine HLC.out.mono ?_
          rintro e w9 ⟨rfl, hb9, hg9⟩
          have HS9 := run.hid (HH.out.step hb9 HGk.out hg9)
          obtain ⟨-, e1⟩ := blk2 ((hg9.block _ (by simp) (by simp; omega)).trans HHK.out)
          clear HH HHK d0 d1 d2 f0 f1 f2 f3 HLC hb9 hg9 HGk
          go_wp2
          go_roundw
          case rel => exact ⟨k + 1, by omega, by go_num, by rw [HP2.out]; go_num, HS9⟩
          case measure => simp [intOf]; omega
    · obtain rfl : k = N := by omega
      rw [HALL.out] at HS ⊢
      have HW : Hid (putW F = putW F) := rfl
      clear HSN HWS HWL HQ HGOOD HPX
      go_wp2
      go_ret
      exact ⟨rfl, HS.out.buf, HS.out.good, HS.out.grown⟩
end Go.Proofs.YtdgcfmfjgidbjaaGreat.cel
