/-
  The walk of Paste. (Printed by gen_celpaste.py.)
-/
import Derived.Test.YtinnggiohalifaaCelShift
namespace Go.Proofs.Ytinnggiohalifaa.cel
open Go Go.RowKit Go.Proofs
set_option linter.unusedVariables false

def pasteF (W : Nat) (r : RT) (y x : Int) (R : List CV) : Nat → Nat → List CV → List CV
  | 0, _, G => G
  | f + 1, i, G => if i < R.length then pasteF W r y x R f (i + max (unitT (R.drop i)) 1) (layT W G (x + i) y (R.getD i z0) (hasT r (x + i) y) (hasT r (x + i + 1) y)) else G
/-- a row of cells, written -/
def pasteT (W : Nat) (r : RT) (y x : Int) (R G : List CV) : List CV := pasteF W r y x R R.length 0 G

theorem Reads5.grown {w w' : World} {a : Option Addr} {cap g : Nat} {L : List CV} (h : Reads5 w (.slice a L.length cap) L) (hg : w.grownBy w' (some g)) (hne : ∀ b off, a = some ⟨b, off, none⟩ → b ≠ g) : Reads5 w' (.slice a L.length cap) L := by
  obtain ⟨a', cap', e, hc⟩ := h
  simp only [Value.slice.injEq, true_and] at e
  obtain ⟨rfl, rfl⟩ := e
  refine ⟨a, cap, rfl, fun i hi => ?_⟩
  obtain ⟨b, off, rfl, hlt, h0, h1, h2, h3, h4⟩ := hc i hi
  have hb := hg.block b hlt (by have := hne b off rfl; simpa using this)
  exact ⟨b, off, rfl, Nat.lt_of_lt_of_le hlt hg.size, (World.cell?_of_block (a := ⟨b, off + i * 5, none⟩) hb).trans h0, (World.cell?_of_block (a := ⟨b, off + i * 5 + 1, none⟩) hb).trans h1, (World.cell?_of_block (a := ⟨b, off + i * 5 + 2, none⟩) hb).trans h2, (World.cell?_of_block (a := ⟨b, off + i * 5 + 3, none⟩) hb).trans h3, (World.cell?_of_block (a := ⟨b, off + i * 5 + 4, none⟩) hb).trans h4⟩

/-- where Paste stands -/
structure Pst (w0 : World) (b g W H : Nat) (n m : Nat) (x y : Int) (a : Option Addr) (cap : Nat) (r : Array Value) (R : List CV) (G : List CV) (w : World) : Prop where
  buf : Buf w b g W H G
  good : Good W H G
  k0 : w.heap[n]? = some (.cells #[.pointer (some ⟨b, 0, none⟩)] 27 (0, 0))
  k1 : w.heap[n + 1]? = some (.cells #[.int .i64 x] 3 (0, 0))
  k2 : w.heap[n + 2]? = some (.cells #[.int .i64 y] 3 (0, 0))
  k3 : w.heap[n + 3]? = some (.cells #[.slice a R.length cap] 35 (0, 0))
  k4 : w.heap[m]? = some (.cells r 58 (0, 0))
  row : Reads5 w (.slice a R.length cap) R
  far : ∀ b off, a = some ⟨b, off, none⟩ → b ≠ g
  grown : w0.grownBy w (some g)
  glt : g < w0.heap.size
  nle : w0.heap.size ≤ n
  mle : w0.heap.size ≤ m
theorem Pst.below {w0 w w' : World} {b g W H n m : Nat} {x y : Int} {a : Option Addr} {cap : Nat} {r : Array Value} {R G : List CV} (h : Pst w0 b g W H n m x y a cap r R G w) (hb : Below w.heap.size w w') : Pst w0 b g W H n m x y a cap r R G w' :=
  ⟨h.buf.below hb, h.good, (hb.block _ (Array.getElem?_eq_some_iff.1 h.k0).1).trans h.k0, (hb.block _ (Array.getElem?_eq_some_iff.1 h.k1).1).trans h.k1, (hb.block _ (Array.getElem?_eq_some_iff.1 h.k2).1).trans h.k2, (hb.block _ (Array.getElem?_eq_some_iff.1 h.k3).1).trans h.k3, (hb.block _ (Array.getElem?_eq_some_iff.1 h.k4).1).trans h.k4, h.row.below hb, h.far, run.grown_trans h.grown (grown_below hb g) (.inl rfl), h.glt, h.nle, h.mle⟩
theorem Pst.step {w0 w w' : World} {b g W H n m : Nat} {x y : Int} {a : Option Addr} {cap : Nat} {r : Array Value} {R G G' : List CV} (h : Pst w0 b g W H n m x y a cap r R G w) (hb : Buf w' b g W H G') (hG : Good W H G') (hg : w.grownBy w' (some g)) : Pst w0 b g W H n m x y a cap r R G' w' := by
  have h1 := h.glt
  have h2 := h.nle
  have h3 := h.mle
  exact ⟨hb, hG, (hg.block _ (Array.getElem?_eq_some_iff.1 h.k0).1 (by simp; omega)).trans h.k0, (hg.block _ (Array.getElem?_eq_some_iff.1 h.k1).1 (by simp; omega)).trans h.k1, (hg.block _ (Array.getElem?_eq_some_iff.1 h.k2).1 (by simp; omega)).trans h.k2, (hg.block _ (Array.getElem?_eq_some_iff.1 h.k3).1 (by simp; omega)).trans h.k3, (hg.block _ (Array.getElem?_eq_some_iff.1 h.k4).1 (by simp; omega)).trans h.k4, h.row.grown hg h.far, h.far, run.grown_trans h.grown hg (.inl rfl), h.glt, h.nle, h.mle⟩

theorem unit_wide {R : List CV} {i : Nat} (hi : i < R.length) (hu : 0 < unitT (R.drop i)) : (R.getD i z0).wide = 1 ∨ (R.getD i z0).wide = 2 := by
  have hd : R.drop i = R[i] :: R.drop (i + 1) := List.drop_eq_getElem_cons hi
  have e : R.getD i z0 = R[i] := by simp [List.getD_eq_getElem?_getD, hi]
  rw [hd] at hu
  rw [e]
  have h1 : 0 < unit1 R[i] := by
    change 0 < (if unit1 R[i] = 2 ∧ (R.drop (i + 1)).head? ≠ some (restT R[i].sty) then 0 else unit1 R[i]) at hu
    split at hu
    · omega
    · exact hu
  unfold unit1 at h1
  split at h1
  · rename_i h
    obtain ⟨-, h2, h3, -⟩ := h
    have := wdT_le R[i].text
    omega
  · omega

set_option maxRecDepth 100000 in
set_option maxHeartbeats 8000000 in
theorem pasteStep_any (w0 : World) (b g W H n m : Nat) (x y : Int) (a : Option Addr) (cap : Nat) (lt : RT) (R G : List CV) (i k : Nat) (w : World) (h : Pst w0 b g W H n m x y a cap #[.int .i64 lt.x, .int .i64 lt.y, .int .i64 lt.w, .int .i64 lt.h] R G w) (hi : i < R.length) (hc : (R.getD i z0).wide = 1 ∨ (R.getD i z0).wide = 2)
    (hN : R.length ≤ 140737488355328) (hx : -1099511627776 ≤ x ∧ x ≤ 1099511627776) (hlw : lt.wf) (hin : ∀ x y, hasT lt x y = true → 0 ≤ x ∧ x < W ∧ 0 ≤ y ∧ y < H) :
    Calls Try.prog 67 #[.int .i64 i, .int .i64 k, .pointer (some ⟨n, 0, none⟩), .pointer (some ⟨n + 1, 0, none⟩), .pointer (some ⟨n + 2, 0, none⟩), .pointer (some ⟨n + 3, 0, none⟩), .pointer (some ⟨m, 0, none⟩)] w fun e w' => e = .returned (.tuple #[]) ∧ Pst w0 b g W H n m x y a cap #[.int .i64 lt.x, .int .i64 lt.y, .int .i64 lt.w, .int .i64 lt.h] R (layT W G (x + (i : Nat)) y (R.getD i z0) (hasT lt (x + (i : Nat)) y) (hasT lt (x + (i : Nat) + 1) y)) w' := by
  obtain ⟨it, hinf, -, hsz, -⟩ := info_parts info_cell
  have hxi : -4611686018427387904 ≤ x + (i : Int) ∧ x + (i : Int) ≤ 4611686018427387904 := by omega
  have HLAY := run.hid (fun X hB => lay_any b g W H G (x + (i : Nat)) y (R.getD i z0) lt X hB h.good hc hlw hxi hin)
  have HG2 := run.hid (lay_good (y := y) (x := x + (i : Nat)) h.good hc (hin _ _) (hin _ _))
  obtain ⟨rb, ro, ha, hrb, -⟩ := reads_cell h.row hi
  subst ha
  have HCE := run.hid (fun X G2 (h2 : Pst w0 b g W H n m x y (some ⟨rb, ro, none⟩) cap #[.int .i64 lt.x, .int .i64 lt.y, .int .i64 lt.w, .int .i64 lt.h] R G2 X) => show Cell5 X rb (ro + i * 5) (R.getD i z0) from by
    obtain ⟨b1, o1, e, -, hc⟩ := reads_cell h2.row hi
    simp only [Option.some.injEq, Addr.mk.injEq, and_true] at e
    obtain ⟨rfl, rfl⟩ := e
    exact hc)
  have HP := run.hid h
  generalize hLAY : layT W G (x + (i : Nat)) y (R.getD i z0) (hasT lt (x + (i : Nat)) y) (hasT lt (x + (i : Nat) + 1) y) = LAY at *
  generalize R.getD i z0 = c at *
  obtain ⟨l1, l2, l3, l4⟩ := lt
  change Hid (∀ X, _ → Calls _ _ #[_, _, _, _, .agg #[.int .i64 l1, .int .i64 l2, .int .i64 l3, .int .i64 l4]] _ _) at HLAY
  dsimp only at HP HCE ⊢
  have q0 := blk_cell h.k0 0
  clear h hLAY hc hin hlw
  go_enter Try.func67, Try.ntmps67
  go_upto_region 0 with fail
  refine lx.region (fun D X => ∃ G2, Pst w0 b g W H n m x y (some ⟨rb, ro, none⟩) cap #[.int .i64 l1, .int .i64 l2, .int .i64 l3, .int .i64 l4] R G2 X ∧ (D 10 = false → G2 = G) ∧ (D 10 = true → G2 = LAY)) (by kernel_rfl) (by kernel_rfl) (by kernel_rfl) ⟨G, HP.out.below (drewB (Below.refl _ _)), fun _ => rfl, fun h => (by cases h)⟩ ?_
  refine lx.begin 20 rfl ?_
  refine lx.o_pure (.pointer (some ⟨b, 0, none⟩)) (fun D X hC => lx.run_load rfl rfl Try.underlying27 rfl (blk_cell hC.choose_spec.1.k0 0)) ?_
  refine lx.o_pure (.int .i64 x) (fun D X hC => lx.run_load rfl rfl Try.underlying3 rfl (blk_cell hC.choose_spec.1.k1 0)) ?_
  refine lx.o_pure (.int .i64 (i : Nat)) (fun _ _ h => by first | rfl | kernel_rfl) ?_
  refine lx.o_pure (.int .i64 (x + (i : Nat))) (fun _ _ _ => lx.run_add rfl rfl rfl (by omega) rfl) ?_
  refine lx.o_pure (.int .i64 y) (fun D X hC => lx.run_load rfl rfl Try.underlying3 rfl (blk_cell hC.choose_spec.1.k2 0)) ?_
  refine lx.o_pure (.slice (some ⟨rb, ro, none⟩) R.length cap) (fun D X hC => lx.run_load rfl rfl Try.underlying35 rfl (blk_cell hC.choose_spec.1.k3 0)) ?_
  refine lx.o_pure (.int .i64 (i : Nat)) (fun _ _ h => by first | rfl | kernel_rfl) ?_
  refine lx.o_pure (.pointer (some ⟨rb, ro + i * 5, none⟩)) (fun D X hC => run_atk rfl rfl rfl hi hinf hsz) ?_
  refine lx.o_pure c.val (fun D X hC => run_load5 rfl rfl (HCE.out X _ hC.choose_spec.1)) ?_
  refine lx.o_pure (.agg #[.int .i64 l1, .int .i64 l2, .int .i64 l3, .int .i64 l4]) (fun D X hC => run_loadrow rfl rfl hC.choose_spec.1.k4 Try.underlying58 rfl (by kernel_rfl)) ?_
  refine lx.o_callE (.tuple #[]) 64 #[.pointer (some ⟨b, 0, none⟩), .int .i64 (x + (i : Nat)), .int .i64 y, c.val, .agg #[.int .i64 l1, .int .i64 l2, .int .i64 l3, .int .i64 l4]] (fun _ _ _ => lx.run_fn rfl rfl rfl (enters_of Try.func64 (by kernel_rfl) rfl)) (fun D X h0 hC => ?_) ?_
  · obtain ⟨G2, hS, h1, h2⟩ := hC
    obtain rfl := h1 h0
    exact (HLAY.out X hS.buf).mono fun e w2 ⟨he, hb2, hg2⟩ => ⟨he, _, hS.step hb2 HG2.out hg2, (fun h => by cases h), fun _ => rfl⟩
  refine lx.o_end ?_
  simp only [lx.ov]
  rintro X d hd ⟨G2, hS, -, h2⟩
  obtain rfl := h2 (hd 10 (by decide))
  have HF := run.hid hS
  clear hS h2 hd HP
  go_simp
  go_wp2
  first | go_end0 | (refine bodyPost_ret (results_none rfl _ _ _) rfl ?_)
  exact ⟨rfl, HF.out⟩

theorem alloc5 (w : World) (o0 o1 o2 o3 o4 : Obj) : (((((w.alloc o0).alloc o1).alloc o2).alloc o3).alloc o4).heap[w.heap.size]? = some o0 ∧ (((((w.alloc o0).alloc o1).alloc o2).alloc o3).alloc o4).heap[w.heap.size + 1]? = some o1 ∧ (((((w.alloc o0).alloc o1).alloc o2).alloc o3).alloc o4).heap[w.heap.size + 2]? = some o2 ∧ (((((w.alloc o0).alloc o1).alloc o2).alloc o3).alloc o4).heap[w.heap.size + 3]? = some o3 ∧ (((((w.alloc o0).alloc o1).alloc o2).alloc o3).alloc o4).heap[w.heap.size + 4]? = some o4 ∧ (((((w.alloc o0).alloc o1).alloc o2).alloc o3).alloc o4).heap.size = w.heap.size + 5 ∧ Below w.heap.size w (((((w.alloc o0).alloc o1).alloc o2).alloc o3).alloc o4) := by
  refine ⟨?_, ?_, ?_, ?_, ?_, ?_, ?_⟩
  · show ((((((w.heap.push o0).push o1).push o2).push o3).push o4))[_]? = _
    simp [Array.getElem?_push]
    repeat rw [if_neg (by omega)]
    try rfl
  · show ((((((w.heap.push o0).push o1).push o2).push o3).push o4))[_]? = _
    simp [Array.getElem_push]
  · show ((((((w.heap.push o0).push o1).push o2).push o3).push o4))[_]? = _
    simp [Array.getElem_push]
  · show ((((((w.heap.push o0).push o1).push o2).push o3).push o4))[_]? = _
    simp [Array.getElem_push]
  · show ((((((w.heap.push o0).push o1).push o2).push o3).push o4))[_]? = _
    simp [Array.getElem_push]
  · simp
  · have h := run.below_one w o0
    have h1 := h.alloc h.size o1
    have h2 := h1.alloc h1.size o2
    have h3 := h2.alloc h2.size o3
    exact h3.alloc h3.size o4

theorem pasteF_step {W : Nat} {r : RT} {y x : Int} {R G T : List CV} {i : Nat} (hi : i < R.length) (h : ∃ f, R.length ≤ i + f ∧ T = pasteF W r y x R f i G) :
    ∃ f, R.length ≤ i + max (unitT (R.drop i)) 1 + f ∧ T = pasteF W r y x R f (i + max (unitT (R.drop i)) 1) (layT W G (x + i) y (R.getD i z0) (hasT r (x + i) y) (hasT r (x + i + 1) y)) := by
  obtain ⟨f, h1, h2⟩ := h
  cases f with
  | zero => omega
  | succ f =>
    unfold pasteF at h2
    rw [if_pos hi] at h2
    exact ⟨f, by omega, h2⟩
theorem pasteF_end {W : Nat} {r : RT} {y x : Int} {R G T : List CV} (h : ∃ f, R.length ≤ R.length + f ∧ T = pasteF W r y x R f R.length G) : T = G := by
  obtain ⟨f, -, h⟩ := h
  cases f with
  | zero => exact h
  | succ f => unfold pasteF at h; rw [if_neg (by omega)] at h; exact h

set_option maxRecDepth 100000 in
set_option maxHeartbeats 8000000 in
theorem paste_any (b g W H : Nat) (L : List CV) (x y : Int) (a : Option Addr) (cap : Nat) (R : List CV) (r : RT) (w : World) (h : Buf w b g W H L) (hG : Good W H L) (hr : r.wf) (hR : Reads5 w (.slice a R.length cap) R) (hcap : R.length ≤ cap) (hN : R.length ≤ 140737488355328) (hL : ∀ c ∈ R, Fit c) (hfar : ∀ b off, a = some ⟨b, off, none⟩ → b ≠ g) :
    Calls Try.prog 42 #[.pointer (some ⟨b, 0, none⟩), .int .i64 x, .int .i64 y, .slice a R.length cap, r.val] w fun e w' => e = .returned (.int .i64 (if wholeT R = true then 0 else 180)) ∧ Buf w' b g W H (if wholeT R = true then pasteT W (letIn r W H) y (farX x) R L else L) ∧ Good W H (if wholeT R = true then pasteT W (letIn r W H) y (farX x) R L else L) ∧ w.grownBy w' (some g) := by
  obtain ⟨hblt, hglt⟩ := h.lt
  obtain ⟨hlw, hlin⟩ := let_in r W H h.wide h.high
  have HWIN := run.hid (fun w (h : Buf w b g W H L) => window_any b g W H L r w h hr)
  change Hid (∀ w, _ → Calls _ _ _ _ fun e w' => e = .returned (letIn r W H).val ∧ _) at HWIN
  have hfx : -1099511627776 ≤ farX x ∧ farX x ≤ 1099511627776 := by unfold farX; omega
  have hfe : min (max x (-1099511627776)) 1099511627776 = farX x := rfl
  have HWH := run.hid (fun w hR => whole_any a cap R w hR hcap hN hL)
  have HPT := run.hid (show ∃ f, R.length ≤ 0 + f ∧ pasteT W (letIn r W H) y (farX x) R L = pasteF W (letIn r W H) y (farX x) R f 0 L from ⟨R.length, by omega, rfl⟩)
  generalize pasteT W (letIn r W H) y (farX x) R L = FT at *
  generalize farX x = xx at *
  generalize letIn r W H = lt at *
  have HUN : Hid (∀ m wa, Pst w b g W H w.heap.size m xx y a cap #[.int .i64 lt.x, .int .i64 lt.y, .int .i64 lt.w, .int .i64 lt.h] R L wa → wholeT R = true → Calls Try.prog 47 #[.slice a R.length cap, .func (.func 67) #[] #[.pointer (some ⟨w.heap.size, 0, none⟩), .pointer (some ⟨w.heap.size + 1, 0, none⟩), .pointer (some ⟨w.heap.size + 2, 0, none⟩), .pointer (some ⟨w.heap.size + 3, 0, none⟩), .pointer (some ⟨m, 0, none⟩)]] wa fun e w' => e = .returned (.tuple #[]) ∧ Buf w' b g W H FT ∧ Good W H FT ∧ w.grownBy w' (some g)) := by
    intro m wa hP hw
    refine (units_paste a cap R _ _ _ _ _ wa (fun i X => ∃ G, Pst w b g W H w.heap.size m xx y a cap #[.int .i64 lt.x, .int .i64 lt.y, .int .i64 lt.w, .int .i64 lt.h] R G X ∧ wholeT (R.drop i) = true ∧ ∃ f, R.length ≤ i + f ∧ FT = pasteF W lt y xx R f i G) hcap hN hL
      ⟨L, hP, hw, HPT.out⟩ (fun i X h => h.choose_spec.1.row) (fun i X Y h hb => by obtain ⟨G, h1, h2⟩ := h; exact ⟨G, h1.below hb, h2⟩) (fun i X hi h => ?_)).mono fun e w' he => ?_
    · obtain ⟨G, h1, h2, h3⟩ := h
      rw [wholeT_step hi, Bool.and_eq_true, decide_eq_true_eq] at h2
      exact (pasteStep_any w b g W H w.heap.size m xx y a cap lt R G i _ X h1 hi (unit_wide hi h2.1) hN hfx hlw hlin).mono fun e Y he => ⟨he.1, _, he.2, h2.2, pasteF_step hi h3⟩
    · obtain ⟨he, G, h1, -, h3⟩ := he
      obtain rfl := pasteF_end h3
      exact ⟨he, h1.buf, h1.good, h1.grown⟩
  obtain ⟨r1, r2, r3, r4⟩ := r
  obtain ⟨l1, l2, l3, l4⟩ := lt
  dsimp only at HUN
  change Hid (∀ w, _ → Calls _ _ #[_, .agg #[.int .i64 r1, .int .i64 r2, .int .i64 r3, .int .i64 r4]] _ fun e w' => e = .returned (.agg #[.int .i64 l1, .int .i64 l2, .int .i64 l3, .int .i64 l4]) ∧ _) at HWIN
  show Calls _ _ #[_, _, _, _, .agg #[.int .i64 r1, .int .i64 r2, .int .i64 r3, .int .i64 r4]] _ _
  have hA := alloc5 w (.cells #[.pointer (some ⟨b, 0, none⟩)] 27) (.cells #[.int .i64 x] 3) (.cells #[.int .i64 y] 3) (.cells #[.slice a R.length cap] 35) (.cells #[.int .i64 r1, .int .i64 r2, .int .i64 r3, .int .i64 r4] 58)
  have HW0 := run.hid (HWH.out _ (hR.below hA.2.2.2.2.2.2))
  have HA := run.hid hA
  have HBG := run.hid (And.intro h (And.intro hG hR))
  have HFR := run.hid hfar
  have c3 := blk_cell hA.2.2.2.1 0
  have c0 := blk_cell hA.1 0
  change World.cell? _ _ = some (.slice a R.length cap) at c3
  change World.cell? _ _ = some (.pointer (some ⟨b, 0, none⟩)) at c0
  clear hA h hG hR hfar HWH hlin HPT hlw hL
  cases hw : wholeT R with
  | false =>
    rw [hw] at HW0
    clear hw HUN HWIN
    go_enter Try.func42, Try.ntmps42
    go_wp2_with fail
    refine HW0.out.mono ?_
    rintro e w6 ⟨rfl, hb⟩
    clear c0 c3 HW0
    have hB := HA.out.2.2.2.2.2.2.trans (hb.mono HA.out.2.2.2.2.2.2.size)
    clear hb
    go_wp2
    go_ret
    exact ⟨rfl, HBG.out.1.below hB, HBG.out.2.1, grown_below hB g⟩
  | true =>
    rw [hw] at HW0
    replace HUN := run.hid (fun m wa hP => HUN.out m wa hP hw)
    clear hw
    go_enter Try.func42, Try.ntmps42
    go_wp2_with fail
    refine HW0.out.mono ?_
    rintro e w6 ⟨rfl, hb⟩
    clear c0 c3 HW0
    obtain ⟨a0, a1, a2, a3, a4, asz, hB5⟩ := HA.out
    have b0 := (hb.block _ (Array.getElem?_eq_some_iff.1 a0).1).trans a0
    have b1 := (hb.block _ (Array.getElem?_eq_some_iff.1 a1).1).trans a1
    have b2 := (hb.block _ (Array.getElem?_eq_some_iff.1 a2).1).trans a2
    have b3 := (hb.block _ (Array.getElem?_eq_some_iff.1 a3).1).trans a3
    have b4 := (hb.block _ (Array.getElem?_eq_some_iff.1 a4).1).trans a4
    have hB6 := hB5.trans (hb.mono hB5.size)
    have HC := run.hid (HWIN.out w6 (HBG.out.1.below hB6))
    have c0 := blk_cell b0 0
    change World.cell? _ _ = some (.pointer (some ⟨b, 0, none⟩)) at c0
    obtain ⟨⟨q0, q1, q2, q3⟩, -⟩ := blk4 b4
    have KK := run.hid (And.intro b0 (And.intro b1 (And.intro b2 (And.intro b3 hB6))))
    clear a0 a1 a2 a3 a4 asz hB5 b0 b1 b2 b3 b4 hb HA HWIN hB6
    go_wp2_with fail
    refine HC.out.mono ?_
    rintro e w7 ⟨rfl, hb7⟩
    clear c0 q0 q1 q2 q3 HC
    obtain ⟨b0, b1, b2, b3, hB6⟩ := KK.out
    have hs6 : w.heap.size + 3 < w6.heap.size := (Array.getElem?_eq_some_iff.1 b3).1
    have hs7 := hb7.size
    have hBa : Below w6.heap.size w6 (w7.alloc (.cells #[.int .i64 l1, .int .i64 l2, .int .i64 l3, .int .i64 l4] 58)) := hb7.alloc hs7 _
    have e0 := (hBa.block _ (show w.heap.size < w6.heap.size by omega)).trans b0
    have e1 := (hBa.block _ (show w.heap.size + 1 < w6.heap.size by omega)).trans b1
    have e2 := (hBa.block _ (show w.heap.size + 2 < w6.heap.size by omega)).trans b2
    have e3 := (hBa.block _ (show w.heap.size + 3 < w6.heap.size by omega)).trans b3
    have e4 := heap_alloc_new w7 (.cells #[.int .i64 l1, .int .i64 l2, .int .i64 l3, .int .i64 l4] 58)
    have hB7 := hB6.trans (hBa.mono hB6.size)
    have hB8 : Below w.heap.size w ((w7.alloc (.cells #[.int .i64 l1, .int .i64 l2, .int .i64 l3, .int .i64 l4] 58)).setCell ⟨w.heap.size + 1, 0, none⟩ (.int .i64 xx)) := hB7.setCell (p := ⟨w.heap.size + 1, 0, none⟩) (by simp) _
    have HP : Hid (Pst w b g W H w.heap.size w7.heap.size xx y a cap #[.int .i64 l1, .int .i64 l2, .int .i64 l3, .int .i64 l4] R L ((w7.alloc (.cells #[.int .i64 l1, .int .i64 l2, .int .i64 l3, .int .i64 l4] 58)).setCell ⟨w.heap.size + 1, 0, none⟩ (.int .i64 xx))) :=
      ⟨HBG.out.1.below hB8, HBG.out.2.1, (blk_other _ (by simp)).trans e0, blk_set e1, (blk_other _ (by simp)).trans e2, (blk_other _ (by simp)).trans e3, (blk_other _ (by simp; omega)).trans e4, HBG.out.2.2.below hB8, HFR.out, grown_below hB8 g, hglt, Nat.le_refl _, by omega⟩
    have d1 := blk_cell e1 0
    change World.cell? _ _ = some (.int .i64 x) at d1
    have f1 := blk_free e1 0
    clear KK b0 b1 b2 b3 e0 e1 e2 e3 e4 hB6 hB7 hB8 hBa hb7
    go_upto_region 7 with fail
    clear d1 f1
    have HU := run.hid (HUN.out _ _ HP.out)
    have c3 := blk_cell HP.out.k3 0
    change World.cell? _ _ = some (.slice a R.length cap) at c3
    clear HUN HP
    generalize ((w7.alloc (.cells #[.int .i64 l1, .int .i64 l2, .int .i64 l3, .int .i64 l4] 58)).setCell ⟨w.heap.size + 1, 0, none⟩ (.int .i64 xx)) = w8 at *
    go_wp2_with fail
    refine HU.out.mono ?_
    rintro e w9 ⟨rfl, hbf, hgf, hg9⟩
    have HF := run.hid (And.intro hbf (And.intro hgf hg9))
    clear hbf hgf hg9 HU c3
    go_wp2
    go_ret
    exact ⟨rfl, HF.out⟩
end Go.Proofs.Ytinnggiohalifaa.cel
