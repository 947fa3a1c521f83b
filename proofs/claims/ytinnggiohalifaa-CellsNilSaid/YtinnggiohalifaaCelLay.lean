/-
  The walk of the layer cells: a single or a pair written, as much of it as is let in.
-/
import Derived.Test.YtinnggiohalifaaCelWin
namespace Go.Proofs.Ytinnggiohalifaa.cel
open Go Go.RowKit Go.Proofs
set_option linter.unusedVariables false

theorem good_pre {W H : Nat} {L : List CV} (h : Good W H L) {i : Nat} (hi : i < W * H) : (wd L i = 0 → 0 < i) ∧ (wd L i = 2 → i + 1 < W * H) := by
  rcases h.2 i hi with h1 | ⟨h1, h2, h3⟩ | ⟨h1, h2, h3⟩
  · exact ⟨fun h => by omega, fun h => by omega⟩
  · exact ⟨fun h => by omega, fun _ => next_lt hi h2⟩
  · refine ⟨fun _ => ?_, fun h => by omega⟩
    rcases Nat.eq_zero_or_pos i with h0 | h0
    · subst h0; simp at h2
    · exact h0
/-- where lay stands: the buffer, and what it was handed -/
structure Lay (w0 : World) (b g W H : Nat) (L : List CV) (n : Nat) (c : Array Value) (r : Array Value) (w : World) : Prop where
  buf : Buf w b g W H L
  kc : w.heap[n]? = some (.cells c 44 (0, 0))
  kr : w.heap[n + 1]? = some (.cells r 58 (0, 0))
  grown : w0.grownBy w (some g)
  ne : n ≠ g
  ne2 : n + 1 ≠ g
theorem Lay.below {w0 w w' : World} {b g W H n : Nat} {L : List CV} {c r : Array Value} (h : Lay w0 b g W H L n c r w) (hb : Below w.heap.size w w') : Lay w0 b g W H L n c r w' :=
  ⟨h.buf.below hb, (hb.block _ (Array.getElem?_eq_some_iff.1 h.kc).1).trans h.kc, (hb.block _ (Array.getElem?_eq_some_iff.1 h.kr).1).trans h.kr, run.grown_trans h.grown (grown_below hb g) (.inl rfl), h.ne, h.ne2⟩
theorem Lay.step {w0 w w' : World} {b g W H n : Nat} {L L' : List CV} {c r : Array Value} (h : Lay w0 b g W H L n c r w) (hb : Buf w' b g W H L') (hg : w.grownBy w' (some g)) : Lay w0 b g W H L' n c r w' :=
  ⟨hb, (hg.block _ (Array.getElem?_eq_some_iff.1 h.kc).1 (by simpa using h.ne)).trans h.kc, (hg.block _ (Array.getElem?_eq_some_iff.1 h.kr).1 (by simpa using h.ne2)).trans h.kr, run.grown_trans h.grown hg (.inl rfl), h.ne, h.ne2⟩
theorem Lay.drew {w0 w : World} {b g W H n : Nat} {L : List CV} {c r : Array Value} (h : Lay w0 b g W H L n c r w) : Lay w0 b g W H L n c r w.drew := h.below (drewB (Below.refl _ _))
theorem Lay.set {w0 w : World} {b g W H n : Nat} {L : List CV} {c r : Array Value} (h : Lay w0 b g W H L n c r w) (hG : Good W H L) {i : Nat} (hi : i < W * H) (x : CV) :
    Calls Try.prog 82 #[.pointer (some ⟨b, 0, none⟩), .int .i64 i, x.val] w fun e w' => e = .returned (.tuple #[]) ∧ Lay w0 b g W H (setT L i x) n c r w' :=
  (set_any b g W H L i x w h.buf hi (good_pre hG hi).1 (good_pre hG hi).2).mono fun e w' ⟨he, hb, hg⟩ => ⟨he, h.step hb hg⟩
theorem Lay.store {w0 w : World} {b g W H n : Nat} {L : List CV} {c r : Array Value} (h : Lay w0 b g W H L n c r w) {i : Nat} (hi : i < W * H) (x : CV) : Lay w0 b g W H (L.set i x) n c r (setC w g i x) := h.step (h.buf.store hi x) (setC_grown _ _ _ _)

theorem mul_is (t : TypeId) {x y z : Int} (h : x * y = z) (hb : -9223372036854775808 ≤ z ∧ z ≤ 9223372036854775807) : binOp .mul t (.int .i64 x) (.int .i64 y) = pure (.int .i64 z) := by
  have h1 : binOp .mul t (.int .i64 x) (.int .i64 y) = pure (.int .i64 (IntKind.i64.wrap (x * y))) := by rfl
  rw [h1, h, IntWalk.i64_in _ hb]
/-- a style, out of a cell -/
theorem run_load3 {o : Oper} {ρ : Operand → Value} {w : World} {p : Operand} {n : Nat} {a b c d e : Value} {t : TypeId} (ho : o.op = .load 24 p) (hx : ρ p = .pointer (some ⟨n, 2, none⟩)) (hg : w.heap[n]? = some (.cells #[a, b, c, d, e] t (0, 0))) : (execOp ρ o).run Try.prog w = .ok (.value (.agg #[c, d, e])) w := by
  obtain ⟨⟨c0, c1, c2, c3, c4⟩, -⟩ := blk5 hg
  unfold execOp
  simp only [ho, hx]
  simp [go_sem, c2, c3, c4]
theorem at_int {W : Nat} {x y : Int} (hx : 0 ≤ x) (hy : 0 ≤ y) : ((y * (W : Int) + x).toNat : Int) = y * W + x := by
  have := Int.mul_nonneg hy (show (0 : Int) ≤ W by omega)
  omega

set_option maxRecDepth 100000 in
set_option maxHeartbeats 8000000 in
theorem lay_any (b g W H : Nat) (L : List CV) (x y : Int) (c : CV) (r : RT) (w : World) (h : Buf w b g W H L) (hG : Good W H L) (hc : c.wide = 1 ∨ c.wide = 2) (hr : r.wf) (hx : -4611686018427387904 ≤ x ∧ x ≤ 4611686018427387904)
    (hin : ∀ x y, hasT r x y = true → 0 ≤ x ∧ x < W ∧ 0 ≤ y ∧ y < H) :
    Calls Try.prog 64 #[.pointer (some ⟨b, 0, none⟩), .int .i64 x, .int .i64 y, c.val, r.val] w fun e w' => e = .returned (.tuple #[]) ∧ Buf w' b g W H (layT W L x y c (hasT r x y) (hasT r (x + 1) y)) ∧ w.grownBy w' (some g) := by
  obtain ⟨it, hinf, -, hsz, -⟩ := info_parts info_cell
  have HL := run.hid (fun w => has_any r x y w hr)
  have HR := run.hid (fun w => has_any r (x + 1) y w hr)
  have hinl := hin x y
  have hinr := hin (x + 1) y
  clear hin
  obtain ⟨l, hl⟩ : ∃ l, l = hasT r x y := ⟨_, rfl⟩
  obtain ⟨rr, hrr⟩ : ∃ q, q = hasT r (x + 1) y := ⟨_, rfl⟩
  rw [← hl] at HL hinl ⊢
  rw [← hrr] at HR hinr ⊢
  clear hl hrr hr
  obtain ⟨ct, cw, cf, cb, ca⟩ := c
  obtain ⟨rx, ry, rw', rh⟩ := r
  simp only at hc
  change Hid (∀ w, Calls _ _ #[.agg #[.int .i64 rx, .int .i64 ry, .int .i64 rw', .int .i64 rh], _, _] w _) at HL
  change Hid (∀ w, Calls _ _ #[.agg #[.int .i64 rx, .int .i64 ry, .int .i64 rw', .int .i64 rh], _, _] w _) at HR
  show Calls _ _ #[_, _, _, .agg #[.string ct, .int .i8 cw, .int .i32 cf, .int .i32 cb, .int .u8 ca], .agg #[.int .i64 rx, .int .i64 ry, .int .i64 rw', .int .i64 rh]] _ _
  obtain ⟨hblt, hglt⟩ := h.lt
  have hWb := h.wide
  have hHb := h.high
  have HS0 : Hid (Lay w b g W H L w.heap.size #[.string ct, .int .i8 cw, .int .i32 cf, .int .i32 cb, .int .u8 ca] #[.int .i64 rx, .int .i64 ry, .int .i64 rw', .int .i64 rh] ((w.alloc (.cells #[.string ct, .int .i8 cw, .int .i32 cf, .int .i32 cb, .int .u8 ca] 44)).alloc (.cells #[.int .i64 rx, .int .i64 ry, .int .i64 rw', .int .i64 rh] 58))) :=
    ⟨(h.alloc _).alloc _, heap_alloc2_old w _ _, heap_alloc2_new w _ _, run.grown_trans (World.grownBy_alloc w _ (some g)) (World.grownBy_alloc _ _ (some g)) (.inl rfl), by omega, by omega⟩
  have HGood := run.hid hG
  clear h hG
  by_cases h1 : cw = 1
  · subst h1
    have HT := run.hid (show layT W L x y ⟨ct, 1, ⟨cf, cb, ca⟩⟩ l rr = if l then setT L (y * W + x).toNat ⟨ct, 1, ⟨cf, cb, ca⟩⟩ else L from if_pos rfl)
    generalize layT W L x y ⟨ct, 1, ⟨cf, cb, ca⟩⟩ l rr = LT at *
    clear HR hinr
    go_enter Try.func64, Try.ntmps64
    go_wp2_with fail
    refine (HL.out _).mono ?_
    rintro e w3 ⟨rfl, hb⟩
    have HS3 := run.hid (HS0.out.below hb)
    clear hb HS0 HL
    cases l with
    | false =>
      go_wp2
      first | go_end0 | (refine bodyPost_ret (results_none rfl _ _ _) rfl ?_)
      exact ⟨rfl, by rw [HT.out]; exact HS3.out.buf, HS3.out.grown⟩
    | true =>
      obtain ⟨a1, a2, a3, a4⟩ := hinl rfl
      obtain ⟨hm, -⟩ := at_mod (W := W) (H := H) ⟨a1, a2⟩ ⟨a3, a4⟩
      have hz := at_int (W := W) a1 a3
      have hyW : y * (W : Int) ≤ 16777216 := by
        have := Int.mul_le_mul (show y ≤ 4096 by omega) (show (W : Int) ≤ 4096 by omega) (by omega) (by omega)
        omega
      have hyW0 : 0 ≤ y * (W : Int) := Int.mul_nonneg a3 (by omega)
      obtain ⟨q, hq⟩ : ∃ q : Int, q = y * (W : Int) := ⟨_, rfl⟩
      rw [← hq] at hm hz hyW hyW0 HT
      generalize hii : (q + x).toNat = i at *
      replace HT : Hid (LT = setT L i ⟨ct, 1, ⟨cf, cb, ca⟩⟩) := HT.out
      go_upto_region 3 with fail
      refine lx.region (fun D W' => ∃ L', Lay w b g W H L' w.heap.size #[.string ct, .int .i8 1, .int .i32 cf, .int .i32 cb, .int .u8 ca] #[.int .i64 rx, .int .i64 ry, .int .i64 rw', .int .i64 rh] W' ∧ (D 10 = false → L' = L) ∧ (D 10 = true → L' = LT)) (by kernel_rfl) (by kernel_rfl) (by kernel_rfl) ⟨L, HS3.out.drew, fun _ => rfl, fun h => by cases h⟩ ?_
      refine lx.begin 84 rfl ?_
      refine lx.o_pure (.pointer (some ⟨b, 0, none⟩)) (fun _ _ h => by first | rfl | kernel_rfl) ?_
      refine lx.o_pure (.int .i64 y) (fun _ _ h => by first | rfl | kernel_rfl) ?_
      refine lx.o_pure (.pointer (some ⟨b, 0, none⟩)) (fun _ _ h => by first | rfl | kernel_rfl) ?_
      refine lx.o_pure (.pointer (some ⟨b, 0, none⟩)) (fun _ _ h => by first | rfl | kernel_rfl) ?_
      refine lx.o_pure (.pointer (some ⟨b, 0, none⟩)) (fun _ _ h => by first | rfl | kernel_rfl) ?_
      refine lx.o_pure (.int .i64 W) (fun D W' hC => lx.run_load rfl rfl Try.underlying3 rfl hC.choose_spec.1.buf.h0) ?_
      refine lx.o_pure (.int .i64 q) (fun _ _ _ => lx.run_mul rfl rfl rfl hq.symm (by omega)) ?_
      refine lx.o_pure (.int .i64 x) (fun _ _ h => by first | rfl | kernel_rfl) ?_
      refine lx.o_pure (.int .i64 (i : Nat)) (fun _ _ _ => lx.run_add rfl rfl rfl (by omega) hz.symm) ?_
      refine lx.o_pure (CV.val ⟨ct, 1, ⟨cf, cb, ca⟩⟩) (fun D W' hC => run_loadrow rfl rfl hC.choose_spec.1.kc Try.underlying44 rfl (by kernel_rfl)) ?_
      refine lx.o_callE (.tuple #[]) 82 #[.pointer (some ⟨b, 0, none⟩), .int .i64 (i : Nat), CV.val ⟨ct, 1, ⟨cf, cb, ca⟩⟩] (fun _ _ _ => lx.run_fn rfl rfl rfl (enters_of Try.func82 (by kernel_rfl) rfl)) (fun D W' h0 hC => ?_) ?_
      · obtain ⟨L', hS, h1, h2⟩ := hC
        have h0' : D 10 = false := h0
        obtain rfl := h1 h0'
        exact (hS.set HGood.out hm _).mono fun e w' ⟨he, hS'⟩ => ⟨he, _, hS', (fun h => by cases h), fun _ => HT.out.symm⟩
      refine lx.o_end ?_
      simp only [lx.ov]
      rintro W' d hd ⟨L', hS, -, h2⟩
      obtain rfl := h2 (hd 10 (by decide))
      have HF := run.hid hS
      clear hS h2 hd HS3 HT
      go_simp
      go_wp2
      first | go_end0 | (refine bodyPost_ret (results_none rfl _ _ _) rfl ?_)
      exact ⟨rfl, HF.out.buf, HF.out.grown⟩
  · have hc2 : cw = 2 := by omega
    subst hc2
    clear h1 hc
    have HT := run.hid (show layT W L x y ⟨ct, 2, ⟨cf, cb, ca⟩⟩ l rr = (if l && rr then ((if rr then setT (if l then setT L (y * W + x).toNat (blankT ⟨cf, cb, ca⟩) else L) (y * W + x + 1).toNat (blankT ⟨cf, cb, ca⟩) else (if l then setT L (y * W + x).toNat (blankT ⟨cf, cb, ca⟩) else L)).set (y * W + x).toNat ⟨ct, 2, ⟨cf, cb, ca⟩⟩).set (y * W + x + 1).toNat ⟨⟨#[]⟩, 0, ⟨cf, cb, ca⟩⟩ else (if rr then setT (if l then setT L (y * W + x).toNat (blankT ⟨cf, cb, ca⟩) else L) (y * W + x + 1).toNat (blankT ⟨cf, cb, ca⟩) else (if l then setT L (y * W + x).toNat (blankT ⟨cf, cb, ca⟩) else L))) from if_neg (show ¬ (2 : Int) = 1 by decide))
    generalize layT W L x y ⟨ct, 2, ⟨cf, cb, ca⟩⟩ l rr = LT at *
    have HBL := run.hid (fun w => blank_any ⟨cf, cb, ca⟩ w)
    have HGB : Hid (∀ M, Good W H M → ∀ i, i < W * H → Good W H (setT M i (blankT ⟨cf, cb, ca⟩))) := fun M hM i hi => (wd_setT hM hi rfl).1
    obtain ⟨bx, hbx⟩ : ∃ bx, bx = blankT ⟨cf, cb, ca⟩ := ⟨_, rfl⟩
    rw [← hbx] at HBL HT HGB
    clear hbx
    have HST : Hid (∀ M W', Lay w b g W H M w.heap.size #[.string ct, .int .i8 2, .int .i32 cf, .int .i32 cb, .int .u8 ca] #[.int .i64 rx, .int .i64 ry, .int .i64 rw', .int .i64 rh] W' → W'.heap[w.heap.size]? = some (.cells #[.string ct, .int .i8 2, .int .i32 cf, .int .i32 cb, .int .u8 ca] 44 (0, 0))) := fun M W' h => h.kc
    have HSET : Hid (∀ M W', Lay w b g W H M w.heap.size #[.string ct, .int .i8 2, .int .i32 cf, .int .i32 cb, .int .u8 ca] #[.int .i64 rx, .int .i64 ry, .int .i64 rw', .int .i64 rh] W' → Good W H M → ∀ i, i < W * H → Calls Try.prog 82 #[.pointer (some ⟨b, 0, none⟩), .int .i64 (i : Nat), bx.val] W' fun e w' => e = .returned (.tuple #[]) ∧ Lay w b g W H (setT M i bx) w.heap.size #[.string ct, .int .i8 2, .int .i32 cf, .int .i32 cb, .int .u8 ca] #[.int .i64 rx, .int .i64 ry, .int .i64 rw', .int .i64 rh] w') := fun M W' h hM i hi => h.set hM hi bx
    obtain ⟨bt, bw, bf, bb, ba⟩ := bx
    change Hid (∀ w, Calls _ _ #[.agg #[.int .i32 cf, .int .i32 cb, .int .u8 ca]] w fun e w' => e = .returned (.agg #[.string bt, .int .i8 bw, .int .i32 bf, .int .i32 bb, .int .u8 ba]) ∧ _) at HBL
    change Hid (∀ M W', Lay w b g W H M w.heap.size #[.string ct, .int .i8 2, .int .i32 cf, .int .i32 cb, .int .u8 ca] #[.int .i64 rx, .int .i64 ry, .int .i64 rw', .int .i64 rh] W' → Good W H M → ∀ i, i < W * H → Calls _ _ #[_, .int .i64 (i : Nat), .agg #[.string bt, .int .i8 bw, .int .i32 bf, .int .i32 bb, .int .u8 ba]] W' fun e w' => e = _ ∧ Lay w b g W H (setT M i ⟨bt, bw, ⟨bf, bb, ba⟩⟩) w.heap.size #[.string ct, .int .i8 2, .int .i32 cf, .int .i32 cb, .int .u8 ca] #[.int .i64 rx, .int .i64 ry, .int .i64 rw', .int .i64 rh] w') at HSET
    go_enter Try.func64, Try.ntmps64
    go_upto_region 4 with fail
    go_cut [10, 11] (fun p q wx => p = .bool l ∧ q = .bool rr ∧ Lay w b g W H L w.heap.size #[.string ct, .int .i8 2, .int .i32 cf, .int .i32 cb, .int .u8 ca] #[.int .i64 rx, .int .i64 ry, .int .i64 rw', .int .i64 rh] wx)
    case first =>
      refine lx.region (fun D W' => Lay w b g W H L w.heap.size #[.string ct, .int .i8 2, .int .i32 cf, .int .i32 cb, .int .u8 ca] #[.int .i64 rx, .int .i64 ry, .int .i64 rw', .int .i64 rh] W') (by kernel_rfl) (by kernel_rfl) (by kernel_rfl) HS0.out.drew ?_
      refine lx.begin 84 rfl ?_
      refine lx.o_pure (.agg #[.int .i64 rx, .int .i64 ry, .int .i64 rw', .int .i64 rh]) (fun D W' hC => run_loadrow rfl rfl hC.kr Try.underlying58 rfl (by kernel_rfl)) ?_
      refine lx.o_pure (.int .i64 x) (fun _ _ h => by first | rfl | kernel_rfl) ?_
      refine lx.o_pure (.int .i64 y) (fun _ _ h => by first | rfl | kernel_rfl) ?_
      refine lx.o_call (.bool l) 40 #[.agg #[.int .i64 rx, .int .i64 ry, .int .i64 rw', .int .i64 rh], .int .i64 x, .int .i64 y] (fun _ _ _ => lx.run_fn rfl rfl rfl (enters_of Try.func40 (by kernel_rfl) rfl)) (fun D W' hC => (HL.out W').mono fun e w2 ⟨he, hw⟩ => ⟨he, hC.below hw⟩) ?_
      refine lx.o_pure (.agg #[.int .i64 rx, .int .i64 ry, .int .i64 rw', .int .i64 rh]) (fun D W' hC => run_loadrow rfl rfl hC.kr Try.underlying58 rfl (by kernel_rfl)) ?_
      refine lx.o_pure (.int .i64 x) (fun _ _ h => by first | rfl | kernel_rfl) ?_
      refine lx.o_pure (.int .i64 (x + 1)) (fun _ _ _ => lx.run_add rfl rfl rfl (by omega) rfl) ?_
      refine lx.o_pure (.int .i64 y) (fun _ _ h => by first | rfl | kernel_rfl) ?_
      refine lx.o_call (.bool rr) 40 #[.agg #[.int .i64 rx, .int .i64 ry, .int .i64 rw', .int .i64 rh], .int .i64 (x + 1), .int .i64 y] (fun _ _ _ => lx.run_fn rfl rfl rfl (enters_of Try.func40 (by kernel_rfl) rfl)) (fun D W' hC => (HR.out W').mono fun e w2 ⟨he, hw⟩ => ⟨he, hC.below hw⟩) ?_
      refine lx.o_pure (.bool l) (fun _ _ h => by first | rfl | kernel_rfl) ?_
      refine lx.o_pure (.bool rr) (fun _ _ h => by first | rfl | kernel_rfl) ?_
      refine lx.o_end ?_
      simp only [lx.ov]
      rintro W' d hd hS
      have HF := run.hid hS
      clear hS hd HS0 HT
      go_simp
      go_wp2
      go_meet
      case rel => exact ⟨rfl, rfl, HF.out⟩
    obtain ⟨rfl, rfl, hS⟩ := hcut
    have HS := run.hid hS
    clear hS HL HR HS0
    generalize wc = w4 at *
    have p0 := HS.out.buf.h0
    cases l with
    | false =>
      cases rr with
      | false =>
        clear hinl hinr
        replace HT : Hid (LT = L) := HT.out
        clear HSET HBL HST
        go_wp2
        first | go_end0 | (refine bodyPost_ret (results_none rfl _ _ _) rfl ?_)
        exact ⟨rfl, by rw [HT.out]; exact HS.out.buf, HS.out.grown⟩
      | true =>
        obtain ⟨a1, a2, a3, a4⟩ := hinr rfl
        obtain ⟨hm, -⟩ := at_mod (W := W) (H := H) ⟨a1, a2⟩ ⟨a3, a4⟩
        have hz := at_int (W := W) a1 a3
        rw [← Int.add_assoc] at hm hz
        have hyW : y * (W : Int) ≤ 16777216 := by
          have := Int.mul_le_mul (show y ≤ 4096 by omega) (show (W : Int) ≤ 4096 by omega) (by omega) (by omega)
          omega
        have hyW0 : 0 ≤ y * (W : Int) := Int.mul_nonneg a3 (by omega)
        obtain ⟨q, hq⟩ : ∃ q : Int, q = y * (W : Int) := ⟨_, rfl⟩
        rw [← hq] at hm hz hyW hyW0 HT
        have hmul := mul_is 3 hq.symm (by omega)
        have hxb : -1 ≤ x ∧ x ≤ 4096 := by omega
        generalize hii : (q + x + 1).toNat = i at *
        clear hq hii a1 a2 a3 a4 hinl hinr
        replace HT : Hid (LT = setT L i ⟨bt, bw, ⟨bf, bb, ba⟩⟩) := HT.out
        obtain ⟨⟨s0, s1, s2, s3, s4⟩, -⟩ := blk5 (HST.out _ _ HS.out)
        go_wp2_with fail
        refine (HBL.out _).mono ?_
        rintro e w5 ⟨rfl, hb⟩
        have HS' := run.hid (HS.out.below hb)
        clear hb HS s0 s1 s2 s3 s4
        have HC := run.hid (HSET.out _ _ HS'.out HGood.out i hm)
        rw [hz] at HC
        go_wp2_with fail
        refine HC.out.mono ?_
        rintro e w6 ⟨rfl, hS⟩
        have HS := run.hid hS
        clear hS HS' HC
        clear HSET HBL HST
        go_wp2
        first | go_end0 | (refine bodyPost_ret (results_none rfl _ _ _) rfl ?_)
        exact ⟨rfl, by rw [HT.out]; exact HS.out.buf, HS.out.grown⟩
    | true =>
      cases rr with
      | false =>
        obtain ⟨a1, a2, a3, a4⟩ := hinl rfl
        obtain ⟨hm, hmm⟩ := at_mod (W := W) (H := H) ⟨a1, a2⟩ ⟨a3, a4⟩
        have hz := at_int (W := W) a1 a3
        have hyW : y * (W : Int) ≤ 16777216 := by
          have := Int.mul_le_mul (show y ≤ 4096 by omega) (show (W : Int) ≤ 4096 by omega) (by omega) (by omega)
          omega
        have hyW0 : 0 ≤ y * (W : Int) := Int.mul_nonneg a3 (by omega)
        obtain ⟨q, hq⟩ : ∃ q : Int, q = y * (W : Int) := ⟨_, rfl⟩
        rw [← hq] at hm hmm hz hyW hyW0 HT
        have hmul := mul_is 3 hq.symm (by omega)
        have hxb : 0 ≤ x ∧ x ≤ 4096 := by omega
        generalize hii : (q + x).toNat = i at *
        clear hq hii hmm a1 a2 a3 a4 hinl hinr
        replace HT : Hid (LT = setT L i ⟨bt, bw, ⟨bf, bb, ba⟩⟩) := HT.out
        obtain ⟨⟨s0, s1, s2, s3, s4⟩, -⟩ := blk5 (HST.out _ _ HS.out)
        go_wp2_with fail
        refine (HBL.out _).mono ?_
        rintro e w5 ⟨rfl, hb⟩
        have HS' := run.hid (HS.out.below hb)
        clear hb HS s0 s1 s2 s3 s4
        have HC := run.hid (HSET.out _ _ HS'.out HGood.out i hm)
        rw [hz] at HC
        go_wp2_with fail
        refine HC.out.mono ?_
        rintro e w6 ⟨rfl, hS⟩
        have HS := run.hid hS
        clear hS HS' HC
        clear HSET HBL HST
        go_wp2
        first | go_end0 | (refine bodyPost_ret (results_none rfl _ _ _) rfl ?_)
        exact ⟨rfl, by rw [HT.out]; exact HS.out.buf, HS.out.grown⟩
      | true =>
        obtain ⟨a1, a2, a3, a4⟩ := hinl rfl
        obtain ⟨hm, hmm⟩ := at_mod (W := W) (H := H) ⟨a1, a2⟩ ⟨a3, a4⟩
        have hz := at_int (W := W) a1 a3
        have hyW : y * (W : Int) ≤ 16777216 := by
          have := Int.mul_le_mul (show y ≤ 4096 by omega) (show (W : Int) ≤ 4096 by omega) (by omega) (by omega)
          omega
        have hyW0 : 0 ≤ y * (W : Int) := Int.mul_nonneg a3 (by omega)
        obtain ⟨b1, b2, -, -⟩ := hinr rfl
        have hn := next_lt hm (show (y * (W : Int) + x).toNat % W + 1 < W by omega)
        have h11 : (y * (W : Int) + x + 1).toNat = (y * W + x).toNat + 1 := by omega
        rw [h11] at HT
        clear h11 b1 b2
        obtain ⟨q, hq⟩ : ∃ q : Int, q = y * (W : Int) := ⟨_, rfl⟩
        rw [← hq] at hm hmm hz hyW hyW0 HT hn
        have hmul := mul_is 3 hq.symm (by omega)
        have hxb : 0 ≤ x ∧ x ≤ 4096 := by omega
        generalize hii : (q + x).toNat = i at *
        clear hq hii hmm a1 a2 a3 a4 hinl hinr
        replace HT : Hid (LT = ((setT (setT L i ⟨bt, bw, ⟨bf, bb, ba⟩⟩) (i + 1) ⟨bt, bw, ⟨bf, bb, ba⟩⟩).set i ⟨ct, 2, ⟨cf, cb, ca⟩⟩).set (i + 1) ⟨⟨#[]⟩, 0, ⟨cf, cb, ca⟩⟩) := HT.out
        obtain ⟨⟨s0, s1, s2, s3, s4⟩, -⟩ := blk5 (HST.out _ _ HS.out)
        go_wp2_with fail
        refine (HBL.out _).mono ?_
        rintro e w5 ⟨rfl, hb⟩
        have HS' := run.hid (HS.out.below hb)
        clear hb HS s0 s1 s2 s3 s4
        have HC := run.hid (HSET.out _ _ HS'.out HGood.out i hm)
        rw [hz] at HC
        go_wp2_with fail
        refine HC.out.mono ?_
        rintro e w6 ⟨rfl, hS⟩
        have HS := run.hid hS
        clear hS HS' HC
        have hz1 : ((i + 1 : Nat) : Int) = q + x + 1 := by push_cast; omega
        obtain ⟨⟨s0, s1, s2, s3, s4⟩, -⟩ := blk5 (HST.out _ _ HS.out)
        go_wp2_with fail
        refine (HBL.out _).mono ?_
        rintro e w7 ⟨rfl, hb⟩
        have HS' := run.hid (HS.out.below hb)
        clear hb HS s0 s1 s2 s3 s4
        have HC := run.hid (HSET.out _ _ HS'.out (HGB.out _ HGood.out i hm) (i + 1) hn)
        rw [hz1] at HC
        go_wp2_with fail
        refine HC.out.mono ?_
        rintro e w8 ⟨rfl, hS⟩
        have HS := run.hid hS
        clear hS HS' HC
        go_upto_region 11 with fail
        go_cut [12] (fun p wx => p = .int .i64 (q + x) ∧ Lay w b g W H ((setT (setT L i ⟨bt, bw, ⟨bf, bb, ba⟩⟩) (i + 1) ⟨bt, bw, ⟨bf, bb, ba⟩⟩).set (i) ⟨ct, 2, ⟨cf, cb, ca⟩⟩) w.heap.size #[.string ct, .int .i8 2, .int .i32 cf, .int .i32 cb, .int .u8 ca] #[.int .i64 rx, .int .i64 ry, .int .i64 rw', .int .i64 rh] wx)
        case first =>
          refine lx.region (fun D W' => ∃ L', Lay w b g W H L' w.heap.size #[.string ct, .int .i8 2, .int .i32 cf, .int .i32 cb, .int .u8 ca] #[.int .i64 rx, .int .i64 ry, .int .i64 rw', .int .i64 rh] W' ∧ (D 7 = false → L' = setT (setT L i ⟨bt, bw, ⟨bf, bb, ba⟩⟩) (i + 1) ⟨bt, bw, ⟨bf, bb, ba⟩⟩) ∧ (D 7 = true → L' = (setT (setT L i ⟨bt, bw, ⟨bf, bb, ba⟩⟩) (i + 1) ⟨bt, bw, ⟨bf, bb, ba⟩⟩).set (i) ⟨ct, 2, ⟨cf, cb, ca⟩⟩)) (by kernel_rfl) (by kernel_rfl) (by kernel_rfl) ⟨_, HS.out.drew, fun _ => rfl, fun h => by cases h⟩ ?_
          refine lx.begin 84 rfl ?_
          refine lx.o_pure (.pointer (some ⟨b, 0, none⟩)) (fun _ _ h => by first | rfl | kernel_rfl) ?_
          refine lx.o_pure (.pointer (some ⟨b, 0, none⟩)) (fun _ _ h => by first | rfl | kernel_rfl) ?_
          refine lx.o_pure (.pointer (some ⟨b, 2, none⟩)) (fun _ _ h => by first | rfl | kernel_rfl) ?_
          refine lx.o_pure (.slice (some ⟨g, 0, none⟩) (W * H : Nat) (W * H : Nat)) (fun D W' hC => lx.run_load rfl rfl Try.underlying35 rfl hC.choose_spec.1.buf.h2) ?_
          refine lx.o_pure (.int .i64 (i : Nat)) (fun _ _ _ => by rw [hz]; rfl) ?_
          refine lx.o_pure (CV.val ⟨ct, 2, ⟨cf, cb, ca⟩⟩) (fun D W' hC => run_loadrow rfl rfl hC.choose_spec.1.kc Try.underlying44 rfl (by kernel_rfl)) ?_
          refine lx.o_pure (.pointer (some ⟨g, i * 5, none⟩)) (fun D W' hC => run_at5 rfl rfl rfl hm Try.underlying35 hinf hsz) ?_
          refine lx.o_put (fun D W' h0 hdep hC => ?_) ?_
          · obtain ⟨L', hS, h1, h2⟩ := hC
            have h0' : D 7 = false := h0
            obtain rfl := h1 h0'
            exact ⟨_, run_store5 hS.buf (k := i) hm rfl rfl rfl, _, hS.store hm _, (fun h => by cases h), fun _ => rfl⟩
          refine lx.o_end ?_
          simp only [lx.ov]
          rintro W' d hd ⟨L', hS, -, h2⟩
          obtain rfl := h2 (hd 7 (by decide))
          have HF := run.hid hS
          clear hS h2 hd HS HT
          go_simp
          go_wp2
          go_meet
          case rel => exact ⟨by first | rfl | rw [hz], HF.out⟩
        obtain ⟨rfl, hS⟩ := hcut
        replace HS := run.hid hS
        clear hS
        generalize wc = w9 at *
        go_upto_region 12 with fail
        refine lx.region (fun D W' => ∃ L', Lay w b g W H L' w.heap.size #[.string ct, .int .i8 2, .int .i32 cf, .int .i32 cb, .int .u8 ca] #[.int .i64 rx, .int .i64 ry, .int .i64 rw', .int .i64 rh] W' ∧ (D 10 = false → L' = (setT (setT L i ⟨bt, bw, ⟨bf, bb, ba⟩⟩) (i + 1) ⟨bt, bw, ⟨bf, bb, ba⟩⟩).set i ⟨ct, 2, ⟨cf, cb, ca⟩⟩) ∧ (D 10 = true → L' = ((setT (setT L i ⟨bt, bw, ⟨bf, bb, ba⟩⟩) (i + 1) ⟨bt, bw, ⟨bf, bb, ba⟩⟩).set i ⟨ct, 2, ⟨cf, cb, ca⟩⟩).set (i + 1) ⟨⟨#[]⟩, 0, ⟨cf, cb, ca⟩⟩)) (by kernel_rfl) (by kernel_rfl) (by kernel_rfl) ⟨_, HS.out.drew, fun _ => rfl, fun h => by cases h⟩ ?_
        refine lx.begin 84 rfl ?_
        refine lx.o_pure (.pointer (some ⟨b, 0, none⟩)) (fun _ _ h => by first | rfl | kernel_rfl) ?_
        refine lx.o_pure (.pointer (some ⟨b, 0, none⟩)) (fun _ _ h => by first | rfl | kernel_rfl) ?_
        refine lx.o_pure (.pointer (some ⟨b, 2, none⟩)) (fun _ _ h => by first | rfl | kernel_rfl) ?_
        refine lx.o_pure (.slice (some ⟨g, 0, none⟩) (W * H : Nat) (W * H : Nat)) (fun D W' hC => lx.run_load rfl rfl Try.underlying35 rfl hC.choose_spec.1.buf.h2) ?_
        refine lx.o_pure (.int .i64 (q + x)) (fun _ _ h => by first | rfl | kernel_rfl) ?_
        refine lx.o_pure (.int .i64 ((i + 1 : Nat) : Int)) (fun _ _ _ => lx.run_add rfl rfl rfl (by omega) (by push_cast; omega)) ?_
        refine lx.o_pure (.pointer (some ⟨w.heap.size, 2, none⟩)) (fun _ _ h => by first | rfl | kernel_rfl) ?_
        refine lx.o_pure (.agg #[.int .i32 cf, .int .i32 cb, .int .u8 ca]) (fun D W' hC => run_load3 rfl rfl hC.choose_spec.1.kc) ?_
        refine lx.o_pure (CV.val ⟨⟨#[]⟩, 0, ⟨cf, cb, ca⟩⟩) (fun _ _ h => by first | rfl | kernel_rfl) ?_
        refine lx.o_pure (.pointer (some ⟨g, (i + 1) * 5, none⟩)) (fun D W' hC => run_at5 rfl rfl rfl hn Try.underlying35 hinf hsz) ?_
        refine lx.o_put (fun D W' h0 hdep hC => ?_) ?_
        · obtain ⟨L', hS, h1, h2⟩ := hC
          have h0' : D 10 = false := h0
          obtain rfl := h1 h0'
          exact ⟨_, run_store5 hS.buf (k := i + 1) hn rfl rfl rfl, _, hS.store hn _, (fun h => by cases h), fun _ => rfl⟩
        refine lx.o_end ?_
        simp only [lx.ov]
        rintro W' d hd ⟨L', hS, -, h2⟩
        obtain rfl := h2 (hd 10 (by decide))
        have HF := run.hid hS
        clear hS h2 hd HS HSET HBL HST
        go_simp
        go_wp2
        first | go_end0 | (refine bodyPost_ret (results_none rfl _ _ _) rfl ?_)
        exact ⟨rfl, by rw [HT.out]; exact HF.out.buf, HF.out.grown⟩
end Go.Proofs.Ytinnggiohalifaa.cel
