/-
  The walk of the layer cells: a cell written, the pair that stood there broken.
-/
import Derived.Test.YtinnggiohalifaaCelBuf
namespace Go.Proofs.Ytinnggiohalifaa.cel
open Go Go.RowKit Go.Proofs
set_option linter.unusedVariables false

theorem drew_grown (w : World) (r : Option Nat) : w.grownBy w.drew r := ⟨rfl, rfl, rfl, Nat.le_refl _, fun _ _ _ => rfl⟩
theorem grown_below {w w' : World} (h : Below w.heap.size w w') (g : Nat) : w.grownBy w' (some g) := by
  obtain ⟨h1, h2, h3, h4, h5⟩ := h
  exact ⟨h1, h2, h3, h4, fun k hk _ => h5 k hk⟩
/-- two cells, as far as they have been written -/
def two (L : List CV) (h : Nat) (x : CV) (p q : Bool) : List CV := if q then (if p then L.set h x else L).set (h + 1) x else (if p then L.set h x else L)
theorem two_one {w : World} {b g W H h : Nat} {L : List CV} {x : CV} {q : Bool} (hb : Buf w b g W H ((two L h x false q).set h x)) : Buf w b g W H (two L h x true q) := by
  cases q with
  | false => exact hb
  | true =>
    unfold two at *
    simp only [if_true] at *
    have : (L.set (h + 1) x).set h x = (L.set h x).set (h + 1) x := List.set_comm _ _ (by omega)
    rw [← this]
    exact hb
theorem two_two {w : World} {b g W H h : Nat} {L : List CV} {x : CV} {p : Bool} (hb : Buf w b g W H ((two L h x p false).set (h + 1) x)) : Buf w b g W H (two L h x p true) := hb

set_option maxRecDepth 100000 in
set_option maxHeartbeats 8000000 in
theorem set_any (b g W H : Nat) (L : List CV) (i : Nat) (c : CV) (w : World) (h : Buf w b g W H L) (hi : i < W * H) (hz : wd L i = 0 → 0 < i) (ht : wd L i = 2 → i + 1 < W * H) :
    Calls Try.prog 82 #[.pointer (some ⟨b, 0, none⟩), .int .i64 i, c.val] w fun e w' => e = .returned (.tuple #[]) ∧ Buf w' b g W H (setT L i c) ∧ w.grownBy w' (some g) := by
  obtain ⟨it, hinf, -, hsz, -⟩ := info_parts info_cell
  obtain ⟨ct, cw, cf, cb, ca⟩ := c
  have hsize := h.size
  have hlen := h.len
  obtain ⟨hblt, hglt⟩ := h.lt
  have hne : w.heap.size ≠ g := by omega
  have hbne : ¬ b = w.heap.size := by omega
  have hgne : ¬ g = w.heap.size := by omega
  have HBF := run.hid (h.alloc (.cells #[.string ct, .int .i8 cw, .int .i32 cf, .int .i32 cb, .int .u8 ca] 44))
  have HKC := run.hid (heap_alloc_new w (.cells #[.string ct, .int .i8 cw, .int .i32 cf, .int .i32 cb, .int .u8 ca] 44))
  have HG := run.hid (World.grownBy_alloc w (.cells #[.string ct, .int .i8 cw, .int .i32 cf, .int .i32 cb, .int .u8 ca] 44) (some g))
  have HT := run.hid (show setT L i ⟨ct, cw, ⟨cf, cb, ca⟩⟩ = (brokenT L i).set i ⟨ct, cw, ⟨cf, cb, ca⟩⟩ from rfl)
  have p2 := h.h2
  obtain ⟨-, c1, -⟩ := h.grid.at (k := i) (by rw [hlen]; exact hi)
  have hwi : wd L i = (L.getD i z0).wide := rfl
  show Calls _ _ #[_, _, .agg #[.string ct, .int .i8 cw, .int .i32 cf, .int .i32 cb, .int .u8 ca]] _ _
  rw [← hwi] at c1
  by_cases k2 : wd L i = 2
  · have hi2 := ht k2
    replace HT : Hid (setT L i ⟨ct, cw, ⟨cf, cb, ca⟩⟩ = (two L i (blankT (L.getD i z0).sty) true true).set i ⟨ct, cw, ⟨cf, cb, ca⟩⟩) := by
      show _ = _
      rw [HT.out]; unfold brokenT headOf
      rw [if_pos (.inr k2), if_neg (by rw [← hwi, k2]; decide)]
      rfl
    rw [k2] at c1
    generalize setT L i ⟨ct, cw, ⟨cf, cb, ca⟩⟩ = LT at *
    clear hz ht hwi k2
    go_enter Try.func82, Try.ntmps82
    have HBL := run.hid (fun w => blank_any (L.getD i z0).sty w)
    obtain ⟨x, hx⟩ : ∃ x, x = blankT (L.getD i z0).sty := ⟨_, rfl⟩
    rw [← hx] at HBL HT
    obtain ⟨q0, q1, q2, q3, q4⟩ := (h.alloc (.cells #[.string ct, .int .i8 cw, .int .i32 cf, .int .i32 cb, .int .u8 ca] 44)).grid.at (k := i) (by rw [hlen]; omega)
    have e0 : (L.getD i z0).sty.val = .agg #[.int .i32 (L.getD i z0).sty.fg, .int .i32 (L.getD i z0).sty.bg, .int .u8 (L.getD i z0).sty.att] := rfl
    rw [e0] at HBL
    clear e0 hx q0 q1 h
    generalize (L.getD i z0).sty.fg = sf at *
    generalize (L.getD i z0).sty.bg = sb at *
    generalize (L.getD i z0).sty.att = sa at *
    obtain ⟨xt, xw, xf, xb, xa⟩ := x
    change Hid (∀ w, Calls _ _ _ _ fun e w' => e = .returned (.agg #[.string xt, .int .i8 xw, .int .i32 xf, .int .i32 xb, .int .u8 xa]) ∧ _) at HBL
    go_wp2_with fail
    refine (HBL.out _).mono ?_
    rintro e w2 ⟨rfl, hb2⟩
    have HB3 := run.hid ((HBF.out.below hb2).alloc (.cells #[.string xt, .int .i8 xw, .int .i32 xf, .int .i32 xb, .int .u8 xa] 44))
    have s2 := hb2.size
    simp only [World.size_alloc] at s2
    have HK3 := run.hid ((blk_old (.cells #[.string xt, .int .i8 xw, .int .i32 xf, .int .i32 xb, .int .u8 xa] 44) (by omega)).trans ((hb2.block w.heap.size (by simp)).trans HKC.out))
    have HX3 := run.hid (heap_alloc_new w2 (.cells #[.string xt, .int .i8 xw, .int .i32 xf, .int .i32 xb, .int .u8 xa] 44))
    have hne2 : w2.heap.size ≠ g := by omega
    have HG3 := run.hid (run.grown_trans HG.out (run.grown_trans (grown_below hb2 g) (World.grownBy_alloc w2 (.cells #[.string xt, .int .i8 xw, .int .i32 xf, .int .i32 xb, .int .u8 xa] 44) (some g)) (.inl rfl)) (.inl rfl))
    clear q2 q3 q4 HBF HKC HG hb2 HBL c1
    go_upto_region 7 with fail
    generalize w2.alloc (.cells #[.string xt, .int .i8 xw, .int .i32 xf, .int .i32 xb, .int .u8 xa] 44) = w3 at *
    generalize w2.heap.size = nx at *
    go_cut [6] (fun c wx => c = .int .i64 (i : Nat) ∧ Buf wx b g W H (two L i ⟨xt, xw, ⟨xf, xb, xa⟩⟩ true true) ∧ wx.heap[w.heap.size]? = some (.cells #[.string ct, .int .i8 cw, .int .i32 cf, .int .i32 cb, .int .u8 ca] 44 (0, 0)) ∧ w3.grownBy wx (some g))
    case first =>
      refine lx.region (fun D W' => Buf W' b g W H (two L i ⟨xt, xw, ⟨xf, xb, xa⟩⟩ (D 14) (D 16)) ∧ W'.heap[w.heap.size]? = some (.cells #[.string ct, .int .i8 cw, .int .i32 cf, .int .i32 cb, .int .u8 ca] 44 (0, 0)) ∧ W'.heap[nx]? = some (.cells #[.string xt, .int .i8 xw, .int .i32 xf, .int .i32 xb, .int .u8 xa] 44 (0, 0)) ∧ w3.grownBy W' (some g)) (by kernel_rfl) (by kernel_rfl) (by kernel_rfl) ⟨HB3.out.below (drewB (Below.refl _ _)), HK3.out, HX3.out, drew_grown _ _⟩ ?_
      refine lx.begin 54 rfl ?_
      refine lx.o_pure (.pointer (some ⟨b, 0, none⟩)) (fun _ _ h => by first | rfl | kernel_rfl) ?_
      refine lx.o_pure (.pointer (some ⟨b, 0, none⟩)) (fun _ _ h => by first | rfl | kernel_rfl) ?_
      refine lx.o_pure (.pointer (some ⟨b, 2, none⟩)) (fun _ _ h => by first | rfl | kernel_rfl) ?_
      refine lx.o_pure (.slice (some ⟨g, 0, none⟩) (W * H : Nat) (W * H : Nat)) (fun D W' hC => lx.run_load rfl rfl Try.underlying35 rfl hC.1.h2) ?_
      refine lx.o_pure (.int .i64 (i : Nat)) (fun _ _ h => by first | rfl | kernel_rfl) ?_
      refine lx.o_pure (.pointer (some ⟨b, 0, none⟩)) (fun _ _ h => by first | rfl | kernel_rfl) ?_
      refine lx.o_pure (.pointer (some ⟨b, 0, none⟩)) (fun _ _ h => by first | rfl | kernel_rfl) ?_
      refine lx.o_pure (.pointer (some ⟨b, 2, none⟩)) (fun _ _ h => by first | rfl | kernel_rfl) ?_
      refine lx.o_pure (.slice (some ⟨g, 0, none⟩) (W * H : Nat) (W * H : Nat)) (fun D W' hC => lx.run_load rfl rfl Try.underlying35 rfl hC.1.h2) ?_
      refine lx.o_pure (.int .i64 (i : Nat)) (fun _ _ h => by first | rfl | kernel_rfl) ?_
      refine lx.o_pure (.int .i64 ((i + 1 : Nat) : Int)) (fun _ _ _ => lx.run_add rfl rfl rfl (by omega) (by push_cast; omega)) ?_
      refine lx.o_pure (CV.val ⟨xt, xw, ⟨xf, xb, xa⟩⟩) (fun D W' hC => run_loadrow rfl rfl hC.2.2.1 Try.underlying44 rfl (by kernel_rfl)) ?_
      refine lx.o_pure (CV.val ⟨xt, xw, ⟨xf, xb, xa⟩⟩) (fun D W' hC => run_loadrow rfl rfl hC.2.2.1 Try.underlying44 rfl (by kernel_rfl)) ?_
      refine lx.o_pure (.pointer (some ⟨g, i * 5, none⟩)) (fun D W' hC => run_at5 rfl rfl rfl (by omega) Try.underlying35 hinf hsz) ?_
      refine lx.o_put (fun D W' h0 hdep hC => ?_) ?_
      · obtain ⟨hb, hk, hkx, hg⟩ := hC
        have h0' : D 14 = false := h0
        rw [h0'] at hb
        exact ⟨_, run_store5 hb (k := i) (by omega) rfl rfl rfl, two_one (hb.store (by omega) _), (setC_other_block hne).trans hk, (setC_other_block hne2).trans hkx, run.grown_trans hg (setC_grown _ _ _ _) (.inl rfl)⟩
      refine lx.o_pure (.pointer (some ⟨g, (i + 1) * 5, none⟩)) (fun D W' hC => run_at5 rfl rfl rfl (by omega) Try.underlying35 hinf hsz) ?_
      refine lx.o_put (fun D W' h0 hdep hC => ?_) ?_
      · obtain ⟨hb, hk, hkx, hg⟩ := hC
        have h0' : D 16 = false := h0
        rw [h0'] at hb
        exact ⟨_, run_store5 hb (k := i + 1) (by omega) rfl rfl rfl, two_two (hb.store (by omega) _), (setC_other_block hne).trans hk, (setC_other_block hne2).trans hkx, run.grown_trans hg (setC_grown _ _ _ _) (.inl rfl)⟩
      refine lx.o_end ?_
      simp only [lx.ov]
      rintro W7 d hd ⟨hb7, hk7, -, hg7⟩
      rw [hd 14 (by decide), hd 16 (by decide)] at hb7
      have HB7 := run.hid hb7
      have HK7 := run.hid hk7
      have HG7 := run.hid hg7
      clear hb7 hk7 hg7 hd HB3 HK3 HX3
      go_simp
      go_wp2
      go_meet
      case rel => exact ⟨rfl, HB7.out, HK7.out, HG7.out⟩
    obtain ⟨rfl, hb7, hk7, hg7⟩ := hcut
    have HBF := run.hid hb7
    have HKC := run.hid hk7
    have HG := run.hid (run.grown_trans HG3.out hg7 (.inl rfl))
    clear hb7 hk7 hg7 HB3 HK3 HX3 HG3
    generalize wc = W7 at *
    go_upto_region 8 with fail
    refine lx.region (fun D W' => ∃ L', Buf W' b g W H L' ∧ W'.heap[w.heap.size]? = some (.cells #[.string ct, .int .i8 cw, .int .i32 cf, .int .i32 cb, .int .u8 ca] 44 (0, 0)) ∧ (W7).grownBy W' (some g) ∧ (D 7 = false → L' = two L i ⟨xt, xw, ⟨xf, xb, xa⟩⟩ true true) ∧ (D 7 = true → L' = (two L i ⟨xt, xw, ⟨xf, xb, xa⟩⟩ true true).set i ⟨ct, cw, ⟨cf, cb, ca⟩⟩)) (by kernel_rfl) (by kernel_rfl) (by kernel_rfl) ⟨_, HBF.out.below (drewB (Below.refl _ _)), HKC.out, drew_grown _ _, fun _ => rfl, fun h => by cases h⟩ ?_
    refine lx.begin 54 rfl ?_
    refine lx.o_pure (.pointer (some ⟨b, 0, none⟩)) (fun _ _ h => by first | rfl | kernel_rfl) ?_
    refine lx.o_pure (.pointer (some ⟨b, 0, none⟩)) (fun _ _ h => by first | rfl | kernel_rfl) ?_
    refine lx.o_pure (.pointer (some ⟨b, 2, none⟩)) (fun _ _ h => by first | rfl | kernel_rfl) ?_
    refine lx.o_pure (.slice (some ⟨g, 0, none⟩) (W * H : Nat) (W * H : Nat)) (fun D W' hC => lx.run_load rfl rfl Try.underlying35 rfl hC.choose_spec.1.h2) ?_
    refine lx.o_pure (.int .i64 (i : Nat)) (fun _ _ h => by first | rfl | kernel_rfl) ?_
    refine lx.o_pure (CV.val ⟨ct, cw, ⟨cf, cb, ca⟩⟩) (fun D W' hC => run_loadrow rfl rfl hC.choose_spec.2.1 Try.underlying44 rfl (by kernel_rfl)) ?_
    refine lx.o_pure (.pointer (some ⟨g, i * 5, none⟩)) (fun D W' hC => run_at5 rfl rfl rfl hi Try.underlying35 hinf hsz) ?_
    refine lx.o_put (fun D W' h0 hdep hC => ?_) ?_
    · obtain ⟨L', hb, hk, hg, h1, h2⟩ := hC
      have h0' : D 7 = false := h0
      obtain rfl := h1 h0'
      exact ⟨_, run_store5 hb hi rfl rfl rfl, _, hb.store hi _, (setC_other_block hne).trans hk, run.grown_trans hg (setC_grown _ _ _ _) (.inl rfl), (fun h => by cases h), fun _ => rfl⟩
    refine lx.o_end ?_
    simp only [lx.ov]
    rintro W' d hd ⟨L', hb, -, hg, -, h2⟩
    obtain rfl := h2 (hd 7 (by decide))
    have HF := run.hid hb
    have HGF := run.hid (run.grown_trans HG.out hg (.inl rfl))
    clear hb hg h2 hd HBF HKC HG
    go_wp2
    go_end0
    exact ⟨rfl, by rw [HT.out]; exact HF.out, HGF.out⟩
  · by_cases k0 : wd L i = 0
    · obtain ⟨j, rfl⟩ : ∃ j, i = j + 1 := ⟨i - 1, by have := hz k0; omega⟩
      replace HT : Hid (setT L (j + 1) ⟨ct, cw, ⟨cf, cb, ca⟩⟩ = (two L j (blankT (L.getD j z0).sty) true true).set (j + 1) ⟨ct, cw, ⟨cf, cb, ca⟩⟩) := by
        show _ = _
        rw [HT.out]; unfold brokenT headOf
        rw [if_pos (.inl k0), if_pos (hwi.symm.trans k0), Nat.add_sub_cancel]
        rfl
      rw [k0] at c1
      generalize setT L (j + 1) ⟨ct, cw, ⟨cf, cb, ca⟩⟩ = LT at *
      clear hz ht hwi k2 k0
      go_enter Try.func82, Try.ntmps82
      have HBL := run.hid (fun w => blank_any (L.getD j z0).sty w)
      obtain ⟨x, hx⟩ : ∃ x, x = blankT (L.getD j z0).sty := ⟨_, rfl⟩
      rw [← hx] at HBL HT
      obtain ⟨q0, q1, q2, q3, q4⟩ := (h.alloc (.cells #[.string ct, .int .i8 cw, .int .i32 cf, .int .i32 cb, .int .u8 ca] 44)).grid.at (k := j) (by rw [hlen]; omega)
      have e0 : (L.getD j z0).sty.val = .agg #[.int .i32 (L.getD j z0).sty.fg, .int .i32 (L.getD j z0).sty.bg, .int .u8 (L.getD j z0).sty.att] := rfl
      rw [e0] at HBL
      clear e0 hx q0 q1 h
      generalize (L.getD j z0).sty.fg = sf at *
      generalize (L.getD j z0).sty.bg = sb at *
      generalize (L.getD j z0).sty.att = sa at *
      obtain ⟨xt, xw, xf, xb, xa⟩ := x
      change Hid (∀ w, Calls _ _ _ _ fun e w' => e = .returned (.agg #[.string xt, .int .i8 xw, .int .i32 xf, .int .i32 xb, .int .u8 xa]) ∧ _) at HBL
      go_wp2_with fail
      refine (HBL.out _).mono ?_
      rintro e w2 ⟨rfl, hb2⟩
      have HB3 := run.hid ((HBF.out.below hb2).alloc (.cells #[.string xt, .int .i8 xw, .int .i32 xf, .int .i32 xb, .int .u8 xa] 44))
      have s2 := hb2.size
      simp only [World.size_alloc] at s2
      have HK3 := run.hid ((blk_old (.cells #[.string xt, .int .i8 xw, .int .i32 xf, .int .i32 xb, .int .u8 xa] 44) (by omega)).trans ((hb2.block w.heap.size (by simp)).trans HKC.out))
      have HX3 := run.hid (heap_alloc_new w2 (.cells #[.string xt, .int .i8 xw, .int .i32 xf, .int .i32 xb, .int .u8 xa] 44))
      have hne2 : w2.heap.size ≠ g := by omega
      have HG3 := run.hid (run.grown_trans HG.out (run.grown_trans (grown_below hb2 g) (World.grownBy_alloc w2 (.cells #[.string xt, .int .i8 xw, .int .i32 xf, .int .i32 xb, .int .u8 xa] 44) (some g)) (.inl rfl)) (.inl rfl))
      clear q2 q3 q4 HBF HKC HG hb2 HBL c1
      go_upto_region 7 with fail
      generalize w2.alloc (.cells #[.string xt, .int .i8 xw, .int .i32 xf, .int .i32 xb, .int .u8 xa] 44) = w3 at *
      generalize w2.heap.size = nx at *
      go_cut [6] (fun c wx => c = .int .i64 (j : Nat) ∧ Buf wx b g W H (two L j ⟨xt, xw, ⟨xf, xb, xa⟩⟩ true true) ∧ wx.heap[w.heap.size]? = some (.cells #[.string ct, .int .i8 cw, .int .i32 cf, .int .i32 cb, .int .u8 ca] 44 (0, 0)) ∧ w3.grownBy wx (some g))
      case first =>
        refine lx.region (fun D W' => Buf W' b g W H (two L j ⟨xt, xw, ⟨xf, xb, xa⟩⟩ (D 14) (D 16)) ∧ W'.heap[w.heap.size]? = some (.cells #[.string ct, .int .i8 cw, .int .i32 cf, .int .i32 cb, .int .u8 ca] 44 (0, 0)) ∧ W'.heap[nx]? = some (.cells #[.string xt, .int .i8 xw, .int .i32 xf, .int .i32 xb, .int .u8 xa] 44 (0, 0)) ∧ w3.grownBy W' (some g)) (by kernel_rfl) (by kernel_rfl) (by kernel_rfl) ⟨HB3.out.below (drewB (Below.refl _ _)), HK3.out, HX3.out, drew_grown _ _⟩ ?_
        refine lx.begin 54 rfl ?_
        refine lx.o_pure (.pointer (some ⟨b, 0, none⟩)) (fun _ _ h => by first | rfl | kernel_rfl) ?_
        refine lx.o_pure (.pointer (some ⟨b, 0, none⟩)) (fun _ _ h => by first | rfl | kernel_rfl) ?_
        refine lx.o_pure (.pointer (some ⟨b, 2, none⟩)) (fun _ _ h => by first | rfl | kernel_rfl) ?_
        refine lx.o_pure (.slice (some ⟨g, 0, none⟩) (W * H : Nat) (W * H : Nat)) (fun D W' hC => lx.run_load rfl rfl Try.underlying35 rfl hC.1.h2) ?_
        refine lx.o_pure (.int .i64 (j : Nat)) (fun _ _ h => by first | rfl | kernel_rfl) ?_
        refine lx.o_pure (.pointer (some ⟨b, 0, none⟩)) (fun _ _ h => by first | rfl | kernel_rfl) ?_
        refine lx.o_pure (.pointer (some ⟨b, 0, none⟩)) (fun _ _ h => by first | rfl | kernel_rfl) ?_
        refine lx.o_pure (.pointer (some ⟨b, 2, none⟩)) (fun _ _ h => by first | rfl | kernel_rfl) ?_
        refine lx.o_pure (.slice (some ⟨g, 0, none⟩) (W * H : Nat) (W * H : Nat)) (fun D W' hC => lx.run_load rfl rfl Try.underlying35 rfl hC.1.h2) ?_
        refine lx.o_pure (.int .i64 (j : Nat)) (fun _ _ h => by first | rfl | kernel_rfl) ?_
        refine lx.o_pure (.int .i64 ((j + 1 : Nat) : Int)) (fun _ _ _ => lx.run_add rfl rfl rfl (by omega) (by push_cast; omega)) ?_
        refine lx.o_pure (CV.val ⟨xt, xw, ⟨xf, xb, xa⟩⟩) (fun D W' hC => run_loadrow rfl rfl hC.2.2.1 Try.underlying44 rfl (by kernel_rfl)) ?_
        refine lx.o_pure (CV.val ⟨xt, xw, ⟨xf, xb, xa⟩⟩) (fun D W' hC => run_loadrow rfl rfl hC.2.2.1 Try.underlying44 rfl (by kernel_rfl)) ?_
        refine lx.o_pure (.pointer (some ⟨g, j * 5, none⟩)) (fun D W' hC => run_at5 rfl rfl rfl (by omega) Try.underlying35 hinf hsz) ?_
        refine lx.o_put (fun D W' h0 hdep hC => ?_) ?_
        · obtain ⟨hb, hk, hkx, hg⟩ := hC
          have h0' : D 14 = false := h0
          rw [h0'] at hb
          exact ⟨_, run_store5 hb (k := j) (by omega) rfl rfl rfl, two_one (hb.store (by omega) _), (setC_other_block hne).trans hk, (setC_other_block hne2).trans hkx, run.grown_trans hg (setC_grown _ _ _ _) (.inl rfl)⟩
        refine lx.o_pure (.pointer (some ⟨g, (j + 1) * 5, none⟩)) (fun D W' hC => run_at5 rfl rfl rfl (by omega) Try.underlying35 hinf hsz) ?_
        refine lx.o_put (fun D W' h0 hdep hC => ?_) ?_
        · obtain ⟨hb, hk, hkx, hg⟩ := hC
          have h0' : D 16 = false := h0
          rw [h0'] at hb
          exact ⟨_, run_store5 hb (k := j + 1) (by omega) rfl rfl rfl, two_two (hb.store (by omega) _), (setC_other_block hne).trans hk, (setC_other_block hne2).trans hkx, run.grown_trans hg (setC_grown _ _ _ _) (.inl rfl)⟩
        refine lx.o_end ?_
        simp only [lx.ov]
        rintro W7 d hd ⟨hb7, hk7, -, hg7⟩
        rw [hd 14 (by decide), hd 16 (by decide)] at hb7
        have HB7 := run.hid hb7
        have HK7 := run.hid hk7
        have HG7 := run.hid hg7
        clear hb7 hk7 hg7 hd HB3 HK3 HX3
        go_simp
        go_wp2
        go_meet
        case rel => exact ⟨rfl, HB7.out, HK7.out, HG7.out⟩
      obtain ⟨rfl, hb7, hk7, hg7⟩ := hcut
      have HBF := run.hid hb7
      have HKC := run.hid hk7
      have HG := run.hid (run.grown_trans HG3.out hg7 (.inl rfl))
      clear hb7 hk7 hg7 HB3 HK3 HX3 HG3
      generalize wc = W7 at *
      go_upto_region 8 with fail
      refine lx.region (fun D W' => ∃ L', Buf W' b g W H L' ∧ W'.heap[w.heap.size]? = some (.cells #[.string ct, .int .i8 cw, .int .i32 cf, .int .i32 cb, .int .u8 ca] 44 (0, 0)) ∧ (W7).grownBy W' (some g) ∧ (D 7 = false → L' = two L j ⟨xt, xw, ⟨xf, xb, xa⟩⟩ true true) ∧ (D 7 = true → L' = (two L j ⟨xt, xw, ⟨xf, xb, xa⟩⟩ true true).set (j + 1) ⟨ct, cw, ⟨cf, cb, ca⟩⟩)) (by kernel_rfl) (by kernel_rfl) (by kernel_rfl) ⟨_, HBF.out.below (drewB (Below.refl _ _)), HKC.out, drew_grown _ _, fun _ => rfl, fun h => by cases h⟩ ?_
      refine lx.begin 54 rfl ?_
      refine lx.o_pure (.pointer (some ⟨b, 0, none⟩)) (fun _ _ h => by first | rfl | kernel_rfl) ?_
      refine lx.o_pure (.pointer (some ⟨b, 0, none⟩)) (fun _ _ h => by first | rfl | kernel_rfl) ?_
      refine lx.o_pure (.pointer (some ⟨b, 2, none⟩)) (fun _ _ h => by first | rfl | kernel_rfl) ?_
      refine lx.o_pure (.slice (some ⟨g, 0, none⟩) (W * H : Nat) (W * H : Nat)) (fun D W' hC => lx.run_load rfl rfl Try.underlying35 rfl hC.choose_spec.1.h2) ?_
      refine lx.o_pure (.int .i64 ((j + 1 : Nat) : Int)) (fun _ _ h => by first | rfl | kernel_rfl) ?_
      refine lx.o_pure (CV.val ⟨ct, cw, ⟨cf, cb, ca⟩⟩) (fun D W' hC => run_loadrow rfl rfl hC.choose_spec.2.1 Try.underlying44 rfl (by kernel_rfl)) ?_
      refine lx.o_pure (.pointer (some ⟨g, (j + 1) * 5, none⟩)) (fun D W' hC => run_at5 rfl rfl rfl hi Try.underlying35 hinf hsz) ?_
      refine lx.o_put (fun D W' h0 hdep hC => ?_) ?_
      · obtain ⟨L', hb, hk, hg, h1, h2⟩ := hC
        have h0' : D 7 = false := h0
        obtain rfl := h1 h0'
        exact ⟨_, run_store5 hb hi rfl rfl rfl, _, hb.store hi _, (setC_other_block hne).trans hk, run.grown_trans hg (setC_grown _ _ _ _) (.inl rfl), (fun h => by cases h), fun _ => rfl⟩
      refine lx.o_end ?_
      simp only [lx.ov]
      rintro W' d hd ⟨L', hb, -, hg, -, h2⟩
      obtain rfl := h2 (hd 7 (by decide))
      have HF := run.hid hb
      have HGF := run.hid (run.grown_trans HG.out hg (.inl rfl))
      clear hb hg h2 hd HBF HKC HG
      go_wp2
      go_end0
      exact ⟨rfl, by rw [HT.out]; exact HF.out, HGF.out⟩
    · replace HT : Hid (setT L i ⟨ct, cw, ⟨cf, cb, ca⟩⟩ = L.set i ⟨ct, cw, ⟨cf, cb, ca⟩⟩) := by
        show _ = _
        rw [HT.out]; unfold brokenT
        rw [if_neg (by rw [← hwi]; omega)]
      generalize setT L i ⟨ct, cw, ⟨cf, cb, ca⟩⟩ = LT at *
      clear hz ht hwi
      generalize wd L i = wi at *
      go_enter Try.func82, Try.ntmps82
      go_upto_region 8 with fail
      refine lx.region (fun D W' => ∃ L', Buf W' b g W H L' ∧ W'.heap[w.heap.size]? = some (.cells #[.string ct, .int .i8 cw, .int .i32 cf, .int .i32 cb, .int .u8 ca] 44 (0, 0)) ∧ (w.alloc (.cells #[.string ct, .int .i8 cw, .int .i32 cf, .int .i32 cb, .int .u8 ca] 44)).grownBy W' (some g) ∧ (D 7 = false → L' = L) ∧ (D 7 = true → L' = (L).set i ⟨ct, cw, ⟨cf, cb, ca⟩⟩)) (by kernel_rfl) (by kernel_rfl) (by kernel_rfl) ⟨_, HBF.out.below (drewB (Below.refl _ _)), HKC.out, drew_grown _ _, fun _ => rfl, fun h => by cases h⟩ ?_
      refine lx.begin 54 rfl ?_
      refine lx.o_pure (.pointer (some ⟨b, 0, none⟩)) (fun _ _ h => by first | rfl | kernel_rfl) ?_
      refine lx.o_pure (.pointer (some ⟨b, 0, none⟩)) (fun _ _ h => by first | rfl | kernel_rfl) ?_
      refine lx.o_pure (.pointer (some ⟨b, 2, none⟩)) (fun _ _ h => by first | rfl | kernel_rfl) ?_
      refine lx.o_pure (.slice (some ⟨g, 0, none⟩) (W * H : Nat) (W * H : Nat)) (fun D W' hC => lx.run_load rfl rfl Try.underlying35 rfl hC.choose_spec.1.h2) ?_
      refine lx.o_pure (.int .i64 (i : Nat)) (fun _ _ h => by first | rfl | kernel_rfl) ?_
      refine lx.o_pure (CV.val ⟨ct, cw, ⟨cf, cb, ca⟩⟩) (fun D W' hC => run_loadrow rfl rfl hC.choose_spec.2.1 Try.underlying44 rfl (by kernel_rfl)) ?_
      refine lx.o_pure (.pointer (some ⟨g, i * 5, none⟩)) (fun D W' hC => run_at5 rfl rfl rfl hi Try.underlying35 hinf hsz) ?_
      refine lx.o_put (fun D W' h0 hdep hC => ?_) ?_
      · obtain ⟨L', hb, hk, hg, h1, h2⟩ := hC
        have h0' : D 7 = false := h0
        obtain rfl := h1 h0'
        exact ⟨_, run_store5 hb hi rfl rfl rfl, _, hb.store hi _, (setC_other_block hne).trans hk, run.grown_trans hg (setC_grown _ _ _ _) (.inl rfl), (fun h => by cases h), fun _ => rfl⟩
      refine lx.o_end ?_
      simp only [lx.ov]
      rintro W' d hd ⟨L', hb, -, hg, -, h2⟩
      obtain rfl := h2 (hd 7 (by decide))
      have HF := run.hid hb
      have HGF := run.hid (run.grown_trans HG.out hg (.inl rfl))
      clear hb hg h2 hd HBF HKC HG
      go_wp2
      go_end0
      exact ⟨rfl, by rw [HT.out]; exact HF.out, HGF.out⟩
end Go.Proofs.Ytinnggiohalifaa.cel
