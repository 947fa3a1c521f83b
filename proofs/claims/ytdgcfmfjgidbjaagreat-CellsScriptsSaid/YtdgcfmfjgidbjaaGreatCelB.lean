/-
  The walks of the layer cells: a buffer in memory, a cell written, a single or a pair written, a buffer made.
-/
import Derived.Test.YtdgcfmfjgidbjaaGreatCelA
import Derived.Test.YtdgcfmfjgidbjaaGreatWrpRow
namespace Go.Proofs.YtdgcfmfjgidbjaaGreat.cel
open Go Go.RowKit Go.Proofs
set_option linter.unusedVariables false

/-- a buffer: at b its numbers and the row of its cells, the row in block g -/
structure Buf (w : World) (b g W H : Nat) (L : List CV) : Prop where
  h0 : w.cell? ⟨b, 0, none⟩ = some (.int .i64 W)
  h1 : w.cell? ⟨b, 1, none⟩ = some (.int .i64 H)
  h2 : w.cell? ⟨b, 2, none⟩ = some (.slice (some ⟨g, 0, none⟩) (W * H : Nat) (W * H : Nat))
  grid : Grid w g L
  blk : ∃ cs t, w.heap[g]? = some (.cells cs t (0, 0))
  len : L.length = W * H
  ne : b ≠ g
  wide : W ≤ 4096
  high : H ≤ 4096
  size : W * H ≤ 1048576
theorem Buf.lt {w : World} {b g W H : Nat} {L : List CV} (h : Buf w b g W H L) : b < w.heap.size ∧ g < w.heap.size := by
  refine ⟨run.lt_of_cell h.h0, ?_⟩
  obtain ⟨cs, t, e⟩ := h.blk
  exact (Array.getElem?_eq_some_iff.1 e).1
theorem Buf.free {w : World} {b g W H : Nat} {L : List CV} (h : Buf w b g W H L) (j : Nat) : w.frozen? ⟨g, j, none⟩ = false := by
  obtain ⟨cs, t, e⟩ := h.blk
  exact blk_free e j
theorem Buf.of_blocks {w w' : World} {b g W H : Nat} {L : List CV} (h : Buf w b g W H L) (hb : w'.heap[b]? = w.heap[b]?) (hg : w'.heap[g]? = w.heap[g]?) : Buf w' b g W H L :=
  ⟨(World.cell?_of_block (a := ⟨b, 0, none⟩) hb).trans h.h0, (World.cell?_of_block (a := ⟨b, 1, none⟩) hb).trans h.h1, (World.cell?_of_block (a := ⟨b, 2, none⟩) hb).trans h.h2, h.grid.of_block hg, by obtain ⟨cs, t, e⟩ := h.blk; exact ⟨cs, t, hg.trans e⟩, h.len, h.ne, h.wide, h.high, h.size⟩
theorem Buf.below {w w' : World} {b g W H : Nat} {L : List CV} (h : Buf w b g W H L) (hb : Below w.heap.size w w') : Buf w' b g W H L := h.of_blocks (hb.block b h.lt.1) (hb.block g h.lt.2)
theorem Buf.alloc {w : World} {b g W H : Nat} {L : List CV} (h : Buf w b g W H L) (o : Obj) : Buf (w.alloc o) b g W H L := h.below (run.below_one w o)
theorem Buf.kept {w w' : World} {b g W H k : Nat} {L : List CV} (h : Buf w b g W H L) (hg : w.grownBy w' (some k)) (hb : b ≠ k) (hgk : g ≠ k) : Buf w' b g W H L :=
  h.of_blocks (hg.block b h.lt.1 (by simpa using hb)) (hg.block g h.lt.2 (by simpa using hgk))
theorem setC_other_block {w : World} {g k n : Nat} {c : CV} (h : n ≠ g) : (setC w g k c).heap[n]? = w.heap[n]? := by
  unfold setC
  rw [blk_other _ h, blk_other _ h, blk_other _ h, blk_other _ h, blk_other _ h]
theorem Buf.store {w : World} {b g W H : Nat} {L : List CV} (h : Buf w b g W H L) {k : Nat} (hk : k < W * H) (c : CV) : Buf (setC w g k c) b g W H (L.set k c) := by
  have hb : (setC w g k c).heap[b]? = w.heap[b]? := setC_other_block h.ne
  refine ⟨(World.cell?_of_block (a := ⟨b, 0, none⟩) hb).trans h.h0, (World.cell?_of_block (a := ⟨b, 1, none⟩) hb).trans h.h1, (World.cell?_of_block (a := ⟨b, 2, none⟩) hb).trans h.h2, h.grid.set (by rw [h.len]; exact hk) c, ?_, by rw [List.length_set, h.len], h.ne, h.wide, h.high, h.size⟩
  obtain ⟨cs, t, e⟩ := h.blk
  exact ⟨_, _, blk_set (blk_set (blk_set (blk_set (blk_set e))))⟩
theorem setC_grown (w : World) (g k : Nat) (c : CV) : w.grownBy (setC w g k c) (some g) :=
  run.grown_trans (run.setCell_grown w g (k * 5) (.string c.text)) (run.grown_trans (run.setCell_grown _ g (k * 5 + 1) (.int .i8 c.wide)) (run.grown_trans (run.setCell_grown _ g (k * 5 + 2) (.int .i32 c.sty.fg)) (run.grown_trans (run.setCell_grown _ g (k * 5 + 3) (.int .i32 c.sty.bg)) (run.setCell_grown _ g (k * 5 + 4) (.int .u8 c.sty.att)) (.inl rfl)) (.inl rfl)) (.inl rfl)) (.inl rfl)

/-- one cell stored, as one step of a drawn region -/
theorem run_store5 {o : Oper} {ρ : Operand → Value} {w : World} {p q : Operand} {b g W H k : Nat} {L : List CV} {c : CV} (h : Buf w b g W H L) (hk : k < W * H) (ho : o.op = .store 59 p q) (hx : ρ p = .pointer (some ⟨g, k * 5, none⟩)) (hq : ρ q = c.val) : (execOp ρ o).run Tryz.prog w = .ok .skip (setC w g k c) := by
  have hk2 : k < L.length := by rw [h.len]; exact hk
  obtain ⟨c0, c1, c2, c3, c4⟩ := h.grid.at hk2
  have f0 := h.free (k * 5)
  have f1 := h.free (k * 5 + 1)
  have f2 := h.free (k * 5 + 2)
  have f3 := h.free (k * 5 + 3)
  have f4 := h.free (k * 5 + 4)
  unfold execOp
  simp only [ho, hx, hq]
  unfold setC CV.val
  simp [go_sem, c0, c1, c2, c3, c4, f0, f1, f2, f3, f4]
theorem run_at5 {P : Program} {o : Oper} {ρ : Operand → Value} {w : World} {t e : TypeId} {p q : Operand} {b len cap i : Nat} {it : TypeInfo} (ho : o.op = .indexAddr t p q) (hx : ρ p = .slice (some ⟨b, 0, none⟩) len cap) (hy : ρ q = .int .i64 (i : Nat)) (hi : i < len)
    (hu : P.underlying t = some (.slice e)) (hs : P.info? e = some it) (hz : it.size = 5) : (execOp ρ o).run P w = .ok (.value (.pointer (some ⟨b, i * 5, none⟩))) w := by
  have := lx.run_at (w := w) ho hx hy hi hu hs hz
  rwa [Nat.zero_add] at this
theorem info_cell : (Tryz.prog.info? 59).map (fun i => (i.zero, i.size, i.bytes)) = some (some (.agg #[.string ⟨#[]⟩, .int .i8 0, .int .i32 0, .int .i32 0, .int .u8 0]), 5, 32) := by kernel_rfl
end Go.Proofs.YtdgcfmfjgidbjaaGreat.cel
namespace Go.Proofs.YtdgcfmfjgidbjaaGreat.cel
open Go Go.RowKit Go.Proofs
set_option linter.unusedVariables false

theorem drew_grown (w : World) (r : Option Nat) : w.grownBy w.drew r := ⟨rfl, rfl, rfl, Nat.le_refl _, fun _ _ _ => rfl⟩
theorem grown_below {w w' : World} (h : Below w.heap.size w w') (g : Nat) : w.grownBy w' (some g) := by
  obtain ⟨h1, h2, h3, h4, h5⟩ := h
  exact ⟨h1, h2, h3, h4, fun k hk _ => h5 k hk⟩
/-- two cells, as far as they have been written -/
def two (L : List CV) (h : Nat) (x : CV) (p q : Bool) : List CV := if q then (if p then L.set h x else L).set (h + 1) x else (if p then L.set h x else L)
theorem two_one {w : World} {b g W H h : Nat} {L : List CV} {x : CV} {q : Bool} (hb : Buf w b g W H ((two L h x false q).set h x)) : Buf w b g W H (two L h x true q) := by
  cases q with
  | false => exact hb
  | true =>
    unfold two at *
    simp only [if_true] at *
    have : (L.set (h + 1) x).set h x = (L.set h x).set (h + 1) x := List.set_comm _ _ (by omega)
    rw [← this]
    exact hb
theorem two_two {w : World} {b g W H h : Nat} {L : List CV} {x : CV} {p : Bool} (hb : Buf w b g W H ((two L h x p false).set (h + 1) x)) : Buf w b g W H (two L h x p true) := hb

set_option maxRecDepth 100000 in
set_option maxHeartbeats 8000000 in
theorem set_any (b g W H : Nat) (L : List CV) (i : Nat) (c : CV) (w : World) (h : Buf w b g W H L) (hi : i < W * H) (hz : wd L i = 0 → 0 < i) (ht : wd L i = 2 → i + 1 < W * H) :
    Calls Tryz.prog 63 #[.pointer (some ⟨b, 0, none⟩), .int .i64 i, c.val] w fun e w' => e = .returned (.tuple #[]) ∧ Buf w' b g W H (setT L i c) ∧ w.grownBy w' (some g) := by
  obtain ⟨it, hinf, -, hsz, -⟩ := info_parts info_cell
  obtain ⟨ct, cw, cf, cb, ca⟩ := c
  have hsize := h.size
  have hlen := h.len
  obtain ⟨hblt, hglt⟩ := h.lt
  have hne : w.heap.size ≠ g := by omega
  have hbne : ¬ b = w.heap.size := by omega
  have hgne : ¬ g = w.heap.size := by omega
  have HBF := run.hid (h.alloc (.cells #[.string ct, .int .i8 cw, .int .i32 cf, .int .i32 cb, .int .u8 ca] 59))
  have HKC := run.hid (heap_alloc_new w (.cells #[.string ct, .int .i8 cw, .int .i32 cf, .int .i32 cb, .int .u8 ca] 59))
  have HG := run.hid (World.grownBy_alloc w (.cells #[.string ct, .int .i8 cw, .int .i32 cf, .int .i32 cb, .int .u8 ca] 59) (some g))
  have HT := run.hid (show setT L i ⟨ct, cw, ⟨cf, cb, ca⟩⟩ = (brokenT L i).set i ⟨ct, cw, ⟨cf, cb, ca⟩⟩ from rfl)
  have p2 := h.h2
  obtain ⟨-, c1, -⟩ := h.grid.at (k := i) (by rw [hlen]; exact hi)
  have hwi : wd L i = (L.getD i z0).wide := rfl
  show Calls _ _ #[_, _, .agg #[.string ct, .int .i8 cw, .int .i32 cf, .int .i32 cb, .int .u8 ca]] _ _
  rw [← hwi] at c1
  by_cases k2 : wd L i = 2
  · have hi2 := ht k2
    replace HT : Hid (setT L i ⟨ct, cw, ⟨cf, cb, ca⟩⟩ = (two L i (blankT (L.getD i z0).sty) true true).set i ⟨ct, cw, ⟨cf, cb, ca⟩⟩) := by
      show _ = _
      rw [HT.out]; unfold brokenT headOf
      rw [if_pos (.inr k2), if_neg (by rw [← hwi, k2]; decide)]
      rfl
    rw [k2] at c1
    generalize setT L i ⟨ct, cw, ⟨cf, cb, ca⟩⟩ = LT at *
    clear hz ht hwi k2
    go_enter Tryz.func63, Tryz.ntmps63
    have HBL := run.hid (fun w => blank_any (L.getD i z0).sty w)
    obtain ⟨x, hx⟩ : ∃ x, x = blankT (L.getD i z0).sty := ⟨_, rfl⟩
    rw [← hx] at HBL HT
    obtain ⟨q0, q1, q2, q3, q4⟩ := (h.alloc (.cells #[.string ct, .int .i8 cw, .int .i32 cf, .int .i32 cb, .int .u8 ca] 59)).grid.at (k := i) (by rw [hlen]; omega)
    have e0 : (L.getD i z0).sty.val = .agg #[.int .i32 (L.getD i z0).sty.fg, .int .i32 (L.getD i z0).sty.bg, .int .u8 (L.getD i z0).sty.att] := rfl
    rw [e0] at HBL
    clear e0 hx q0 q1 h
    generalize (L.getD i z0).sty.fg = sf at *
    generalize (L.getD i z0).sty.bg = sb at *
    generalize (L.getD i z0).sty.att = sa at *
    obtain ⟨xt, xw, xf, xb, xa⟩ := x
    change Hid (∀ w, Calls _ _ _ _ fun e w' => e = .returned (.agg #[.string xt, .int .i8 xw, .int .i32 xf, .int .i32 xb, .int .u8 xa]) ∧ _) at HBL
    go_wp2_with fail
    refine (HBL.out _).mono ?_
    rintro e w2 ⟨rfl, hb2⟩
    have HB3 := run.hid ((HBF.out.below hb2).alloc (.cells #[.string xt, .int .i8 xw, .int .i32 xf, .int .i32 xb, .int .u8 xa] 59))
    have s2 := hb2.size
    simp only [World.size_alloc] at s2
    have HK3 := run.hid ((blk_old (.cells #[.string xt, .int .i8 xw, .int .i32 xf, .int .i32 xb, .int .u8 xa] 59) (by omega)).trans ((hb2.block w.heap.size (by simp)).trans HKC.out))
    have HX3 := run.hid (heap_alloc_new w2 (.cells #[.string xt, .int .i8 xw, .int .i32 xf, .int .i32 xb, .int .u8 xa] 59))
    have hne2 : w2.heap.size ≠ g := by omega
    have HG3 := run.hid (run.grown_trans HG.out (run.grown_trans (grown_below hb2 g) (World.grownBy_alloc w2 (.cells #[.string xt, .int .i8 xw, .int .i32 xf, .int .i32 xb, .int .u8 xa] 59) (some g)) (.inl rfl)) (.inl rfl))
    clear q2 q3 q4 HBF HKC HG hb2 HBL c1
    go_upto_region 7 with fail
    generalize w2.alloc (.cells #[.string xt, .int .i8 xw, .int .i32 xf, .int .i32 xb, .int .u8 xa] 59) = w3 at *
    generalize w2.heap.size = nx at *
    go_cut [6] (fun c wx => c = .int .i64 (i : Nat) ∧ Buf wx b g W H (two L i ⟨xt, xw, ⟨xf, xb, xa⟩⟩ true true) ∧ wx.heap[w.heap.size]? = some (.cells #[.string ct, .int .i8 cw, .int .i32 cf, .int .i32 cb, .int .u8 ca] 59 (0, 0)) ∧ w3.grownBy wx (some g))
    case first =>
      refine lx.region (fun D W' => Buf W' b g W H (two L i ⟨xt, xw, ⟨xf, xb, xa⟩⟩ (D 14) (D 16)) ∧ W'.heap[w.heap.size]? = some (.cells #[.string ct, .int .i8 cw, .int .i32 cf, .int .i32 cb, .int .u8 ca] 59 (0, 0)) ∧ W'.heap[nx]? = some (.cells #[.string xt, .int .i8 xw, .int .i32 xf, .int .i32 xb, .int .u8 xa] 59 (0, 0)) ∧ w3.grownBy W' (some g)) (by kernel_rfl) (by kernel_rfl) (by kernel_rfl) ⟨HB3.out.below (drewB (Below.refl _ _)), HK3.out, HX3.out, drew_grown _ _⟩ ?_
      refine lx.begin 54 rfl ?_
      refine lx.o_pure (.pointer (some ⟨b, 0, none⟩)) (fun _ _ h => by first | rfl | kernel_rfl) ?_
      refine lx.o_pure (.pointer (some ⟨b, 0, none⟩)) (fun _ _ h => by first | rfl | kernel_rfl) ?_
      refine lx.o_pure (.pointer (some ⟨b, 2, none⟩)) (fun _ _ h => by first | rfl | kernel_rfl) ?_
      refine lx.o_pure (.slice (some ⟨g, 0, none⟩) (W * H : Nat) (W * H : Nat)) (fun D W' hC => lx.run_load rfl rfl Tryz.underlying35 rfl hC.1.h2) ?_
      refine lx.o_pure (.int .i64 (i : Nat)) (fun _ _ h => by first | rfl | kernel_rfl) ?_
      refine lx.o_pure (.pointer (some ⟨b, 0, none⟩)) (fun _ _ h => by first | rfl | kernel_rfl) ?_
      refine lx.o_pure (.pointer (some ⟨b, 0, none⟩)) (fun _ _ h => by first | rfl | kernel_rfl) ?_
      refine lx.o_pure (.pointer (some ⟨b, 2, none⟩)) (fun _ _ h => by first | rfl | kernel_rfl) ?_
      refine lx.o_pure (.slice (some ⟨g, 0, none⟩) (W * H : Nat) (W * H : Nat)) (fun D W' hC => lx.run_load rfl rfl Tryz.underlying35 rfl hC.1.h2) ?_
      refine lx.o_pure (.int .i64 (i : Nat)) (fun _ _ h => by first | rfl | kernel_rfl) ?_
      refine lx.o_pure (.int .i64 ((i + 1 : Nat) : Int)) (fun _ _ _ => lx.run_add rfl rfl rfl (by omega) (by push_cast; omega)) ?_
      refine lx.o_pure (CV.val ⟨xt, xw, ⟨xf, xb, xa⟩⟩) (fun D W' hC => run_loadrow rfl rfl hC.2.2.1 Tryz.underlying59 rfl (by kernel_rfl)) ?_
      refine lx.o_pure (CV.val ⟨xt, xw, ⟨xf, xb, xa⟩⟩) (fun D W' hC => run_loadrow rfl rfl hC.2.2.1 Tryz.underlying59 rfl (by kernel_rfl)) ?_
      refine lx.o_pure (.pointer (some ⟨g, i * 5, none⟩)) (fun D W' hC => run_at5 rfl rfl rfl (by omega) Tryz.underlying35 hinf hsz) ?_
      refine lx.o_put (fun D W' h0 hdep hC => ?_) ?_
      · obtain ⟨hb, hk, hkx, hg⟩ := hC
        have h0' : D 14 = false := h0
        rw [h0'] at hb
        exact ⟨_, run_store5 hb (k := i) (by omega) rfl rfl rfl, two_one (hb.store (by omega) _), (setC_other_block hne).trans hk, (setC_other_block hne2).trans hkx, run.grown_trans hg (setC_grown _ _ _ _) (.inl rfl)⟩
      refine lx.o_pure (.pointer (some ⟨g, (i + 1) * 5, none⟩)) (fun D W' hC => run_at5 rfl rfl rfl (by omega) Tryz.underlying35 hinf hsz) ?_
      refine lx.o_put (fun D W' h0 hdep hC => ?_) ?_
      · obtain ⟨hb, hk, hkx, hg⟩ := hC
        have h0' : D 16 = false := h0
        rw [h0'] at hb
        exact ⟨_, run_store5 hb (k := i + 1) (by omega) rfl rfl rfl, two_two (hb.store (by omega) _), (setC_other_block hne).trans hk, (setC_other_block hne2).trans hkx, run.grown_trans hg (setC_grown _ _ _ _) (.inl rfl)⟩
      refine lx.o_end ?_
      simp only [lx.ov]
      rintro W7 d hd ⟨hb7, hk7, -, hg7⟩
      rw [hd 14 (by decide), hd 16 (by decide)] at hb7
      have HB7 := run.hid hb7
      have HK7 := run.hid hk7
      have HG7 := run.hid hg7
      clear hb7 hk7 hg7 hd HB3 HK3 HX3
      go_simp
      go_wp2
      go_meet
      case rel => exact ⟨rfl, HB7.out, HK7.out, HG7.out⟩
    obtain ⟨rfl, hb7, hk7, hg7⟩ := hcut
    have HBF := run.hid hb7
    have HKC := run.hid hk7
    have HG := run.hid (run.grown_trans HG3.out hg7 (.inl rfl))
    clear hb7 hk7 hg7 HB3 HK3 HX3 HG3
    generalize wc = W7 at *
    go_upto_region 8 with fail
    refine lx.region (fun D W' => ∃ L', Buf W' b g W H L' ∧ W'.heap[w.heap.size]? = some (.cells #[.string ct, .int .i8 cw, .int .i32 cf, .int .i32 cb, .int .u8 ca] 59 (0, 0)) ∧ (W7).grownBy W' (some g) ∧ (D 7 = false → L' = two L i ⟨xt, xw, ⟨xf, xb, xa⟩⟩ true true) ∧ (D 7 = true → L' = (two L i ⟨xt, xw, ⟨xf, xb, xa⟩⟩ true true).set i ⟨ct, cw, ⟨cf, cb, ca⟩⟩)) (by kernel_rfl) (by kernel_rfl) (by kernel_rfl) ⟨_, HBF.out.below (drewB (Below.refl _ _)), HKC.out, drew_grown _ _, fun _ => rfl, fun h => by cases h⟩ ?_
    refine lx.begin 54 rfl ?_
    refine lx.o_pure (.pointer (some ⟨b, 0, none⟩)) (fun _ _ h => by first | rfl | kernel_rfl) ?_
    refine lx.o_pure (.pointer (some ⟨b, 0, none⟩)) (fun _ _ h => by first | rfl | kernel_rfl) ?_
    refine lx.o_pure (.pointer (some ⟨b, 2, none⟩)) (fun _ _ h => by first | rfl | kernel_rfl) ?_
    refine lx.o_pure (.slice (some ⟨g, 0, none⟩) (W * H : Nat) (W * H : Nat)) (fun D W' hC => lx.run_load rfl rfl Tryz.underlying35 rfl hC.choose_spec.1.h2) ?_
    refine lx.o_pure (.int .i64 (i : Nat)) (fun _ _ h => by first | rfl | kernel_rfl) ?_
    refine lx.o_pure (CV.val ⟨ct, cw, ⟨cf, cb, ca⟩⟩) (fun D W' hC => run_loadrow rfl rfl hC.choose_spec.2.1 Tryz.underlying59 rfl (by kernel_rfl)) ?_
    refine lx.o_pure (.pointer (some ⟨g, i * 5, none⟩)) (fun D W' hC => run_at5 rfl rfl rfl hi Tryz.underlying35 hinf hsz) ?_
    refine lx.o_put (fun D W' h0 hdep hC => ?_) ?_
    · obtain ⟨L', hb, hk, hg, h1, h2⟩ := hC
      have h0' : D 7 = false := h0
      obtain rfl := h1 h0'
      exact ⟨_, run_store5 hb hi rfl rfl rfl, _, hb.store hi _, (setC_other_block hne).trans hk, run.grown_trans hg (setC_grown _ _ _ _) (.inl rfl), (fun h => by cases h), fun _ => rfl⟩
    refine lx.o_end ?_
    simp only [lx.ov]
    rintro W' d hd ⟨L', hb, -, hg, -, h2⟩
    obtain rfl := h2 (hd 7 (by decide))
    have HF := run.hid hb
    have HGF := run.hid (run.grown_trans HG.out hg (.inl rfl))
    clear hb hg h2 hd HBF HKC HG
    go_wp2
    go_end0
    exact ⟨rfl, by rw [HT.out]; exact HF.out, HGF.out⟩
  · by_cases k0 : wd L i = 0
    · obtain ⟨j, rfl⟩ : ∃ j, i = j + 1 := ⟨i - 1, by have := hz k0; omega⟩
      replace HT : Hid (setT L (j + 1) ⟨ct, cw, ⟨cf, cb, ca⟩⟩ = (two L j (blankT (L.getD j z0).sty) true true).set (j + 1) ⟨ct, cw, ⟨cf, cb, ca⟩⟩) := by
        show _ = _
        rw [HT.out]; unfold brokenT headOf
        rw [if_pos (.inl k0), if_pos (hwi.symm.trans k0), Nat.add_sub_cancel]
        rfl
      rw [k0] at c1
      generalize setT L (j + 1) ⟨ct, cw, ⟨cf, cb, ca⟩⟩ = LT at *
      clear hz ht hwi k2 k0
      go_enter Tryz.func63, Tryz.ntmps63
      have HBL := run.hid (fun w => blank_any (L.getD j z0).sty w)
      obtain ⟨x, hx⟩ : ∃ x, x = blankT (L.getD j z0).sty := ⟨_, rfl⟩
      rw [← hx] at HBL HT
      obtain ⟨q0, q1, q2, q3, q4⟩ := (h.alloc (.cells #[.string ct, .int .i8 cw, .int .i32 cf, .int .i32 cb, .int .u8 ca] 59)).grid.at (k := j) (by rw [hlen]; omega)
      have e0 : (L.getD j z0).sty.val = .agg #[.int .i32 (L.getD j z0).sty.fg, .int .i32 (L.getD j z0).sty.bg, .int .u8 (L.getD j z0).sty.att] := rfl
      rw [e0] at HBL
      clear e0 hx q0 q1 h
      generalize (L.getD j z0).sty.fg = sf at *
      generalize (L.getD j z0).sty.bg = sb at *
      generalize (L.getD j z0).sty.att = sa at *
      obtain ⟨xt, xw, xf, xb, xa⟩ := x
      change Hid (∀ w, Calls _ _ _ _ fun e w' => e = .returned (.agg #[.string xt, .int .i8 xw, .int .i32 xf, .int .i32 xb, .int .u8 xa]) ∧ _) at HBL
      go_wp2_with fail
      refine (HBL.out _).mono ?_
      rintro e w2 ⟨rfl, hb2⟩
      have HB3 := run.hid ((HBF.out.below hb2).alloc (.cells #[.string xt, .int .i8 xw, .int .i32 xf, .int .i32 xb, .int .u8 xa] 59))
      have s2 := hb2.size
      simp only [World.size_alloc] at s2
      have HK3 := run.hid ((blk_old (.cells #[.string xt, .int .i8 xw, .int .i32 xf, .int .i32 xb, .int .u8 xa] 59) (by omega)).trans ((hb2.block w.heap.size (by simp)).trans HKC.out))
      have HX3 := run.hid (heap_alloc_new w2 (.cells #[.string xt, .int .i8 xw, .int .i32 xf, .int .i32 xb, .int .u8 xa] 59))
      have hne2 : w2.heap.size ≠ g := by omega
      have HG3 := run.hid (run.grown_trans HG.out (run.grown_trans (grown_below hb2 g) (World.grownBy_alloc w2 (.cells #[.string xt, .int .i8 xw, .int .i32 xf, .int .i32 xb, .int .u8 xa] 59) (some g)) (.inl rfl)) (.inl rfl))
      clear q2 q3 q4 HBF HKC HG hb2 HBL c1
      go_upto_region 7 with fail
      generalize w2.alloc (.cells #[.string xt, .int .i8 xw, .int .i32 xf, .int .i32 xb, .int .u8 xa] 59) = w3 at *
      generalize w2.heap.size = nx at *
      go_cut [6] (fun c wx => c = .int .i64 (j : Nat) ∧ Buf wx b g W H (two L j ⟨xt, xw, ⟨xf, xb, xa⟩⟩ true true) ∧ wx.heap[w.heap.size]? = some (.cells #[.string ct, .int .i8 cw, .int .i32 cf, .int .i32 cb, .int .u8 ca] 59 (0, 0)) ∧ w3.grownBy wx (some g))
      case first =>
        refine lx.region (fun D W' => Buf W' b g W H (two L j ⟨xt, xw, ⟨xf, xb, xa⟩⟩ (D 14) (D 16)) ∧ W'.heap[w.heap.size]? = some (.cells #[.string ct, .int .i8 cw, .int .i32 cf, .int .i32 cb, .int .u8 ca] 59 (0, 0)) ∧ W'.heap[nx]? = some (.cells #[.string xt, .int .i8 xw, .int .i32 xf, .int .i32 xb, .int .u8 xa] 59 (0, 0)) ∧ w3.grownBy W' (some g)) (by kernel_rfl) (by kernel_rfl) (by kernel_rfl) ⟨HB3.out.below (drewB (Below.refl _ _)), HK3.out, HX3.out, drew_grown _ _⟩ ?_
        refine lx.begin 54 rfl ?_
        refine lx.o_pure (.pointer (some ⟨b, 0, none⟩)) (fun _ _ h => by first | rfl | kernel_rfl) ?_
        refine lx.o_pure (.pointer (some ⟨b, 0, none⟩)) (fun _ _ h => by first | rfl | kernel_rfl) ?_
        refine lx.o_pure (.pointer (some ⟨b, 2, none⟩)) (fun _ _ h => by first | rfl | kernel_rfl) ?_
        refine lx.o_pure (.slice (some ⟨g, 0, none⟩) (W * H : Nat) (W * H : Nat)) (fun D W' hC => lx.run_load rfl rfl Tryz.underlying35 rfl hC.1.h2) ?_
        refine lx.o_pure (.int .i64 (j : Nat)) (fun _ _ h => by first | rfl | kernel_rfl) ?_
        refine lx.o_pure (.pointer (some ⟨b, 0, none⟩)) (fun _ _ h => by first | rfl | kernel_rfl) ?_
        refine lx.o_pure (.pointer (some ⟨b, 0, none⟩)) (fun _ _ h => by first | rfl | kernel_rfl) ?_
        refine lx.o_pure (.pointer (some ⟨b, 2, none⟩)) (fun _ _ h => by first | rfl | kernel_rfl) ?_
        refine lx.o_pure (.slice (some ⟨g, 0, none⟩) (W * H : Nat) (W * H : Nat)) (fun D W' hC => lx.run_load rfl rfl Tryz.underlying35 rfl hC.1.h2) ?_
        refine lx.o_pure (.int .i64 (j : Nat)) (fun _ _ h => by first | rfl | kernel_rfl) ?_
        refine lx.o_pure (.int .i64 ((j + 1 : Nat) : Int)) (fun _ _ _ => lx.run_add rfl rfl rfl (by omega) (by push_cast; omega)) ?_
        refine lx.o_pure (CV.val ⟨xt, xw, ⟨xf, xb, xa⟩⟩) (fun D W' hC => run_loadrow rfl rfl hC.2.2.1 Tryz.underlying59 rfl (by kernel_rfl)) ?_
        refine lx.o_pure (CV.val ⟨xt, xw, ⟨xf, xb, xa⟩⟩) (fun D W' hC => run_loadrow rfl rfl hC.2.2.1 Tryz.underlying59 rfl (by kernel_rfl)) ?_
        refine lx.o_pure (.pointer (some ⟨g, j * 5, none⟩)) (fun D W' hC => run_at5 rfl rfl rfl (by omega) Tryz.underlying35 hinf hsz) ?_
        refine lx.o_put (fun D W' h0 hdep hC => ?_) ?_
        · obtain ⟨hb, hk, hkx, hg⟩ := hC
          have h0' : D 14 = false := h0
          rw [h0'] at hb
          exact ⟨_, run_store5 hb (k := j) (by omega) rfl rfl rfl, two_one (hb.store (by omega) _), (setC_other_block hne).trans hk, (setC_other_block hne2).trans hkx, run.grown_trans hg (setC_grown _ _ _ _) (.inl rfl)⟩
        refine lx.o_pure (.pointer (some ⟨g, (j + 1) * 5, none⟩)) (fun D W' hC => run_at5 rfl rfl rfl (by omega) Tryz.underlying35 hinf hsz) ?_
        refine lx.o_put (fun D W' h0 hdep hC => ?_) ?_
        · obtain ⟨hb, hk, hkx, hg⟩ := hC
          have h0' : D 16 = false := h0
          rw [h0'] at hb
          exact ⟨_, run_store5 hb (k := j + 1) (by omega) rfl rfl rfl, two_two (hb.store (by omega) _), (setC_other_block hne).trans hk, (setC_other_block hne2).trans hkx, run.grown_trans hg (setC_grown _ _ _ _) (.inl rfl)⟩
        refine lx.o_end ?_
        simp only [lx.ov]
        rintro W7 d hd ⟨hb7, hk7, -, hg7⟩
        rw [hd 14 (by decide), hd 16 (by decide)] at hb7
        have HB7 := run.hid hb7
        have HK7 := run.hid hk7
        have HG7 := run.hid hg7
        clear hb7 hk7 hg7 hd HB3 HK3 HX3
        go_simp
        go_wp2
        go_meet
        case rel => exact ⟨rfl, HB7.out, HK7.out, HG7.out⟩
      obtain ⟨rfl, hb7, hk7, hg7⟩ := hcut
      have HBF := run.hid hb7
      have HKC := run.hid hk7
      have HG := run.hid (run.grown_trans HG3.out hg7 (.inl rfl))
      clear hb7 hk7 hg7 HB3 HK3 HX3 HG3
      generalize wc = W7 at *
      go_upto_region 8 with fail
      refine lx.region (fun D W' => ∃ L', Buf W' b g W H L' ∧ W'.heap[w.heap.size]? = some (.cells #[.string ct, .int .i8 cw, .int .i32 cf, .int .i32 cb, .int .u8 ca] 59 (0, 0)) ∧ (W7).grownBy W' (some g) ∧ (D 7 = false → L' = two L j ⟨xt, xw, ⟨xf, xb, xa⟩⟩ true true) ∧ (D 7 = true → L' = (two L j ⟨xt, xw, ⟨xf, xb, xa⟩⟩ true true).set (j + 1) ⟨ct, cw, ⟨cf, cb, ca⟩⟩)) (by kernel_rfl) (by kernel_rfl) (by kernel_rfl) ⟨_, HBF.out.below (drewB (Below.refl _ _)), HKC.out, drew_grown _ _, fun _ => rfl, fun h => by cases h⟩ ?_
      refine lx.begin 54 rfl ?_
      refine lx.o_pure (.pointer (some ⟨b, 0, none⟩)) (fun _ _ h => by first | rfl | kernel_rfl) ?_
      refine lx.o_pure (.pointer (some ⟨b, 0, none⟩)) (fun _ _ h => by first | rfl | kernel_rfl) ?_
      refine lx.o_pure (.pointer (some ⟨b, 2, none⟩)) (fun _ _ h => by first | rfl | kernel_rfl) ?_
      refine lx.o_pure (.slice (some ⟨g, 0, none⟩) (W * H : Nat) (W * H : Nat)) (fun D W' hC => lx.run_load rfl rfl Tryz.underlying35 rfl hC.choose_spec.1.h2) ?_
      refine lx.o_pure (.int .i64 ((j + 1 : Nat) : Int)) (fun _ _ h => by first | rfl | kernel_rfl) ?_
      refine lx.o_pure (CV.val ⟨ct, cw, ⟨cf, cb, ca⟩⟩) (fun D W' hC => run_loadrow rfl rfl hC.choose_spec.2.1 Tryz.underlying59 rfl (by kernel_rfl)) ?_
      refine lx.o_pure (.pointer (some ⟨g, (j + 1) * 5, none⟩)) (fun D W' hC => run_at5 rfl rfl rfl hi Tryz.underlying35 hinf hsz) ?_
      refine lx.o_put (fun D W' h0 hdep hC => ?_) ?_
      · obtain ⟨L', hb, hk, hg, h1, h2⟩ := hC
        have h0' : D 7 = false := h0
        obtain rfl := h1 h0'
        exact ⟨_, run_store5 hb hi rfl rfl rfl, _, hb.store hi _, (setC_other_block hne).trans hk, run.grown_trans hg (setC_grown _ _ _ _) (.inl rfl), (fun h => by cases h), fun _ => rfl⟩
      refine lx.o_end ?_
      simp only [lx.ov]
      rintro W' d hd ⟨L', hb, -, hg, -, h2⟩
      obtain rfl := h2 (hd 7 (by decide))
      have HF := run.hid hb
      have HGF := run.hid (run.grown_trans HG.out hg (.inl rfl))
      clear hb hg h2 hd HBF HKC HG
      go_wp2
      go_end0
      exact ⟨rfl, by rw [HT.out]; exact HF.out, HGF.out⟩
    · replace HT : Hid (setT L i ⟨ct, cw, ⟨cf, cb, ca⟩⟩ = L.set i ⟨ct, cw, ⟨cf, cb, ca⟩⟩) := by
        show _ = _
        rw [HT.out]; unfold brokenT
        rw [if_neg (by rw [← hwi]; omega)]
      generalize setT L i ⟨ct, cw, ⟨cf, cb, ca⟩⟩ = LT at *
      clear hz ht hwi
      generalize wd L i = wi at *
      go_enter Tryz.func63, Tryz.ntmps63
      go_upto_region 8 with fail
      refine lx.region (fun D W' => ∃ L', Buf W' b g W H L' ∧ W'.heap[w.heap.size]? = some (.cells #[.string ct, .int .i8 cw, .int .i32 cf, .int .i32 cb, .int .u8 ca] 59 (0, 0)) ∧ (w.alloc (.cells #[.string ct, .int .i8 cw, .int .i32 cf, .int .i32 cb, .int .u8 ca] 59)).grownBy W' (some g) ∧ (D 7 = false → L' = L) ∧ (D 7 = true → L' = (L).set i ⟨ct, cw, ⟨cf, cb, ca⟩⟩)) (by kernel_rfl) (by kernel_rfl) (by kernel_rfl) ⟨_, HBF.out.below (drewB (Below.refl _ _)), HKC.out, drew_grown _ _, fun _ => rfl, fun h => by cases h⟩ ?_
      refine lx.begin 54 rfl ?_
      refine lx.o_pure (.pointer (some ⟨b, 0, none⟩)) (fun _ _ h => by first | rfl | kernel_rfl) ?_
      refine lx.o_pure (.pointer (some ⟨b, 0, none⟩)) (fun _ _ h => by first | rfl | kernel_rfl) ?_
      refine lx.o_pure (.pointer (some ⟨b, 2, none⟩)) (fun _ _ h => by first | rfl | kernel_rfl) ?_
      refine lx.o_pure (.slice (some ⟨g, 0, none⟩) (W * H : Nat) (W * H : Nat)) (fun D W' hC => lx.run_load rfl rfl Tryz.underlying35 rfl hC.choose_spec.1.h2) ?_
      refine lx.o_pure (.int .i64 (i : Nat)) (fun _ _ h => by first | rfl | kernel_rfl) ?_
      refine lx.o_pure (CV.val ⟨ct, cw, ⟨cf, cb, ca⟩⟩) (fun D W' hC => run_loadrow rfl rfl hC.choose_spec.2.1 Tryz.underlying59 rfl (by kernel_rfl)) ?_
      refine lx.o_pure (.pointer (some ⟨g, i * 5, none⟩)) (fun D W' hC => run_at5 rfl rfl rfl hi Tryz.underlying35 hinf hsz) ?_
      refine lx.o_put (fun D W' h0 hdep hC => ?_) ?_
      · obtain ⟨L', hb, hk, hg, h1, h2⟩ := hC
        have h0' : D 7 = false := h0
        obtain rfl := h1 h0'
        exact ⟨_, run_store5 hb hi rfl rfl rfl, _, hb.store hi _, (setC_other_block hne).trans hk, run.grown_trans hg (setC_grown _ _ _ _) (.inl rfl), (fun h => by cases h), fun _ => rfl⟩
      refine lx.o_end ?_
      simp only [lx.ov]
      rintro W' d hd ⟨L', hb, -, hg, -, h2⟩
      obtain rfl := h2 (hd 7 (by decide))
      have HF := run.hid hb
      have HGF := run.hid (run.grown_trans HG.out hg (.inl rfl))
      clear hb hg h2 hd HBF HKC HG
      go_wp2
      go_end0
      exact ⟨rfl, by rw [HT.out]; exact HF.out, HGF.out⟩
end Go.Proofs.YtdgcfmfjgidbjaaGreat.cel
namespace Go.Proofs.YtdgcfmfjgidbjaaGreat.cel
open Go Go.RowKit Go.Proofs
set_option linter.unusedVariables false

theorem zero_rect (w : World) : (zeroValue 34).run Tryz.prog w = .ok (.agg #[.int .i64 0, .int .i64 0, .int .i64 0, .int .i64 0]) w := by kernel_rfl

set_option maxRecDepth 100000 in
set_option maxHeartbeats 4000000 in
theorem window_any (b g W H : Nat) (L : List CV) (r : RT) (w : World) (h : Buf w b g W H L) (hr : r.wf) : Calls Tryz.prog 35 #[.pointer (some ⟨b, 0, none⟩), r.val] w fun e w' => e = .returned (meetT r ⟨0, 0, W, H⟩).val ∧ Below w.heap.size w w' := by
  have hW := h.wide
  have hH := h.high
  have H1 := run.hid (fun w => meet_any r ⟨0, 0, W, H⟩ w hr (by unfold RT.wf w64; simp only; omega))
  generalize meetT r ⟨0, 0, W, H⟩ = m at *
  obtain ⟨x, y, z, u⟩ := r
  obtain ⟨mx, my, mz, mu⟩ := m
  change Hid (∀ w, Calls _ _ #[.agg #[.int .i64 x, .int .i64 y, .int .i64 z, .int .i64 u], .agg #[.int .i64 0, .int .i64 0, .int .i64 W, .int .i64 H]] w fun e w' => e = .returned (.agg #[.int .i64 mx, .int .i64 my, .int .i64 mz, .int .i64 mu]) ∧ _) at H1
  show Calls _ _ #[_, .agg #[.int .i64 x, .int .i64 y, .int .i64 z, .int .i64 u]] _ fun e w' => e = .returned (.agg #[.int .i64 mx, .int .i64 my, .int .i64 mz, .int .i64 mu]) ∧ _
  have HBF := run.hid h
  have k0 : (((w.alloc (.cells #[.int .i64 x, .int .i64 y, .int .i64 z, .int .i64 u] 34)).alloc (.cells #[.int .i64 0, .int .i64 0, .int .i64 0, .int .i64 0] 34)).drew).heap[w.heap.size]? = some (.cells #[.int .i64 x, .int .i64 y, .int .i64 z, .int .i64 u] 34 (0, 0)) := heap_alloc2_old w _ _
  have k1 : (((w.alloc (.cells #[.int .i64 x, .int .i64 y, .int .i64 z, .int .i64 u] 34)).alloc (.cells #[.int .i64 0, .int .i64 0, .int .i64 0, .int .i64 0] 34)).drew).heap[w.heap.size + 1]? = some (.cells #[.int .i64 0, .int .i64 0, .int .i64 0, .int .i64 0] 34 (0, 0)) := heap_alloc2_new w _ _
  have hB := drewB (run.below_two w (.cells #[.int .i64 x, .int .i64 y, .int .i64 z, .int .i64 u] 34) (.cells #[.int .i64 0, .int .i64 0, .int .i64 0, .int .i64 0] 34))
  have KK := run.hid (show _ ∧ _ ∧ _ from ⟨k0, k1, hB⟩)
  clear h k0 k1 hB hr
  go_enter Tryz.func35, Tryz.ntmps35
  go_upto_region 1 with fail
  refine lx.region (fun D W' => W'.heap[w.heap.size]? = some (.cells #[.int .i64 x, .int .i64 y, .int .i64 z, .int .i64 u] 34 (0, 0)) ∧ Below w.heap.size w W' ∧ (D 11 = false → W'.heap[w.heap.size + 1]? = some (.cells #[.int .i64 0, .int .i64 0, .int .i64 0, .int .i64 0] 34 (0, 0))) ∧ (D 11 = true → W'.heap[w.heap.size + 1]? = some (.cells #[.int .i64 mx, .int .i64 my, .int .i64 mz, .int .i64 mu] 34 (0, 0)))) (by kernel_rfl) (by kernel_rfl) (by kernel_rfl) ⟨KK.out.1, KK.out.2.2, fun _ => KK.out.2.1, fun h => by cases h⟩ ?_
  refine lx.begin 16 rfl ?_
  refine lx.o_pure (.agg #[.int .i64 x, .int .i64 y, .int .i64 z, .int .i64 u]) (fun D W' hC => run_loadrow rfl rfl hC.1 Tryz.underlying34 rfl (by kernel_rfl)) ?_
  refine lx.o_pure (.pointer (some ⟨b, 0, none⟩)) (fun _ _ h => by first | rfl | kernel_rfl) ?_
  refine lx.o_pure (.pointer (some ⟨b, 0, none⟩)) (fun _ _ h => by first | rfl | kernel_rfl) ?_
  refine lx.o_pure (.pointer (some ⟨b, 0, none⟩)) (fun _ _ h => by first | rfl | kernel_rfl) ?_
  refine lx.o_pure (.int .i64 W) (fun D W' hC => lx.run_load rfl rfl Tryz.underlying3 rfl (HBF.out.below hC.2.1).h0) ?_
  refine lx.o_pure (.pointer (some ⟨b, 0, none⟩)) (fun _ _ h => by first | rfl | kernel_rfl) ?_
  refine lx.o_pure (.pointer (some ⟨b, 0, none⟩)) (fun _ _ h => by first | rfl | kernel_rfl) ?_
  refine lx.o_pure (.pointer (some ⟨b, 1, none⟩)) (fun _ _ h => by first | rfl | kernel_rfl) ?_
  refine lx.o_pure (.int .i64 H) (fun D W' hC => lx.run_load rfl rfl Tryz.underlying3 rfl (HBF.out.below hC.2.1).h1) ?_
  refine lx.o_pure (.agg #[.int .i64 0, .int .i64 0, .int .i64 W, .int .i64 H]) (fun _ _ h => by first | rfl | kernel_rfl) ?_
  refine lx.o_call (.agg #[.int .i64 mx, .int .i64 my, .int .i64 mz, .int .i64 mu]) 50 #[.agg #[.int .i64 x, .int .i64 y, .int .i64 z, .int .i64 u], .agg #[.int .i64 0, .int .i64 0, .int .i64 W, .int .i64 H]] (fun _ _ _ => lx.run_fn rfl rfl rfl (enters_of Tryz.func50 (by kernel_rfl) rfl)) (fun D W' hC => (H1.out W').mono fun e w2 ⟨he, hw⟩ => ⟨he, ?_⟩) ?_
  · obtain ⟨c1, c2, c3, c4⟩ := hC
    have hlt := (Array.getElem?_eq_some_iff.1 c1).1
    refine ⟨(hw.block _ hlt).trans c1, c2.trans (hw.mono c2.size), fun hd => ?_, fun hd => ?_⟩
    · have c5 := c3 hd
      exact (hw.block _ (Array.getElem?_eq_some_iff.1 c5).1).trans c5
    · have c5 := c4 hd
      exact (hw.block _ (Array.getElem?_eq_some_iff.1 c5).1).trans c5
  refine lx.o_put (fun D W' h0 hdep hC => ?_) ?_
  · obtain ⟨c1, c2, c3, c4⟩ := hC
    have h0' : D 11 = false := h0
    have c5 := c3 h0'
    obtain ⟨⟨d0, d1, d2, d3⟩, g0, g1, g2, g3⟩ := blk4 c5
    refine ⟨_, ?_, (blk_other _ (show w.heap.size ≠ w.heap.size + 1 by omega)).trans ((blk_other _ (show w.heap.size ≠ w.heap.size + 1 by omega)).trans ((blk_other _ (show w.heap.size ≠ w.heap.size + 1 by omega)).trans ((blk_other _ (show w.heap.size ≠ w.heap.size + 1 by omega)).trans c1))), below4 _ _ _ _ c2 (show w.heap.size ≤ w.heap.size + 1 by omega), (fun h => by cases h), fun _ => set4 c5⟩
    unfold execOp
    simp only
    rw [show lx.look _ _ (Operand.tmp 4) = Value.pointer (some ⟨w.heap.size + 1, 0, none⟩) from rfl, show lx.look _ _ (Operand.tmp 15) = Value.agg #[.int .i64 mx, .int .i64 my, .int .i64 mz, .int .i64 mu] from rfl]
    simp [go_sem, d0, d1, d2, d3, g0, g1, g2, g3]
  refine lx.o_end ?_
  simp only [lx.ov]
  rintro W' d hd ⟨-, c2, -, c4⟩
  have K9 := run.hid (c4 (hd 11 (by decide)))
  have HB9 := run.hid c2
  clear c2 c4 hd KK H1 HBF
  go_simp
  go_wp2
  refine bodyPost_ret (v := .agg #[.int .i64 mx, .int .i64 my, .int .i64 mz, .int .i64 mu]) (results_cell_row rfl _ _ (w.heap.size + 1) _ _ _ _ rfl K9.out Tryz.underlying34 rfl (by kernel_rfl)) rfl ?_
  exact ⟨rfl, HB9.out⟩
end Go.Proofs.YtdgcfmfjgidbjaaGreat.cel
namespace Go.Proofs.YtdgcfmfjgidbjaaGreat.cel
open Go Go.RowKit Go.Proofs
set_option linter.unusedVariables false

theorem good_pre {W H : Nat} {L : List CV} (h : Good W H L) {i : Nat} (hi : i < W * H) : (wd L i = 0 → 0 < i) ∧ (wd L i = 2 → i + 1 < W * H) := by
  rcases h.2 i hi with h1 | ⟨h1, h2, h3⟩ | ⟨h1, h2, h3⟩
  · exact ⟨fun h => by omega, fun h => by omega⟩
  · exact ⟨fun h => by omega, fun _ => next_lt hi h2⟩
  · refine ⟨fun _ => ?_, fun h => by omega⟩
    rcases Nat.eq_zero_or_pos i with h0 | h0
    · subst h0; simp at h2
    · exact h0
/-- where lay stands: the buffer, and what it was handed -/
structure Lay (w0 : World) (b g W H : Nat) (L : List CV) (n : Nat) (c : Array Value) (r : Array Value) (w : World) : Prop where
  buf : Buf w b g W H L
  kc : w.heap[n]? = some (.cells c 59 (0, 0))
  kr : w.heap[n + 1]? = some (.cells r 34 (0, 0))
  grown : w0.grownBy w (some g)
  ne : n ≠ g
  ne2 : n + 1 ≠ g
theorem Lay.below {w0 w w' : World} {b g W H n : Nat} {L : List CV} {c r : Array Value} (h : Lay w0 b g W H L n c r w) (hb : Below w.heap.size w w') : Lay w0 b g W H L n c r w' :=
  ⟨h.buf.below hb, (hb.block _ (Array.getElem?_eq_some_iff.1 h.kc).1).trans h.kc, (hb.block _ (Array.getElem?_eq_some_iff.1 h.kr).1).trans h.kr, run.grown_trans h.grown (grown_below hb g) (.inl rfl), h.ne, h.ne2⟩
theorem Lay.step {w0 w w' : World} {b g W H n : Nat} {L L' : List CV} {c r : Array Value} (h : Lay w0 b g W H L n c r w) (hb : Buf w' b g W H L') (hg : w.grownBy w' (some g)) : Lay w0 b g W H L' n c r w' :=
  ⟨hb, (hg.block _ (Array.getElem?_eq_some_iff.1 h.kc).1 (by simpa using h.ne)).trans h.kc, (hg.block _ (Array.getElem?_eq_some_iff.1 h.kr).1 (by simpa using h.ne2)).trans h.kr, run.grown_trans h.grown hg (.inl rfl), h.ne, h.ne2⟩
theorem Lay.drew {w0 w : World} {b g W H n : Nat} {L : List CV} {c r : Array Value} (h : Lay w0 b g W H L n c r w) : Lay w0 b g W H L n c r w.drew := h.below (drewB (Below.refl _ _))
theorem Lay.set {w0 w : World} {b g W H n : Nat} {L : List CV} {c r : Array Value} (h : Lay w0 b g W H L n c r w) (hG : Good W H L) {i : Nat} (hi : i < W * H) (x : CV) :
    Calls Tryz.prog 63 #[.pointer (some ⟨b, 0, none⟩), .int .i64 i, x.val] w fun e w' => e = .returned (.tuple #[]) ∧ Lay w0 b g W H (setT L i x) n c r w' :=
  (set_any b g W H L i x w h.buf hi (good_pre hG hi).1 (good_pre hG hi).2).mono fun e w' ⟨he, hb, hg⟩ => ⟨he, h.step hb hg⟩
theorem Lay.store {w0 w : World} {b g W H n : Nat} {L : List CV} {c r : Array Value} (h : Lay w0 b g W H L n c r w) {i : Nat} (hi : i < W * H) (x : CV) : Lay w0 b g W H (L.set i x) n c r (setC w g i x) := h.step (h.buf.store hi x) (setC_grown _ _ _ _)

theorem mul_is (t : TypeId) {x y z : Int} (h : x * y = z) (hb : -9223372036854775808 ≤ z ∧ z ≤ 9223372036854775807) : binOp .mul t (.int .i64 x) (.int .i64 y) = pure (.int .i64 z) := by
  have h1 : binOp .mul t (.int .i64 x) (.int .i64 y) = pure (.int .i64 (IntKind.i64.wrap (x * y))) := by rfl
  rw [h1, h, IntWalk.i64_in _ hb]
/-- a style, out of a cell -/
theorem run_load3 {o : Oper} {ρ : Operand → Value} {w : World} {p : Operand} {n : Nat} {a b c d e : Value} {t : TypeId} (ho : o.op = .load 32 p) (hx : ρ p = .pointer (some ⟨n, 2, none⟩)) (hg : w.heap[n]? = some (.cells #[a, b, c, d, e] t (0, 0))) : (execOp ρ o).run Tryz.prog w = .ok (.value (.agg #[c, d, e])) w := by
  obtain ⟨⟨c0, c1, c2, c3, c4⟩, -⟩ := blk5 hg
  unfold execOp
  simp only [ho, hx]
  simp [go_sem, c2, c3, c4]
theorem at_int {W : Nat} {x y : Int} (hx : 0 ≤ x) (hy : 0 ≤ y) : ((y * (W : Int) + x).toNat : Int) = y * W + x := by
  have := Int.mul_nonneg hy (show (0 : Int) ≤ W by omega)
  omega

set_option maxRecDepth 100000 in
set_option maxHeartbeats 8000000 in
theorem lay_any (b g W H : Nat) (L : List CV) (x y : Int) (c : CV) (r : RT) (w : World) (h : Buf w b g W H L) (hG : Good W H L) (hc : c.wide = 1 ∨ c.wide = 2) (hr : r.wf) (hx : -4611686018427387904 ≤ x ∧ x ≤ 4611686018427387904)
    (hin : ∀ x y, hasT r x y = true → 0 ≤ x ∧ x < W ∧ 0 ≤ y ∧ y < H) :
    Calls Tryz.prog 38 #[.pointer (some ⟨b, 0, none⟩), .int .i64 x, .int .i64 y, c.val, r.val] w fun e w' => e = .returned (.tuple #[]) ∧ Buf w' b g W H (layT W L x y c (hasT r x y) (hasT r (x + 1) y)) ∧ w.grownBy w' (some g) := by
  obtain ⟨it, hinf, -, hsz, -⟩ := info_parts info_cell
  have HL := run.hid (fun w => has_any r x y w hr)
  have HR := run.hid (fun w => has_any r (x + 1) y w hr)
  have hinl := hin x y
  have hinr := hin (x + 1) y
  clear hin
  obtain ⟨l, hl⟩ : ∃ l, l = hasT r x y := ⟨_, rfl⟩
  obtain ⟨rr, hrr⟩ : ∃ q, q = hasT r (x + 1) y := ⟨_, rfl⟩
  rw [← hl] at HL hinl ⊢
  rw [← hrr] at HR hinr ⊢
  clear hl hrr hr
  obtain ⟨ct, cw, cf, cb, ca⟩ := c
  obtain ⟨rx, ry, rw', rh⟩ := r
  simp only at hc
  change Hid (∀ w, Calls _ _ #[.agg #[.int .i64 rx, .int .i64 ry, .int .i64 rw', .int .i64 rh], _, _] w _) at HL
  change Hid (∀ w, Calls _ _ #[.agg #[.int .i64 rx, .int .i64 ry, .int .i64 rw', .int .i64 rh], _, _] w _) at HR
  show Calls _ _ #[_, _, _, .agg #[.string ct, .int .i8 cw, .int .i32 cf, .int .i32 cb, .int .u8 ca], .agg #[.int .i64 rx, .int .i64 ry, .int .i64 rw', .int .i64 rh]] _ _
  obtain ⟨hblt, hglt⟩ := h.lt
  have hWb := h.wide
  have hHb := h.high
  have HS0 : Hid (Lay w b g W H L w.heap.size #[.string ct, .int .i8 cw, .int .i32 cf, .int .i32 cb, .int .u8 ca] #[.int .i64 rx, .int .i64 ry, .int .i64 rw', .int .i64 rh] ((w.alloc (.cells #[.string ct, .int .i8 cw, .int .i32 cf, .int .i32 cb, .int .u8 ca] 59)).alloc (.cells #[.int .i64 rx, .int .i64 ry, .int .i64 rw', .int .i64 rh] 34))) :=
    ⟨(h.alloc _).alloc _, heap_alloc2_old w _ _, heap_alloc2_new w _ _, run.grown_trans (World.grownBy_alloc w _ (some g)) (World.grownBy_alloc _ _ (some g)) (.inl rfl), by omega, by omega⟩
  have HGood := run.hid hG
  clear h hG
  by_cases h1 : cw = 1
  · subst h1
    have HT := run.hid (show layT W L x y ⟨ct, 1, ⟨cf, cb, ca⟩⟩ l rr = if l then setT L (y * W + x).toNat ⟨ct, 1, ⟨cf, cb, ca⟩⟩ else L from if_pos rfl)
    generalize layT W L x y ⟨ct, 1, ⟨cf, cb, ca⟩⟩ l rr = LT at *
    clear HR hinr
    go_enter Tryz.func38, Tryz.ntmps38
    go_wp2_with fail
    refine (HL.out _).mono ?_
    rintro e w3 ⟨rfl, hb⟩
    have HS3 := run.hid (HS0.out.below hb)
    clear hb HS0 HL
    cases l with
    | false =>
      go_wp2
      first | go_end0 | (refine bodyPost_ret (results_none rfl _ _ _) rfl ?_)
      exact ⟨rfl, by rw [HT.out]; exact HS3.out.buf, HS3.out.grown⟩
    | true =>
      obtain ⟨a1, a2, a3, a4⟩ := hinl rfl
      obtain ⟨hm, -⟩ := at_mod (W := W) (H := H) ⟨a1, a2⟩ ⟨a3, a4⟩
      have hz := at_int (W := W) a1 a3
      have hyW : y * (W : Int) ≤ 16777216 := by
        have := Int.mul_le_mul (show y ≤ 4096 by omega) (show (W : Int) ≤ 4096 by omega) (by omega) (by omega)
        omega
      have hyW0 : 0 ≤ y * (W : Int) := Int.mul_nonneg a3 (by omega)
      obtain ⟨q, hq⟩ : ∃ q : Int, q = y * (W : Int) := ⟨_, rfl⟩
      rw [← hq] at hm hz hyW hyW0 HT
      generalize hii : (q + x).toNat = i at *
      replace HT : Hid (LT = setT L i ⟨ct, 1, ⟨cf, cb, ca⟩⟩) := HT.out
      go_upto_region 3 with fail
      refine lx.region (fun D W' => ∃ L', Lay w b g W H L' w.heap.size #[.string ct, .int .i8 1, .int .i32 cf, .int .i32 cb, .int .u8 ca] #[.int .i64 rx, .int .i64 ry, .int .i64 rw', .int .i64 rh] W' ∧ (D 10 = false → L' = L) ∧ (D 10 = true → L' = LT)) (by kernel_rfl) (by kernel_rfl) (by kernel_rfl) ⟨L, HS3.out.drew, fun _ => rfl, fun h => by cases h⟩ ?_
      refine lx.begin 84 rfl ?_
      refine lx.o_pure (.pointer (some ⟨b, 0, none⟩)) (fun _ _ h => by first | rfl | kernel_rfl) ?_
      refine lx.o_pure (.int .i64 y) (fun _ _ h => by first | rfl | kernel_rfl) ?_
      refine lx.o_pure (.pointer (some ⟨b, 0, none⟩)) (fun _ _ h => by first | rfl | kernel_rfl) ?_
      refine lx.o_pure (.pointer (some ⟨b, 0, none⟩)) (fun _ _ h => by first | rfl | kernel_rfl) ?_
      refine lx.o_pure (.pointer (some ⟨b, 0, none⟩)) (fun _ _ h => by first | rfl | kernel_rfl) ?_
      refine lx.o_pure (.int .i64 W) (fun D W' hC => lx.run_load rfl rfl Tryz.underlying3 rfl hC.choose_spec.1.buf.h0) ?_
      refine lx.o_pure (.int .i64 q) (fun _ _ _ => lx.run_mul rfl rfl rfl hq.symm (by omega)) ?_
      refine lx.o_pure (.int .i64 x) (fun _ _ h => by first | rfl | kernel_rfl) ?_
      refine lx.o_pure (.int .i64 (i : Nat)) (fun _ _ _ => lx.run_add rfl rfl rfl (by omega) hz.symm) ?_
      refine lx.o_pure (CV.val ⟨ct, 1, ⟨cf, cb, ca⟩⟩) (fun D W' hC => run_loadrow rfl rfl hC.choose_spec.1.kc Tryz.underlying59 rfl (by kernel_rfl)) ?_
      refine lx.o_callE (.tuple #[]) 63 #[.pointer (some ⟨b, 0, none⟩), .int .i64 (i : Nat), CV.val ⟨ct, 1, ⟨cf, cb, ca⟩⟩] (fun _ _ _ => lx.run_fn rfl rfl rfl (enters_of Tryz.func63 (by kernel_rfl) rfl)) (fun D W' h0 hC => ?_) ?_
      · obtain ⟨L', hS, h1, h2⟩ := hC
        have h0' : D 10 = false := h0
        obtain rfl := h1 h0'
        exact (hS.set HGood.out hm _).mono fun e w' ⟨he, hS'⟩ => ⟨he, _, hS', (fun h => by cases h), fun _ => HT.out.symm⟩
      refine lx.o_end ?_
      simp only [lx.ov]
      rintro W' d hd ⟨L', hS, -, h2⟩
      obtain rfl := h2 (hd 10 (by decide))
      have HF := run.hid hS
      clear hS h2 hd HS3 HT
      go_simp
      go_wp2
      first | go_end0 | (refine bodyPost_ret (results_none rfl _ _ _) rfl ?_)
      exact ⟨rfl, HF.out.buf, HF.out.grown⟩
  · have hc2 : cw = 2 := by omega
    subst hc2
    clear h1 hc
    have HT := run.hid (show layT W L x y ⟨ct, 2, ⟨cf, cb, ca⟩⟩ l rr = (if l && rr then ((if rr then setT (if l then setT L (y * W + x).toNat (blankT ⟨cf, cb, ca⟩) else L) (y * W + x + 1).toNat (blankT ⟨cf, cb, ca⟩) else (if l then setT L (y * W + x).toNat (blankT ⟨cf, cb, ca⟩) else L)).set (y * W + x).toNat ⟨ct, 2, ⟨cf, cb, ca⟩⟩).set (y * W + x + 1).toNat ⟨⟨#[]⟩, 0, ⟨cf, cb, ca⟩⟩ else (if rr then setT (if l then setT L (y * W + x).toNat (blankT ⟨cf, cb, ca⟩) else L) (y * W + x + 1).toNat (blankT ⟨cf, cb, ca⟩) else (if l then setT L (y * W + x).toNat (blankT ⟨cf, cb, ca⟩) else L))) from if_neg (show ¬ (2 : Int) = 1 by decide))
    generalize layT W L x y ⟨ct, 2, ⟨cf, cb, ca⟩⟩ l rr = LT at *
    have HBL := run.hid (fun w => blank_any ⟨cf, cb, ca⟩ w)
    have HGB : Hid (∀ M, Good W H M → ∀ i, i < W * H → Good W H (setT M i (blankT ⟨cf, cb, ca⟩))) := fun M hM i hi => (wd_setT hM hi rfl).1
    obtain ⟨bx, hbx⟩ : ∃ bx, bx = blankT ⟨cf, cb, ca⟩ := ⟨_, rfl⟩
    rw [← hbx] at HBL HT HGB
    clear hbx
    have HST : Hid (∀ M W', Lay w b g W H M w.heap.size #[.string ct, .int .i8 2, .int .i32 cf, .int .i32 cb, .int .u8 ca] #[.int .i64 rx, .int .i64 ry, .int .i64 rw', .int .i64 rh] W' → W'.heap[w.heap.size]? = some (.cells #[.string ct, .int .i8 2, .int .i32 cf, .int .i32 cb, .int .u8 ca] 59 (0, 0))) := fun M W' h => h.kc
    have HSET : Hid (∀ M W', Lay w b g W H M w.heap.size #[.string ct, .int .i8 2, .int .i32 cf, .int .i32 cb, .int .u8 ca] #[.int .i64 rx, .int .i64 ry, .int .i64 rw', .int .i64 rh] W' → Good W H M → ∀ i, i < W * H → Calls Tryz.prog 63 #[.pointer (some ⟨b, 0, none⟩), .int .i64 (i : Nat), bx.val] W' fun e w' => e = .returned (.tuple #[]) ∧ Lay w b g W H (setT M i bx) w.heap.size #[.string ct, .int .i8 2, .int .i32 cf, .int .i32 cb, .int .u8 ca] #[.int .i64 rx, .int .i64 ry, .int .i64 rw', .int .i64 rh] w') := fun M W' h hM i hi => h.set hM hi bx
    obtain ⟨bt, bw, bf, bb, ba⟩ := bx
    change Hid (∀ w, Calls _ _ #[.agg #[.int .i32 cf, .int .i32 cb, .int .u8 ca]] w fun e w' => e = .returned (.agg #[.string bt, .int .i8 bw, .int .i32 bf, .int .i32 bb, .int .u8 ba]) ∧ _) at HBL
    change Hid (∀ M W', Lay w b g W H M w.heap.size #[.string ct, .int .i8 2, .int .i32 cf, .int .i32 cb, .int .u8 ca] #[.int .i64 rx, .int .i64 ry, .int .i64 rw', .int .i64 rh] W' → Good W H M → ∀ i, i < W * H → Calls _ _ #[_, .int .i64 (i : Nat), .agg #[.string bt, .int .i8 bw, .int .i32 bf, .int .i32 bb, .int .u8 ba]] W' fun e w' => e = _ ∧ Lay w b g W H (setT M i ⟨bt, bw, ⟨bf, bb, ba⟩⟩) w.heap.size #[.string ct, .int .i8 2, .int .i32 cf, .int .i32 cb, .int .u8 ca] #[.int .i64 rx, .int .i64 ry, .int .i64 rw', .int .i64 rh] w') at HSET
    go_enter Tryz.func38, Tryz.ntmps38
    go_upto_region 4 with fail
    go_cut [10, 11] (fun p q wx => p = .bool l ∧ q = .bool rr ∧ Lay w b g W H L w.heap.size #[.string ct, .int .i8 2, .int .i32 cf, .int .i32 cb, .int .u8 ca] #[.int .i64 rx, .int .i64 ry, .int .i64 rw', .int .i64 rh] wx)
    case first =>
      refine lx.region (fun D W' => Lay w b g W H L w.heap.size #[.string ct, .int .i8 2, .int .i32 cf, .int .i32 cb, .int .u8 ca] #[.int .i64 rx, .int .i64 ry, .int .i64 rw', .int .i64 rh] W') (by kernel_rfl) (by kernel_rfl) (by kernel_rfl) HS0.out.drew ?_
      refine lx.begin 84 rfl ?_
      refine lx.o_pure (.agg #[.int .i64 rx, .int .i64 ry, .int .i64 rw', .int .i64 rh]) (fun D W' hC => run_loadrow rfl rfl hC.kr Tryz.underlying34 rfl (by kernel_rfl)) ?_
      refine lx.o_pure (.int .i64 x) (fun _ _ h => by first | rfl | kernel_rfl) ?_
      refine lx.o_pure (.int .i64 y) (fun _ _ h => by first | rfl | kernel_rfl) ?_
      refine lx.o_call (.bool l) 62 #[.agg #[.int .i64 rx, .int .i64 ry, .int .i64 rw', .int .i64 rh], .int .i64 x, .int .i64 y] (fun _ _ _ => lx.run_fn rfl rfl rfl (enters_of Tryz.func62 (by kernel_rfl) rfl)) (fun D W' hC => (HL.out W').mono fun e w2 ⟨he, hw⟩ => ⟨he, hC.below hw⟩) ?_
      refine lx.o_pure (.agg #[.int .i64 rx, .int .i64 ry, .int .i64 rw', .int .i64 rh]) (fun D W' hC => run_loadrow rfl rfl hC.kr Tryz.underlying34 rfl (by kernel_rfl)) ?_
      refine lx.o_pure (.int .i64 x) (fun _ _ h => by first | rfl | kernel_rfl) ?_
      refine lx.o_pure (.int .i64 (x + 1)) (fun _ _ _ => lx.run_add rfl rfl rfl (by omega) rfl) ?_
      refine lx.o_pure (.int .i64 y) (fun _ _ h => by first | rfl | kernel_rfl) ?_
      refine lx.o_call (.bool rr) 62 #[.agg #[.int .i64 rx, .int .i64 ry, .int .i64 rw', .int .i64 rh], .int .i64 (x + 1), .int .i64 y] (fun _ _ _ => lx.run_fn rfl rfl rfl (enters_of Tryz.func62 (by kernel_rfl) rfl)) (fun D W' hC => (HR.out W').mono fun e w2 ⟨he, hw⟩ => ⟨he, hC.below hw⟩) ?_
      refine lx.o_pure (.bool l) (fun _ _ h => by first | rfl | kernel_rfl) ?_
      refine lx.o_pure (.bool rr) (fun _ _ h => by first | rfl | kernel_rfl) ?_
      refine lx.o_end ?_
      simp only [lx.ov]
      rintro W' d hd hS
      have HF := run.hid hS
      clear hS hd HS0 HT
      go_simp
      go_wp2
      go_meet
      case rel => exact ⟨rfl, rfl, HF.out⟩
    obtain ⟨rfl, rfl, hS⟩ := hcut
    have HS := run.hid hS
    clear hS HL HR HS0
    generalize wc = w4 at *
    have p0 := HS.out.buf.h0
    cases l with
    | false =>
      cases rr with
      | false =>
        clear hinl hinr
        replace HT : Hid (LT = L) := HT.out
        clear HSET HBL HST
        go_wp2
        first | go_end0 | (refine bodyPost_ret (results_none rfl _ _ _) rfl ?_)
        exact ⟨rfl, by rw [HT.out]; exact HS.out.buf, HS.out.grown⟩
      | true =>
        obtain ⟨a1, a2, a3, a4⟩ := hinr rfl
        obtain ⟨hm, -⟩ := at_mod (W := W) (H := H) ⟨a1, a2⟩ ⟨a3, a4⟩
        have hz := at_int (W := W) a1 a3
        rw [← Int.add_assoc] at hm hz
        have hyW : y * (W : Int) ≤ 16777216 := by
          have := Int.mul_le_mul (show y ≤ 4096 by omega) (show (W : Int) ≤ 4096 by omega) (by omega) (by omega)
          omega
        have hyW0 : 0 ≤ y * (W : Int) := Int.mul_nonneg a3 (by omega)
        obtain ⟨q, hq⟩ : ∃ q : Int, q = y * (W : Int) := ⟨_, rfl⟩
        rw [← hq] at hm hz hyW hyW0 HT
        have hmul := mul_is 3 hq.symm (by omega)
        have hxb : -1 ≤ x ∧ x ≤ 4096 := by omega
        generalize hii : (q + x + 1).toNat = i at *
        clear hq hii a1 a2 a3 a4 hinl hinr
        replace HT : Hid (LT = setT L i ⟨bt, bw, ⟨bf, bb, ba⟩⟩) := HT.out
        obtain ⟨⟨s0, s1, s2, s3, s4⟩, -⟩ := blk5 (HST.out _ _ HS.out)
        go_wp2_with fail
        refine (HBL.out _).mono ?_
        rintro e w5 ⟨rfl, hb⟩
        have HS' := run.hid (HS.out.below hb)
        clear hb HS s0 s1 s2 s3 s4
        have HC := run.hid (HSET.out _ _ HS'.out HGood.out i hm)
        rw [hz] at HC
        go_wp2_with fail
        refine HC.out.mono ?_
        rintro e w6 ⟨rfl, hS⟩
        have HS := run.hid hS
        clear hS HS' HC
        clear HSET HBL HST
        go_wp2
        first | go_end0 | (refine bodyPost_ret (results_none rfl _ _ _) rfl ?_)
        exact ⟨rfl, by rw [HT.out]; exact HS.out.buf, HS.out.grown⟩
    | true =>
      cases rr with
      | false =>
        obtain ⟨a1, a2, a3, a4⟩ := hinl rfl
        obtain ⟨hm, hmm⟩ := at_mod (W := W) (H := H) ⟨a1, a2⟩ ⟨a3, a4⟩
        have hz := at_int (W := W) a1 a3
        have hyW : y * (W : Int) ≤ 16777216 := by
          have := Int.mul_le_mul (show y ≤ 4096 by omega) (show (W : Int) ≤ 4096 by omega) (by omega) (by omega)
          omega
        have hyW0 : 0 ≤ y * (W : Int) := Int.mul_nonneg a3 (by omega)
        obtain ⟨q, hq⟩ : ∃ q : Int, q = y * (W : Int) := ⟨_, rfl⟩
        rw [← hq] at hm hmm hz hyW hyW0 HT
        have hmul := mul_is 3 hq.symm (by omega)
        have hxb : 0 ≤ x ∧ x ≤ 4096 := by omega
        generalize hii : (q + x).toNat = i at *
        clear hq hii hmm a1 a2 a3 a4 hinl hinr
        replace HT : Hid (LT = setT L i ⟨bt, bw, ⟨bf, bb, ba⟩⟩) := HT.out
        obtain ⟨⟨s0, s1, s2, s3, s4⟩, -⟩ := blk5 (HST.out _ _ HS.out)
        go_wp2_with fail
        refine (HBL.out _).mono ?_
        rintro e w5 ⟨rfl, hb⟩
        have HS' := run.hid (HS.out.below hb)
        clear hb HS s0 s1 s2 s3 s4
        have HC := run.hid (HSET.out _ _ HS'.out HGood.out i hm)
        rw [hz] at HC
        go_wp2_with fail
        refine HC.out.mono ?_
        rintro e w6 ⟨rfl, hS⟩
        have HS := run.hid hS
        clear hS HS' HC
        clear HSET HBL HST
        go_wp2
        first | go_end0 | (refine bodyPost_ret (results_none rfl _ _ _) rfl ?_)
        exact ⟨rfl, by rw [HT.out]; exact HS.out.buf, HS.out.grown⟩
      | true =>
        obtain ⟨a1, a2, a3, a4⟩ := hinl rfl
        obtain ⟨hm, hmm⟩ := at_mod (W := W) (H := H) ⟨a1, a2⟩ ⟨a3, a4⟩
        have hz := at_int (W := W) a1 a3
        have hyW : y * (W : Int) ≤ 16777216 := by
          have := Int.mul_le_mul (show y ≤ 4096 by omega) (show (W : Int) ≤ 4096 by omega) (by omega) (by omega)
          omega
        have hyW0 : 0 ≤ y * (W : Int) := Int.mul_nonneg a3 (by omega)
        obtain ⟨b1, b2, -, -⟩ := hinr rfl
        have hn := next_lt hm (show (y * (W : Int) + x).toNat % W + 1 < W by omega)
        have h11 : (y * (W : Int) + x + 1).toNat = (y * W + x).toNat + 1 := by omega
        rw [h11] at HT
        clear h11 b1 b2
        obtain ⟨q, hq⟩ : ∃ q : Int, q = y * (W : Int) := ⟨_, rfl⟩
        rw [← hq] at hm hmm hz hyW hyW0 HT hn
        have hmul := mul_is 3 hq.symm (by omega)
        have hxb : 0 ≤ x ∧ x ≤ 4096 := by omega
        generalize hii : (q + x).toNat = i at *
        clear hq hii hmm a1 a2 a3 a4 hinl hinr
        replace HT : Hid (LT = ((setT (setT L i ⟨bt, bw, ⟨bf, bb, ba⟩⟩) (i + 1) ⟨bt, bw, ⟨bf, bb, ba⟩⟩).set i ⟨ct, 2, ⟨cf, cb, ca⟩⟩).set (i + 1) ⟨⟨#[]⟩, 0, ⟨cf, cb, ca⟩⟩) := HT.out
        obtain ⟨⟨s0, s1, s2, s3, s4⟩, -⟩ := blk5 (HST.out _ _ HS.out)
        go_wp2_with fail
        refine (HBL.out _).mono ?_
        rintro e w5 ⟨rfl, hb⟩
        have HS' := run.hid (HS.out.below hb)
        clear hb HS s0 s1 s2 s3 s4
        have HC := run.hid (HSET.out _ _ HS'.out HGood.out i hm)
        rw [hz] at HC
        go_wp2_with fail
        refine HC.out.mono ?_
        rintro e w6 ⟨rfl, hS⟩
        have HS := run.hid hS
        clear hS HS' HC
        have hz1 : ((i + 1 : Nat) : Int) = q + x + 1 := by push_cast; omega
        obtain ⟨⟨s0, s1, s2, s3, s4⟩, -⟩ := blk5 (HST.out _ _ HS.out)
        go_wp2_with fail
        refine (HBL.out _).mono ?_
        rintro e w7 ⟨rfl, hb⟩
        have HS' := run.hid (HS.out.below hb)
        clear hb HS s0 s1 s2 s3 s4
        have HC := run.hid (HSET.out _ _ HS'.out (HGB.out _ HGood.out i hm) (i + 1) hn)
        rw [hz1] at HC
        go_wp2_with fail
        refine HC.out.mono ?_
        rintro e w8 ⟨rfl, hS⟩
        have HS := run.hid hS
        clear hS HS' HC
        go_upto_region 11 with fail
        go_cut [12] (fun p wx => p = .int .i64 (q + x) ∧ Lay w b g W H ((setT (setT L i ⟨bt, bw, ⟨bf, bb, ba⟩⟩) (i + 1) ⟨bt, bw, ⟨bf, bb, ba⟩⟩).set (i) ⟨ct, 2, ⟨cf, cb, ca⟩⟩) w.heap.size #[.string ct, .int .i8 2, .int .i32 cf, .int .i32 cb, .int .u8 ca] #[.int .i64 rx, .int .i64 ry, .int .i64 rw', .int .i64 rh] wx)
        case first =>
          refine lx.region (fun D W' => ∃ L', Lay w b g W H L' w.heap.size #[.string ct, .int .i8 2, .int .i32 cf, .int .i32 cb, .int .u8 ca] #[.int .i64 rx, .int .i64 ry, .int .i64 rw', .int .i64 rh] W' ∧ (D 7 = false → L' = setT (setT L i ⟨bt, bw, ⟨bf, bb, ba⟩⟩) (i + 1) ⟨bt, bw, ⟨bf, bb, ba⟩⟩) ∧ (D 7 = true → L' = (setT (setT L i ⟨bt, bw, ⟨bf, bb, ba⟩⟩) (i + 1) ⟨bt, bw, ⟨bf, bb, ba⟩⟩).set (i) ⟨ct, 2, ⟨cf, cb, ca⟩⟩)) (by kernel_rfl) (by kernel_rfl) (by kernel_rfl) ⟨_, HS.out.drew, fun _ => rfl, fun h => by cases h⟩ ?_
          refine lx.begin 84 rfl ?_
          refine lx.o_pure (.pointer (some ⟨b, 0, none⟩)) (fun _ _ h => by first | rfl | kernel_rfl) ?_
          refine lx.o_pure (.pointer (some ⟨b, 0, none⟩)) (fun _ _ h => by first | rfl | kernel_rfl) ?_
          refine lx.o_pure (.pointer (some ⟨b, 2, none⟩)) (fun _ _ h => by first | rfl | kernel_rfl) ?_
          refine lx.o_pure (.slice (some ⟨g, 0, none⟩) (W * H : Nat) (W * H : Nat)) (fun D W' hC => lx.run_load rfl rfl Tryz.underlying35 rfl hC.choose_spec.1.buf.h2) ?_
          refine lx.o_pure (.int .i64 (i : Nat)) (fun _ _ _ => by rw [hz]; rfl) ?_
          refine lx.o_pure (CV.val ⟨ct, 2, ⟨cf, cb, ca⟩⟩) (fun D W' hC => run_loadrow rfl rfl hC.choose_spec.1.kc Tryz.underlying59 rfl (by kernel_rfl)) ?_
          refine lx.o_pure (.pointer (some ⟨g, i * 5, none⟩)) (fun D W' hC => run_at5 rfl rfl rfl hm Tryz.underlying35 hinf hsz) ?_
          refine lx.o_put (fun D W' h0 hdep hC => ?_) ?_
          · obtain ⟨L', hS, h1, h2⟩ := hC
            have h0' : D 7 = false := h0
            obtain rfl := h1 h0'
            exact ⟨_, run_store5 hS.buf (k := i) hm rfl rfl rfl, _, hS.store hm _, (fun h => by cases h), fun _ => rfl⟩
          refine lx.o_end ?_
          simp only [lx.ov]
          rintro W' d hd ⟨L', hS, -, h2⟩
          obtain rfl := h2 (hd 7 (by decide))
          have HF := run.hid hS
          clear hS h2 hd HS HT
          go_simp
          go_wp2
          go_meet
          case rel => exact ⟨by first | rfl | rw [hz], HF.out⟩
        obtain ⟨rfl, hS⟩ := hcut
        replace HS := run.hid hS
        clear hS
        generalize wc = w9 at *
        go_upto_region 12 with fail
        refine lx.region (fun D W' => ∃ L', Lay w b g W H L' w.heap.size #[.string ct, .int .i8 2, .int .i32 cf, .int .i32 cb, .int .u8 ca] #[.int .i64 rx, .int .i64 ry, .int .i64 rw', .int .i64 rh] W' ∧ (D 10 = false → L' = (setT (setT L i ⟨bt, bw, ⟨bf, bb, ba⟩⟩) (i + 1) ⟨bt, bw, ⟨bf, bb, ba⟩⟩).set i ⟨ct, 2, ⟨cf, cb, ca⟩⟩) ∧ (D 10 = true → L' = ((setT (setT L i ⟨bt, bw, ⟨bf, bb, ba⟩⟩) (i + 1) ⟨bt, bw, ⟨bf, bb, ba⟩⟩).set i ⟨ct, 2, ⟨cf, cb, ca⟩⟩).set (i + 1) ⟨⟨#[]⟩, 0, ⟨cf, cb, ca⟩⟩)) (by kernel_rfl) (by kernel_rfl) (by kernel_rfl) ⟨_, HS.out.drew, fun _ => rfl, fun h => by cases h⟩ ?_
        refine lx.begin 84 rfl ?_
        refine lx.o_pure (.pointer (some ⟨b, 0, none⟩)) (fun _ _ h => by first | rfl | kernel_rfl) ?_
        refine lx.o_pure (.pointer (some ⟨b, 0, none⟩)) (fun _ _ h => by first | rfl | kernel_rfl) ?_
        refine lx.o_pure (.pointer (some ⟨b, 2, none⟩)) (fun _ _ h => by first | rfl | kernel_rfl) ?_
        refine lx.o_pure (.slice (some ⟨g, 0, none⟩) (W * H : Nat) (W * H : Nat)) (fun D W' hC => lx.run_load rfl rfl Tryz.underlying35 rfl hC.choose_spec.1.buf.h2) ?_
        refine lx.o_pure (.int .i64 (q + x)) (fun _ _ h => by first | rfl | kernel_rfl) ?_
        refine lx.o_pure (.int .i64 ((i + 1 : Nat) : Int)) (fun _ _ _ => lx.run_add rfl rfl rfl (by omega) (by push_cast; omega)) ?_
        refine lx.o_pure (.pointer (some ⟨w.heap.size, 2, none⟩)) (fun _ _ h => by first | rfl | kernel_rfl) ?_
        refine lx.o_pure (.agg #[.int .i32 cf, .int .i32 cb, .int .u8 ca]) (fun D W' hC => run_load3 rfl rfl hC.choose_spec.1.kc) ?_
        refine lx.o_pure (CV.val ⟨⟨#[]⟩, 0, ⟨cf, cb, ca⟩⟩) (fun _ _ h => by first | rfl | kernel_rfl) ?_
        refine lx.o_pure (.pointer (some ⟨g, (i + 1) * 5, none⟩)) (fun D W' hC => run_at5 rfl rfl rfl hn Tryz.underlying35 hinf hsz) ?_
        refine lx.o_put (fun D W' h0 hdep hC => ?_) ?_
        · obtain ⟨L', hS, h1, h2⟩ := hC
          have h0' : D 10 = false := h0
          obtain rfl := h1 h0'
          exact ⟨_, run_store5 hS.buf (k := i + 1) hn rfl rfl rfl, _, hS.store hn _, (fun h => by cases h), fun _ => rfl⟩
        refine lx.o_end ?_
        simp only [lx.ov]
        rintro W' d hd ⟨L', hS, -, h2⟩
        obtain rfl := h2 (hd 10 (by decide))
        have HF := run.hid hS
        clear hS h2 hd HS HSET HBL HST
        go_simp
        go_wp2
        first | go_end0 | (refine bodyPost_ret (results_none rfl _ _ _) rfl ?_)
        exact ⟨rfl, by rw [HT.out]; exact HF.out.buf, HF.out.grown⟩
end Go.Proofs.YtdgcfmfjgidbjaaGreat.cel
namespace Go.Proofs.YtdgcfmfjgidbjaaGreat.cel
open Go Go.RowKit Go.Proofs
set_option linter.unusedVariables false

def sizedOk (w h : Int) : Bool := decide (0 ≤ w ∧ w ≤ 4096 ∧ 0 ≤ h ∧ h ≤ 4096 ∧ w * h ≤ 1048576)

set_option maxHeartbeats 1000000 in
theorem sized_any (a c : Int) (w : World) : Calls Tryz.prog 32 #[.int .i64 a, .int .i64 c] w fun e w' => e = .returned (.bool (sizedOk a c)) ∧ w = w' := by
  by_cases h1 : 0 ≤ a
  · by_cases h2 : a ≤ 4096
    · by_cases h3 : 0 ≤ c
      · by_cases h4 : c ≤ 4096
        · have hs : sizedOk a c = decide (a * c ≤ 1048576) := by unfold sizedOk; simp [h1, h2, h3, h4]
          rw [hs]
          have hle := Int.mul_le_mul h2 h4 h3 (by omega)
          have h0 := Int.mul_nonneg h1 h3
          obtain ⟨q, hq⟩ : ∃ q, q = a * c := ⟨_, rfl⟩
          have hm := mul_is 3 hq.symm (by omega)
          rw [← hq]
          clear hs hle h0 hq
          go_enter Tryz.func32, Tryz.ntmps32
          go_wp2
          go_ret
          exact ⟨rfl, rfl⟩
        · have hs : sizedOk a c = false := by unfold sizedOk; simp; omega
          rw [hs]
          clear hs
          go_enter Tryz.func32, Tryz.ntmps32
          go_wp2
          go_ret
          exact ⟨rfl, rfl⟩
      · have hs : sizedOk a c = false := by unfold sizedOk; simp; omega
        rw [hs]
        clear hs
        go_enter Tryz.func32, Tryz.ntmps32
        go_wp2
        go_ret
        exact ⟨rfl, rfl⟩
    · have hs : sizedOk a c = false := by unfold sizedOk; simp; omega
      rw [hs]
      clear hs
      go_enter Tryz.func32, Tryz.ntmps32
      go_wp2
      go_ret
      exact ⟨rfl, rfl⟩
  · have hs : sizedOk a c = false := by unfold sizedOk; simp; omega
    rw [hs]
    clear hs
    go_enter Tryz.func32, Tryz.ntmps32
    go_wp2
    go_ret
    exact ⟨rfl, rfl⟩

theorem new_no (a c : Int) (w : World) (h : sizedOk a c = false) : Calls Tryz.prog 10 #[.int .i64 a, .int .i64 c] w fun e w' => e = .returned (.tuple #[.pointer none, .int .i64 5]) ∧ w = w' := by
  have HS := run.hid (sized_any a c w)
  rw [h] at HS
  clear h
  go_enter Tryz.func10, Tryz.ntmps10
  go_wp2_with fail
  refine HS.out.mono ?_
  rintro e w' ⟨rfl, rfl⟩
  go_wp2
  go_ret2
  exact ⟨rfl, rfl⟩

def b0 : CV := ⟨⟨#[32]⟩, 1, s0⟩
/-- the first k cells are blanks -/
def fillT (n k : Nat) : List CV := List.replicate k b0 ++ List.replicate (n - k) z0
theorem fill_length {n k : Nat} (h : k ≤ n) : (fillT n k).length = n := by unfold fillT; simp; omega
theorem fill_next {n k : Nat} (h : k < n) : (fillT n k).set k b0 = fillT n (k + 1) := by
  unfold fillT
  rw [List.set_append_right _ _ (by simp), List.length_replicate, Nat.sub_self, show n - k = (n - (k + 1)) + 1 by omega, List.replicate_succ, List.set_cons_zero, List.replicate_succ', List.append_assoc]
  rfl
theorem fill_good (W H : Nat) : Good W H (fillT (W * H) (W * H)) := by
  refine ⟨fill_length (Nat.le_refl _), fun i hi => .inl ?_⟩
  unfold wd fillT
  rw [Nat.sub_self, List.replicate_zero, List.append_nil]
  simp [List.getD_eq_getElem?_getD, hi, b0]

theorem buf_new (W H : Nat) (w : World) (h1 : W ≤ 4096) (h2 : H ≤ 4096) (h3 : W * H ≤ 1048576) :
    Buf ((w.alloc (.cells (madeCells #[.string ⟨#[]⟩, .int .i8 0, .int .i32 0, .int .i32 0, .int .u8 0] (W * H * 5)) 59)).alloc (.cells #[.int .i64 W, .int .i64 H, .slice (some ⟨w.heap.size, 0, none⟩) (W * H) (W * H)] 77)) (w.heap.size + 1) w.heap.size W H (fillT (W * H) 0) := by
  have k1 := heap_alloc2_old w (.cells (madeCells #[.string ⟨#[]⟩, .int .i8 0, .int .i32 0, .int .i32 0, .int .u8 0] (W * H * 5)) 59) (.cells #[.int .i64 W, .int .i64 H, .slice (some ⟨w.heap.size, 0, none⟩) (W * H) (W * H)] 77)
  have k2 := heap_alloc2_new w (.cells (madeCells #[.string ⟨#[]⟩, .int .i8 0, .int .i32 0, .int .i32 0, .int .u8 0] (W * H * 5)) 59) (.cells #[.int .i64 W, .int .i64 H, .slice (some ⟨w.heap.size, 0, none⟩) (W * H) (W * H)] 77)
  generalize (w.alloc (.cells (madeCells #[.string ⟨#[]⟩, .int .i8 0, .int .i32 0, .int .i32 0, .int .u8 0] (W * H * 5)) 59)).alloc (.cells #[.int .i64 W, .int .i64 H, .slice (some ⟨w.heap.size, 0, none⟩) (W * H) (W * H)] 77) = w2 at *
  refine ⟨blk_cell k2 0, blk_cell k2 1, blk_cell k2 2, ?_, ⟨_, _, k1⟩, fill_length (Nat.zero_le _), by omega, h1, h2, h3⟩
  intro k c hk
  have hk2 : k < W * H := by
    rcases Nat.lt_or_ge k (W * H) with h | h
    · exact h
    · rw [List.getElem?_eq_none (by rw [fill_length (Nat.zero_le _)]; exact h)] at hk; cases hk
  have hc : c = z0 := by
    unfold fillT at hk
    simp only [List.replicate_zero, List.nil_append, Nat.sub_zero] at hk
    rw [List.getElem?_replicate, if_pos hk2] at hk
    exact (Option.some.inj hk).symm
  subst hc
  have hm : ∀ j v, j < W * H * 5 → (#[Value.string ⟨#[]⟩, .int .i8 0, .int .i32 0, .int .i32 0, .int .u8 0] : Array Value)[j % 5]! = v → w2.cell? ⟨w.heap.size, j, none⟩ = some v := by
    intro j v hj hv
    rw [blk_cell k1 j]
    unfold madeCells
    rw [Array.getElem?_map, Array.getElem?_eq_getElem (by simpa using hj)]
    simp only [Array.getElem_range, Option.map_some]
    exact congrArg some hv
  refine ⟨hm _ _ (by omega) ?_, hm _ _ (by omega) ?_, hm _ _ (by omega) ?_, hm _ _ (by omega) ?_, hm _ _ (by omega) ?_⟩
  · rw [show k * 5 % 5 = 0 by omega]; rfl
  · rw [show (k * 5 + 1) % 5 = 1 by omega]; rfl
  · rw [show (k * 5 + 2) % 5 = 2 by omega]; rfl
  · rw [show (k * 5 + 3) % 5 = 3 by omega]; rfl
  · rw [show (k * 5 + 4) % 5 = 4 by omega]; rfl

set_option maxRecDepth 100000 in
set_option maxHeartbeats 4000000 in
theorem new_ok (W H : Nat) (w : World) (h1 : W ≤ 4096) (h2 : H ≤ 4096) (h3 : W * H ≤ 1048576) :
    Calls Tryz.prog 10 #[.int .i64 W, .int .i64 H] w fun e w' => e = .returned (.tuple #[.pointer (some ⟨w.heap.size + 1, 0, none⟩), .int .i64 0]) ∧ Buf w' (w.heap.size + 1) w.heap.size W H (fillT (W * H) (W * H)) ∧ Below w.heap.size w w' := by
  obtain ⟨it, hinf, hz0, hsz, hby⟩ := info_parts info_cell
  have HS := run.hid (sized_any W H w)
  have hcm := Int.natCast_mul W H
  rw [show sizedOk W H = true by unfold sizedOk; rw [← hcm]; simp; omega] at HS
  have hmk := run_make (P := Tryz.prog) w 35 59 it _ Tryz.underlying35 hinf hz0 .i64 .i64 ((W * H : Nat) : Int) ((W * H : Nat) : Int) (by omega) (Int.le_refl _) (by rw [hby]; omega) (by omega)
  rw [hsz, Int.toNat_natCast] at hmk
  change _ = Result.ok (Value.slice (some ⟨w.heap.size, 0, none⟩) (W * H) (W * H)) (w.alloc (.cells (madeCells #[.string ⟨#[]⟩, .int .i8 0, .int .i32 0, .int .i32 0, .int .u8 0] (W * H * 5)) 59)) at hmk
  have hmul := mul_is 3 hcm.symm (by omega)
  have HB := run.hid (buf_new W H w h1 h2 h3)
  have HBel := run.hid (run.below_two w (.cells (madeCells #[.string ⟨#[]⟩, .int .i8 0, .int .i32 0, .int .i32 0, .int .u8 0] (W * H * 5)) 59) (.cells #[.int .i64 W, .int .i64 H, .slice (some ⟨w.heap.size, 0, none⟩) (W * H) (W * H)] 77))
  have hn : W * H ≤ 1048576 := h3
  clear hcm
  obtain ⟨N, hN⟩ : ∃ N, N = W * H := ⟨_, rfl⟩
  rw [← hN] at hmk hmul HB HBel hn ⊢
  have HN := run.hid hN
  clear hN h3
  go_enter Tryz.func10, Tryz.ntmps10
  go_wp2_with fail
  refine HS.out.mono ?_
  rintro e w' ⟨rfl, rfl⟩
  go_wp2
  clear hmk hmul HS
  generalize (w.alloc (.cells (madeCells #[.string ⟨#[]⟩, .int .i8 0, .int .i32 0, .int .i32 0, .int .u8 0] (N * 5)) 59)).alloc (.cells #[.int .i64 W, .int .i64 H, .slice (some ⟨w.heap.size, 0, none⟩) N N] 77) = w2 at *
  go_loopw [7, 25] (fun iv kv wr => ∃ k : Nat, k ≤ N ∧ kv = .int .i64 k ∧ Hid (Buf wr (w.heap.size + 1) w.heap.size W H (fillT N k)) ∧ Hid (Below w.heap.size w wr)) (fun _ kv _ => N - (intOf kv).toNat)
  case atStart => exact ⟨0, Nat.zero_le _, rfl, HB, HBel⟩
  case round =>
    obtain ⟨k, hk, rfl, HBk, HBl⟩ := hrel
    have p2 := HBk.out.h2
    rw [← HN.out] at p2
    by_cases hlt : k < N
    · have hk2 : k < (fillT N k).length := by rw [fill_length hk]; exact hlt
      obtain ⟨c0, c1, c2, c3, c4⟩ := HBk.out.grid.at hk2
      have f0 := HBk.out.free (k * 5)
      have f1 := HBk.out.free (k * 5 + 1)
      have f2 := HBk.out.free (k * 5 + 2)
      have f3 := HBk.out.free (k * 5 + 3)
      have f4 := HBk.out.free (k * 5 + 4)
      have HBn := run.hid (HBk.out.store (by rw [← HN.out]; exact hlt) b0)
      rw [fill_next hlt] at HBn
      have HBln := run.hid (below5 (.string ⟨#[32]⟩) (.int .i8 1) (.int .i32 0) (.int .i32 0) (.int .u8 0) HBl.out (Nat.le_refl _))
      have HBln : Hid (Below w.heap.size w (setC wr w.heap.size k b0)) := (((((HBl.out.setCell (p := ⟨w.heap.size, k * 5, none⟩) (Nat.le_refl _) _).setCell (p := ⟨w.heap.size, k * 5 + 1, none⟩) (Nat.le_refl _) _).setCell (p := ⟨w.heap.size, k * 5 + 2, none⟩) (Nat.le_refl _) _).setCell (p := ⟨w.heap.size, k * 5 + 3, none⟩) (Nat.le_refl _) _).setCell (p := ⟨w.heap.size, k * 5 + 4, none⟩) (Nat.le_refl _) _)
      clear HBk HBl hk2
      go_wp2
      go_roundw
      case rel => exact ⟨k + 1, by omega, by go_num, HBn, HBln⟩
      case measure => simp [intOf]; omega
    · obtain rfl : k = N := by omega
      go_wp2
      go_ret2
      exact ⟨rfl, HBk.out, HBl.out⟩

set_option maxRecDepth 100000 in
set_option maxHeartbeats 1000000 in
theorem size_any (b g W H : Nat) (L : List CV) (w : World) (h : Buf w b g W H L) : Calls Tryz.prog 27 #[.pointer (some ⟨b, 0, none⟩)] w fun e w' => e = .returned (.agg #[.int .i64 W, .int .i64 H]) ∧ Below w.heap.size w w' := by
  have p0 := h.h0
  have p1 := h.h1
  have hlt := h.lt.1
  clear h
  go_enter Tryz.func27, Tryz.ntmps27
  go_upto_region 3 with fail
  refine wp_region_still_tail 9 (by kernel_rfl) (by kernel_rfl) ?_
  simp only [List.take_succ_cons, List.take_zero, List.drop_succ_cons, List.drop_zero]
  change wpStill _ _ (World.drew _) (fun a' => wpList _ _ _ _ a' (World.drew _)) _ _
  repeat still_step
  refine wpStill_nil ?_
  go_wp2
  refine bodyPost_ret (v := .agg #[.int .i64 W, .int .i64 H]) (results_cell_row rfl _ _ w.heap.size _ _ _ _ rfl (heap_alloc_new _ _) Tryz.underlying68 rfl (by kernel_rfl)) rfl ?_
  exact ⟨rfl, drewB (run.below_one w _)⟩
theorem _root_.Go.RowKit.Below.b4 {B : Nat} {w w' : World} {n : Nat} {o : Obj} (h : Below B w w') (hk : w.heap[n]? = some o ∧ n < B) : w'.heap[n]? = some o := (h.block n hk.2).trans hk.1
end Go.Proofs.YtdgcfmfjgidbjaaGreat.cel
