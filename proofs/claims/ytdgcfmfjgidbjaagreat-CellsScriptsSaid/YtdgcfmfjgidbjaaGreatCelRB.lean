/-
  The document's buffer: what it is; Break.
-/
import Derived.Test.YtdgcfmfjgidbjaaGreatCelHas
import Derived.Test.YtdgcfmfjgidbjaaGreatCelSa
import Derived.Test.YtdgcfmfjgidbjaaGreatCelRefB2
import Derived.Test.YtdgcfmfjgidbjaaGreatCelRefR
import Derived.Deep.RegionHeld3
namespace Go.Proofs.YtdgcfmfjgidbjaaGreat.cel
open Go Go.RowKit Go.Proofs
set_option linter.unusedVariables false
/-- the document's buffer: its box in block r, its cells in a row of its own -/
structure RB (w : World) (B r : Nat) (v : Value) (W H : Nat) (L : List CV) : Prop where
  box : w.heap[r]? = some (.cells #[.int .i64 W, .int .i64 H, v] 71 (0, 0))
  row : w.ownsRow B 59 5 v (W * H) (cells5 L)
  len : L.length = W * H
  ne : ∀ k, v.ownBlock = some k → r ≠ k
  wide : W ≤ 4096
  high : H ≤ 4096
  size : W * H ≤ 1048576
def Wf (L : List CV) : Prop := ∀ c ∈ L, c.sty.wf
theorem Wf.at {L : List CV} (h : Wf L) {i : Nat} (hi : i < L.length) : (L.getD i z0).sty.wf := by
  rw [List.getD_eq_getElem?_getD, List.getElem?_eq_getElem hi]
  exact h _ (List.getElem_mem _)
theorem Wf.set {L : List CV} (h : Wf L) (i : Nat) {c : CV} (hc : c.sty.wf) : Wf (L.set i c) := by
  intro d hd
  rcases List.mem_or_eq_of_mem_set hd with h1 | rfl
  · exact h d h1
  · exact hc
theorem over_wf (s : SV) : (overS s).wf := ⟨plainC_w32 _, plainC_w32 _⟩
theorem blank_wf (s : SV) : (blankT s).sty.wf := over_wf s
theorem Wf.broken {L : List CV} (h : Wf L) (i : Nat) : Wf (brokenT L i) := by
  unfold brokenT
  split
  · exact (h.set _ (blank_wf _)).set _ (blank_wf _)
  · exact h
theorem Wf.setT {L : List CV} (h : Wf L) (i : Nat) {c : CV} (hc : c.sty.wf) : Wf (setT L i c) := (h.broken i).set _ hc
theorem strong_wf {W H : Nat} {L : List CV} (h : Strong W H L) : Wf L := fun c hc => (strong_fit h c hc).2
theorem RB.lt {w : World} {B r W H : Nat} {v : Value} {L : List CV} (h : RB w B r v W H L) : r < w.heap.size := (Array.getElem?_eq_some_iff.1 h.box).1
theorem RB.below {w w' : World} {B r W H : Nat} {v : Value} {L : List CV} (h : RB w B r v W H L) (hb : Below w.heap.size w w') : RB w' B r v W H L :=
  ⟨(hb.block r h.lt).trans h.box, run.own_below h.row hb, h.len, h.ne, h.wide, h.high, h.size⟩
theorem RB.drew {w : World} {B r W H : Nat} {v : Value} {L : List CV} (h : RB w B r v W H L) : RB w.drew B r v W H L := h.below (Below.refl _ _).drew
theorem RB.slice {w : World} {B r W H : Nat} {v : Value} {L : List CV} (h : RB w B r v W H L) {i : Nat} (hi : i < W * H) : ∃ g cap, v = .slice (some ⟨g, 0, none⟩) (W * H : Nat) cap ∧ r ≠ g ∧ g < w.heap.size ∧ B ≤ g := by
  rcases h.row.2 with ⟨rfl, h0⟩ | ⟨g, cap, cur, rfl, hb, hg, -⟩
  · omega
  · exact ⟨g, cap, rfl, h.ne g rfl, (Array.getElem?_eq_some_iff.1 hg).1, hb⟩
theorem RB.store {w : World} {B r W H g cap k : Nat} {L : List CV} (h : RB w B r (.slice (some ⟨g, 0, none⟩) (W * H : Nat) cap) W H L) (hk : k < W * H) (c : CV) : RB (setC w g k c) B r (.slice (some ⟨g, 0, none⟩) (W * H : Nat) cap) W H (L.set k c) :=
  ⟨(setC_other_block (h.ne g rfl)).trans h.box, own_setC h.row (by rw [h.len]; exact hk) c, by rw [List.length_set]; exact h.len, h.ne, h.wide, h.high, h.size⟩
/-- a cell, as the walk meets it -/
theorem RB.cell {w : World} {B r W H g cap k : Nat} {L : List CV} (h : RB w B r (.slice (some ⟨g, 0, none⟩) (W * H : Nat) cap) W H L) (hk : k < W * H) : Cell5 w g (k * 5) (L.getD k z0) := (grid_own h.row).at (by rw [h.len]; exact hk)
theorem RB.free {w : World} {B r W H g cap : Nat} {L : List CV} (h : RB w B r (.slice (some ⟨g, 0, none⟩) (W * H : Nat) cap) W H L) (j : Nat) : w.frozen? ⟨g, j, none⟩ = false := h.row.frozenAt j
set_option maxRecDepth 100000 in
set_option maxHeartbeats 2000000 in
theorem rbreak_one (B r g cap W H : Nat) (L : List CV) (i : Nat) (w : World) (h : RB w B r (.slice (some ⟨g, 0, none⟩) (W * H : Nat) cap) W H L) (hi : i < W * H) (h1 : wd L i = 1) :
    Calls Tryz.prog 66 #[.pointer (some ⟨r, 0, none⟩), .int .i64 (i : Nat)] w fun e w' => e = .returned (.tuple #[]) ∧ w' = w := by
  obtain ⟨-, -, c2⟩ := blk3 h.box |>.1
  obtain ⟨-, k1, -⟩ := h.cell hi
  change w.cell? _ = some (.int .i8 (wd L i)) at k1
  rw [h1] at k1
  have hz := h.size
  clear h h1
  generalize W * H = N at *
  go_enter Tryz.func66, Tryz.ntmps66
  go_wp2
  first | go_end0 | (refine bodyPost_ret (results_none rfl _ _ _) rfl ?_)
  exact ⟨rfl, rfl⟩
section
variable {w : World} {B r g cap W H N k : Nat} {L : List CV}
theorem RB.cellN (h : RB w B r (.slice (some ⟨g, 0, none⟩) N cap) W H L) (hN : W * H = N) (hk : k < N) : Cell5 w g (k * 5) (L.getD k z0) := by subst hN; exact h.cell hk
theorem RB.freeN (h : RB w B r (.slice (some ⟨g, 0, none⟩) N cap) W H L) (hN : W * H = N) (j : Nat) : w.frozen? ⟨g, j, none⟩ = false := by subst hN; exact h.free j
theorem RB.storeN (h : RB w B r (.slice (some ⟨g, 0, none⟩) N cap) W H L) (hN : W * H = N) (hk : k < N) (c : CV) : RB (setC w g k c) B r (.slice (some ⟨g, 0, none⟩) N cap) W H (L.set k c) := by subst hN; exact h.store hk c
theorem RB.sliceN (h : RB w B r (.slice (some ⟨g, 0, none⟩) N cap) W H L) : r ≠ g ∧ g < w.heap.size ∧ B ≤ g := ⟨h.ne g rfl, (h.row.lt g rfl).2, (h.row.lt g rfl).1⟩
/-- all that a store of a cell asks for -/
theorem RB.roomN (h : RB w B r (.slice (some ⟨g, 0, none⟩) N cap) W H L) (hN : W * H = N) (hk : k < N) : ∃ x0 x1 x2 x3 x4, (w.cell? ⟨g, k * 5, none⟩ = some (.string x0) ∧ w.cell? ⟨g, k * 5 + 1, none⟩ = some (.int .i8 x1) ∧ w.cell? ⟨g, k * 5 + 2, none⟩ = some (.int .i32 x2) ∧ w.cell? ⟨g, k * 5 + 3, none⟩ = some (.int .i32 x3) ∧ w.cell? ⟨g, k * 5 + 4, none⟩ = some (.int .u8 x4)) ∧
    w.frozen? ⟨g, k * 5, none⟩ = false ∧ w.frozen? ⟨g, k * 5 + 1, none⟩ = false ∧ w.frozen? ⟨g, k * 5 + 2, none⟩ = false ∧ w.frozen? ⟨g, k * 5 + 3, none⟩ = false ∧ w.frozen? ⟨g, k * 5 + 4, none⟩ = false :=
  ⟨_, _, _, _, _, h.cellN hN hk, h.freeN hN _, h.freeN hN _, h.freeN hN _, h.freeN hN _, h.freeN hN _⟩
end
/-- the document's buffer, boxes beside it, and what has been written since w0: the row alone -/
structure RF (w0 : World) (B r g cap W H N : Nat) (ks : List (Nat × Array Value × TypeId)) (L : List CV) (w : World) : Prop where
  rb : RB w B r (.slice (some ⟨g, 0, none⟩) N cap) W H L
  hN : W * H = N
  bx : ∀ x ∈ ks, w.heap[x.1]? = some (.cells x.2.1 x.2.2 (0, 0)) ∧ x.1 ≠ g
  grown : w0.grownBy w (some g)
section
variable {w0 w w' : World} {B r g cap W H N k : Nat} {ks : List (Nat × Array Value × TypeId)} {L L' : List CV}
theorem RF.start (h : RB w B r (.slice (some ⟨g, 0, none⟩) N cap) W H L) (hN : W * H = N) : RF w B r g cap W H N [] L w := ⟨h, hN, (fun x hx => by cases hx), World.grownBy.refl w _⟩
theorem RF.below (h : RF w0 B r g cap W H N ks L w) (hb : Below w.heap.size w w') : RF w0 B r g cap W H N ks L w' :=
  ⟨h.rb.below hb, h.hN, fun x hx => ⟨(hb.block _ (Array.getElem?_eq_some_iff.1 (h.bx x hx).1).1).trans (h.bx x hx).1, (h.bx x hx).2⟩, run.grown_trans h.grown (grown_below hb g) (.inl rfl)⟩
theorem RF.drew (h : RF w0 B r g cap W H N ks L w) : RF w0 B r g cap W H N ks L w.drew := h.below (Below.refl _ _).drew
theorem RF.step (h : RF w0 B r g cap W H N ks L w) (hb : RB w' B r (.slice (some ⟨g, 0, none⟩) N cap) W H L') (hg : w.grownBy w' (some g)) : RF w0 B r g cap W H N ks L' w' :=
  ⟨hb, h.hN, fun x hx => ⟨(hg.block _ (Array.getElem?_eq_some_iff.1 (h.bx x hx).1).1 (by simp only [ne_eq, Option.some.injEq]; exact fun e => (h.bx x hx).2 (by omega))).trans (h.bx x hx).1, (h.bx x hx).2⟩, run.grown_trans h.grown hg (.inl rfl)⟩
theorem RF.store (h : RF w0 B r g cap W H N ks L w) (hk : k < N) (c : CV) : RF w0 B r g cap W H N ks (L.set k c) (setC w g k c) := h.step (h.rb.storeN h.hN hk c) (setC_grown _ _ _ _)
theorem RF.box (h : RF w0 B r g cap W H N ks L w) (cs : Array Value) (t : TypeId) : RF w0 B r g cap W H N ((w.heap.size, cs, t) :: ks) L (w.alloc (.cells cs t)) := by
  have h1 := h.below (run.below_one w (.cells cs t))
  refine ⟨h1.rb, h1.hN, fun x hx => ?_, h1.grown⟩
  rcases List.mem_cons.1 hx with rfl | hx
  · exact ⟨run.heap_new w _, Nat.ne_of_gt h.rb.sliceN.2.1⟩
  · exact h1.bx x hx
theorem RF.c0 (h : RF w0 B r g cap W H N ks L w) : w.cell? ⟨r, 0, none⟩ = some (.int .i64 W) := (blk3 h.rb.box).1.1
theorem RF.c1 (h : RF w0 B r g cap W H N ks L w) : w.cell? ⟨r, 1, none⟩ = some (.int .i64 H) := (blk3 h.rb.box).1.2.1
theorem RF.c2 (h : RF w0 B r g cap W H N ks L w) : w.cell? ⟨r, 2, none⟩ = some (.slice (some ⟨g, 0, none⟩) N cap) := (blk3 h.rb.box).1.2.2
theorem RF.row (h : RF w0 B r g cap W H N ks L w) : w.ownsRow B 59 5 (.slice (some ⟨g, 0, none⟩) N cap) N (cells5 L) := by
  have := h.rb.row
  rw [h.hN] at this
  exact this
theorem RF.len (h : RF w0 B r g cap W H N ks L w) : L.length = N := by rw [← h.hN]; exact h.rb.len
theorem RF.cell (h : RF w0 B r g cap W H N ks L w) (hk : k < N) : Cell5 w g (k * 5) (L.getD k z0) := h.rb.cellN h.hN hk
theorem RF.small (h : RF w0 B r g cap W H N ks L w) : N ≤ 1048576 := by rw [← h.hN]; exact h.rb.size
theorem RF.put (h : RF w0 B r g cap W H N ks L w) {o : Oper} {ρ : Operand → Value} {p q : Operand} {c : CV} (hk : k < N) (ho : o.op = .store 59 p q) (hx : ρ p = .pointer (some ⟨g, k * 5, none⟩)) (hq : ρ q = c.val) : (execOp ρ o).run Tryz.prog w = .ok .skip (setC w g k c) :=
  run_storeO h.row (by rw [h.len]; exact hk) ho hx hq
end
set_option maxRecDepth 100000 in
set_option maxHeartbeats 4000000 in
theorem rbreak_two (B r g cap W H N : Nat) (L : List CV) (i j : Nat) (w : World) (h : RB w B r (.slice (some ⟨g, 0, none⟩) N cap) W H L) (hN : W * H = N) (hL : Wf L) (hi : i + 1 < N) (h1 : wd L i = 2) (hj : (j = i) ∨ (j = i + 1 ∧ wd L j = 0)) :
    Calls Tryz.prog 66 #[.pointer (some ⟨r, 0, none⟩), .int .i64 (j : Nat)] w fun e w' => e = .returned (.tuple #[]) ∧ RB w' B r (.slice (some ⟨g, 0, none⟩) N cap) W H ((L.set i (blankT (L.getD i z0).sty)).set (i + 1) (blankT (L.getD i z0).sty)) ∧ w.grownBy w' (some g) := by
  obtain ⟨it, hinf, -, hsz, -⟩ := info_parts info_cell
  have HRF := run.hid (RF.start h hN)
  have c2 := HRF.out.c2
  obtain ⟨-, k1, k2, k3, k4⟩ := HRF.out.cell (show i < N by omega)
  change w.cell? _ = some (.int .i8 (wd L i)) at k1
  rw [h1] at k1
  have hz := HRF.out.small
  have hsw := hL.at (i := i) (by rw [HRF.out.len]; omega)
  have HBL := run.hid (fun w => refblank_any (L.getD i z0).sty hsw w)
  generalize (L.getD i z0).sty = sy at *
  generalize blankT sy = bl at *
  have HI := run.hid (show i < N by omega)
  have HI2 := run.hid hi
  have kj : j = i ∨ (j = i + 1 ∧ w.cell? ⟨g, j * 5 + 1, none⟩ = some (.int .i8 0)) := by
    rcases hj with hj | ⟨hj, hw⟩
    · exact .inl hj
    · obtain ⟨-, q1, -⟩ := HRF.out.cell (show j < N by omega)
      change w.cell? _ = some (.int .i8 (wd L j)) at q1
      rw [hw] at q1
      exact .inr ⟨hj, q1⟩
  clear h hL h1 hsw hj hN
  obtain ⟨bt, bw, ⟨bf, bb, ba⟩⟩ := bl
  obtain ⟨sf, sb, sa⟩ := sy
  change Hid (∀ w, Calls _ _ #[.agg #[.int .i32 sf, .int .i32 sb, .int .u8 sa]] _ fun e w' => e = .returned (.agg #[.string bt, .int .i8 bw, .int .i32 bf, .int .i32 bb, .int .u8 ba]) ∧ _) at HBL
  dsimp only at k2 k3 k4
  rcases kj with rfl | ⟨rfl, q1⟩
  · go_enter Tryz.func66, Tryz.ntmps66
    go_wp2_with fail
    refine (HBL.out _).mono ?_
    rintro e w2 ⟨rfl, hb2⟩
    go_upto_region 4 with fail
    have HR := run.hid ((HRF.out.below hb2).box #[.string bt, .int .i8 bw, .int .i32 bf, .int .i32 bb, .int .u8 ba] 59)
    generalize w2.alloc (.cells #[.string bt, .int .i8 bw, .int .i32 bf, .int .i32 bb, .int .u8 ba] 59) = w3 at *
    generalize w2.heap.size = n at *
    clear hb2 HBL c2 k1 k2 k3 k4 HRF
    refine lx.region (fun D X => ∃ L2, RF w B r g cap W H N [(n, #[.string bt, .int .i8 bw, .int .i32 bf, .int .i32 bb, .int .u8 ba], 59)] L2 X ∧ (D 7 = false → L2 = L) ∧ (D 7 = true → L2 = (L).set (j) (⟨bt, bw, ⟨bf, bb, ba⟩⟩))) (by kernel_rfl) (by kernel_rfl) (by kernel_rfl) ⟨L, HR.out.drew, fun _ => rfl, fun h => (by cases h)⟩ ?_
    refine lx.begin 49 rfl ?_
    refine lx.o_pure (.pointer (some ⟨r, 0, none⟩)) (fun _ _ h => by first | rfl | kernel_rfl) ?_
    refine lx.o_pure (.pointer (some ⟨r, 0, none⟩)) (fun _ _ h => by first | rfl | kernel_rfl) ?_
    refine lx.o_pure (.pointer (some ⟨r, 2, none⟩)) (fun _ _ h => by first | rfl | kernel_rfl) ?_
    refine lx.o_pure (.slice (some ⟨g, 0, none⟩) N cap) (fun D X hC => lx.run_load rfl rfl Tryz.underlying35 rfl hC.choose_spec.1.c2) ?_
    refine lx.o_pure (.int .i64 (j : Nat)) (fun _ _ h => by first | rfl | kernel_rfl) ?_
    refine lx.o_pure (.agg #[.string bt, .int .i8 bw, .int .i32 bf, .int .i32 bb, .int .u8 ba]) (fun D X hC => run_loadrow rfl rfl (hC.choose_spec.1.bx _ (.head _)).1 Tryz.underlying59 rfl (by kernel_rfl)) ?_
    refine lx.o_pure (.pointer (some ⟨g, (j) * 5, none⟩)) (fun D X hC => run_at5 rfl rfl rfl HI.out Tryz.underlying35 hinf hsz) ?_
    refine lx.o_put (fun D X h0 hdep hC => ?_) ?_
    · obtain ⟨L2, hS, h1, h2⟩ := hC
      obtain rfl := h1 h0
      exact ⟨_, hS.put HI.out rfl rfl rfl (c := ⟨bt, bw, ⟨bf, bb, ba⟩⟩), _, hS.store HI.out (⟨bt, bw, ⟨bf, bb, ba⟩⟩), (fun h => by cases h), fun _ => rfl⟩
    refine lx.o_end ?_
    simp only [lx.ov]
    rintro X d hd ⟨L2, hS, -, h2⟩
    obtain rfl := h2 (hd 7 (by decide))
    have HF := run.hid hS
    clear hS h2 hd
    go_simp
    go_upto_region 5 with fail
    clear HR
    refine lx.region (fun D X => ∃ L2, RF w B r g cap W H N [(n, #[.string bt, .int .i8 bw, .int .i32 bf, .int .i32 bb, .int .u8 ba], 59)] L2 X ∧ (D 8 = false → L2 = (L.set j ⟨bt, bw, ⟨bf, bb, ba⟩⟩)) ∧ (D 8 = true → L2 = ((L.set j ⟨bt, bw, ⟨bf, bb, ba⟩⟩)).set (j + 1) (⟨bt, bw, ⟨bf, bb, ba⟩⟩))) (by kernel_rfl) (by kernel_rfl) (by kernel_rfl) ⟨(L.set j ⟨bt, bw, ⟨bf, bb, ba⟩⟩), HF.out.drew, fun _ => rfl, fun h => (by cases h)⟩ ?_
    refine lx.begin 49 rfl ?_
    refine lx.o_pure (.pointer (some ⟨r, 0, none⟩)) (fun _ _ h => by first | rfl | kernel_rfl) ?_
    refine lx.o_pure (.pointer (some ⟨r, 0, none⟩)) (fun _ _ h => by first | rfl | kernel_rfl) ?_
    refine lx.o_pure (.pointer (some ⟨r, 2, none⟩)) (fun _ _ h => by first | rfl | kernel_rfl) ?_
    refine lx.o_pure (.slice (some ⟨g, 0, none⟩) N cap) (fun D X hC => lx.run_load rfl rfl Tryz.underlying35 rfl hC.choose_spec.1.c2) ?_
    refine lx.o_pure (.int .i64 (j : Nat)) (fun _ _ h => by first | rfl | kernel_rfl) ?_
    refine lx.o_pure (.int .i64 ((j + 1 : Nat) : Int)) (fun _ _ _ => lx.run_add rfl rfl rfl (by omega) (by push_cast; rfl)) ?_
    refine lx.o_pure (.agg #[.string bt, .int .i8 bw, .int .i32 bf, .int .i32 bb, .int .u8 ba]) (fun D X hC => run_loadrow rfl rfl (hC.choose_spec.1.bx _ (.head _)).1 Tryz.underlying59 rfl (by kernel_rfl)) ?_
    refine lx.o_pure (.pointer (some ⟨g, (j + 1) * 5, none⟩)) (fun D X hC => run_at5 rfl rfl rfl HI2.out Tryz.underlying35 hinf hsz) ?_
    refine lx.o_put (fun D X h0 hdep hC => ?_) ?_
    · obtain ⟨L2, hS, h1, h2⟩ := hC
      obtain rfl := h1 h0
      exact ⟨_, hS.put HI2.out rfl rfl rfl (c := ⟨bt, bw, ⟨bf, bb, ba⟩⟩), _, hS.store HI2.out (⟨bt, bw, ⟨bf, bb, ba⟩⟩), (fun h => by cases h), fun _ => rfl⟩
    refine lx.o_end ?_
    simp only [lx.ov]
    rintro X d hd ⟨L2, hS, -, h2⟩
    obtain rfl := h2 (hd 8 (by decide))
    have HG := run.hid hS
    clear hS h2 hd
    go_simp
    go_wp2
    first | go_end0 | (refine bodyPost_ret (results_none rfl _ _ _) rfl ?_)
    exact ⟨rfl, HG.out.rb, HG.out.grown⟩
  · go_enter Tryz.func66, Tryz.ntmps66
    go_wp2_with fail
    refine (HBL.out _).mono ?_
    rintro e w2 ⟨rfl, hb2⟩
    go_upto_region 4 with fail
    have HR := run.hid ((HRF.out.below hb2).box #[.string bt, .int .i8 bw, .int .i32 bf, .int .i32 bb, .int .u8 ba] 59)
    generalize w2.alloc (.cells #[.string bt, .int .i8 bw, .int .i32 bf, .int .i32 bb, .int .u8 ba] 59) = w3 at *
    generalize w2.heap.size = n at *
    clear hb2 HBL c2 k1 k2 k3 k4 HRF
    refine lx.region (fun D X => ∃ L2, RF w B r g cap W H N [(n, #[.string bt, .int .i8 bw, .int .i32 bf, .int .i32 bb, .int .u8 ba], 59)] L2 X ∧ (D 7 = false → L2 = L) ∧ (D 7 = true → L2 = (L).set (i) (⟨bt, bw, ⟨bf, bb, ba⟩⟩))) (by kernel_rfl) (by kernel_rfl) (by kernel_rfl) ⟨L, HR.out.drew, fun _ => rfl, fun h => (by cases h)⟩ ?_
    refine lx.begin 49 rfl ?_
    refine lx.o_pure (.pointer (some ⟨r, 0, none⟩)) (fun _ _ h => by first | rfl | kernel_rfl) ?_
    refine lx.o_pure (.pointer (some ⟨r, 0, none⟩)) (fun _ _ h => by first | rfl | kernel_rfl) ?_
    refine lx.o_pure (.pointer (some ⟨r, 2, none⟩)) (fun _ _ h => by first | rfl | kernel_rfl) ?_
    refine lx.o_pure (.slice (some ⟨g, 0, none⟩) N cap) (fun D X hC => lx.run_load rfl rfl Tryz.underlying35 rfl hC.choose_spec.1.c2) ?_
    refine lx.o_pure (.int .i64 (i : Nat)) (fun _ _ h => by first | rfl | kernel_rfl) ?_
    refine lx.o_pure (.agg #[.string bt, .int .i8 bw, .int .i32 bf, .int .i32 bb, .int .u8 ba]) (fun D X hC => run_loadrow rfl rfl (hC.choose_spec.1.bx _ (.head _)).1 Tryz.underlying59 rfl (by kernel_rfl)) ?_
    refine lx.o_pure (.pointer (some ⟨g, (i) * 5, none⟩)) (fun D X hC => run_at5 rfl rfl rfl HI.out Tryz.underlying35 hinf hsz) ?_
    refine lx.o_put (fun D X h0 hdep hC => ?_) ?_
    · obtain ⟨L2, hS, h1, h2⟩ := hC
      obtain rfl := h1 h0
      exact ⟨_, hS.put HI.out rfl rfl rfl (c := ⟨bt, bw, ⟨bf, bb, ba⟩⟩), _, hS.store HI.out (⟨bt, bw, ⟨bf, bb, ba⟩⟩), (fun h => by cases h), fun _ => rfl⟩
    refine lx.o_end ?_
    simp only [lx.ov]
    rintro X d hd ⟨L2, hS, -, h2⟩
    obtain rfl := h2 (hd 7 (by decide))
    have HF := run.hid hS
    clear hS h2 hd
    go_simp
    go_upto_region 5 with fail
    clear HR
    refine lx.region (fun D X => ∃ L2, RF w B r g cap W H N [(n, #[.string bt, .int .i8 bw, .int .i32 bf, .int .i32 bb, .int .u8 ba], 59)] L2 X ∧ (D 8 = false → L2 = (L.set i ⟨bt, bw, ⟨bf, bb, ba⟩⟩)) ∧ (D 8 = true → L2 = ((L.set i ⟨bt, bw, ⟨bf, bb, ba⟩⟩)).set (i + 1) (⟨bt, bw, ⟨bf, bb, ba⟩⟩))) (by kernel_rfl) (by kernel_rfl) (by kernel_rfl) ⟨(L.set i ⟨bt, bw, ⟨bf, bb, ba⟩⟩), HF.out.drew, fun _ => rfl, fun h => (by cases h)⟩ ?_
    refine lx.begin 49 rfl ?_
    refine lx.o_pure (.pointer (some ⟨r, 0, none⟩)) (fun _ _ h => by first | rfl | kernel_rfl) ?_
    refine lx.o_pure (.pointer (some ⟨r, 0, none⟩)) (fun _ _ h => by first | rfl | kernel_rfl) ?_
    refine lx.o_pure (.pointer (some ⟨r, 2, none⟩)) (fun _ _ h => by first | rfl | kernel_rfl) ?_
    refine lx.o_pure (.slice (some ⟨g, 0, none⟩) N cap) (fun D X hC => lx.run_load rfl rfl Tryz.underlying35 rfl hC.choose_spec.1.c2) ?_
    refine lx.o_pure (.int .i64 (i : Nat)) (fun _ _ h => by first | rfl | kernel_rfl) ?_
    refine lx.o_pure (.int .i64 ((i + 1 : Nat) : Int)) (fun _ _ _ => lx.run_add rfl rfl rfl (by omega) (by push_cast; rfl)) ?_
    refine lx.o_pure (.agg #[.string bt, .int .i8 bw, .int .i32 bf, .int .i32 bb, .int .u8 ba]) (fun D X hC => run_loadrow rfl rfl (hC.choose_spec.1.bx _ (.head _)).1 Tryz.underlying59 rfl (by kernel_rfl)) ?_
    refine lx.o_pure (.pointer (some ⟨g, (i + 1) * 5, none⟩)) (fun D X hC => run_at5 rfl rfl rfl HI2.out Tryz.underlying35 hinf hsz) ?_
    refine lx.o_put (fun D X h0 hdep hC => ?_) ?_
    · obtain ⟨L2, hS, h1, h2⟩ := hC
      obtain rfl := h1 h0
      exact ⟨_, hS.put HI2.out rfl rfl rfl (c := ⟨bt, bw, ⟨bf, bb, ba⟩⟩), _, hS.store HI2.out (⟨bt, bw, ⟨bf, bb, ba⟩⟩), (fun h => by cases h), fun _ => rfl⟩
    refine lx.o_end ?_
    simp only [lx.ov]
    rintro X d hd ⟨L2, hS, -, h2⟩
    obtain rfl := h2 (hd 8 (by decide))
    have HG := run.hid hS
    clear hS h2 hd
    go_simp
    go_wp2
    first | go_end0 | (refine bodyPost_ret (results_none rfl _ _ _) rfl ?_)
    exact ⟨rfl, HG.out.rb, HG.out.grown⟩
theorem rbreak_any (B r g cap W H N : Nat) (L : List CV) (i : Nat) (w : World) (h : RB w B r (.slice (some ⟨g, 0, none⟩) N cap) W H L) (hN : W * H = N) (hG : Good W H L) (hL : Wf L) (hi : i < N) :
    Calls Tryz.prog 66 #[.pointer (some ⟨r, 0, none⟩), .int .i64 (i : Nat)] w fun e w' => e = .returned (.tuple #[]) ∧ RB w' B r (.slice (some ⟨g, 0, none⟩) N cap) W H (brokenT L i) ∧ w.grownBy w' (some g) := by
  have hz := h.size
  rcases hG.2 i (by omega) with h1 | ⟨h1, h2, h3⟩ | ⟨h1, h2, h3⟩
  · have e : brokenT L i = L := by
      unfold brokenT
      change (L.getD i z0).wide = 1 at h1
      rw [if_neg (by omega)]
    rw [e]
    subst hN
    refine (rbreak_one B r g cap W H L i w h hi h1).mono ?_
    rintro e w' ⟨rfl, rfl⟩
    exact ⟨rfl, h, World.grownBy.refl _ _⟩
  · have e : brokenT L i = (L.set i (blankT (L.getD i z0).sty)).set (i + 1) (blankT (L.getD i z0).sty) := by
      unfold brokenT headOf
      change (L.getD i z0).wide = 2 at h1
      rw [if_pos (.inr h1), if_neg (by omega)]
    rw [e]
    exact rbreak_two B r g cap W H N L i i w h hN hL (by have := next_lt (show i < W * H by omega) h2; omega) h1 (.inl rfl)
  · have h0 : 0 < i := by
      rcases Nat.eq_zero_or_pos i with h0 | h0
      · subst h0; simp at h2
      · exact h0
    have e : brokenT L i = (L.set (i - 1) (blankT (L.getD (i - 1) z0).sty)).set (i - 1 + 1) (blankT (L.getD (i - 1) z0).sty) := by
      unfold brokenT headOf
      change (L.getD i z0).wide = 0 at h1
      rw [if_pos (.inl h1), if_pos h1]
    rw [e]
    exact rbreak_two B r g cap W H N L (i - 1) i w h hN hL (by omega) h3 (.inr ⟨by omega, h1⟩)
/-- what is let in: in the rectangle, and on the screen -/
theorem let_of (r : RT) (W H : Nat) (hW : W ≤ 4096) (hH : H ≤ 4096) {x y : Int} (hx : 0 ≤ x ∧ x < W) (hy : 0 ≤ y ∧ y < H) (h : hasT r x y = true) : hasT (letIn r W H) x y = true := by
  unfold hasT at h
  simp only [Bool.and_eq_true, decide_eq_true_eq] at h
  obtain ⟨hok, h1, h2, h3, h4⟩ := h
  unfold letIn meetT
  have hb : okB (endsT ⟨0, 0, W, H⟩) = true := by
    rw [ends_box hW hH]
    unfold okB
    rw [if_neg (by omega), if_neg (by omega)]
    simp only [Bool.and_eq_true, decide_eq_true_eq]
    omega
  rw [hok, hb, if_pos (by rfl), ends_box hW hH, if_neg (by omega), if_neg (by omega)]
  generalize endsT r = e at *
  obtain ⟨a0, b0, a1, b1⟩ := e
  unfold rectB cutB meetB
  dsimp only at *
  obtain ⟨x0, hx0⟩ : ∃ q, q = max (max a0 0) (-1048576) := ⟨_, rfl⟩
  obtain ⟨y0, hy0⟩ : ∃ q, q = max (max b0 0) (-1048576) := ⟨_, rfl⟩
  obtain ⟨x1, hx1⟩ : ∃ q, q = min (min a1 (W : Int)) 1048576 := ⟨_, rfl⟩
  obtain ⟨y1, hy1⟩ : ∃ q, q = min (min b1 (H : Int)) 1048576 := ⟨_, rfl⟩
  rw [← hx0, ← hy0, ← hx1, ← hy1, if_neg (by omega)]
  have e1 := endT_small (a := x0) (b := x1) (by omega) (by omega) (by omega)
  have e2 := endT_small (a := y0) (b := y1) (by omega) (by omega) (by omega)
  unfold hasT okB endsT
  simp only [e1, e2, Bool.and_eq_true, decide_eq_true_eq]
  omega
theorem let_no (r : RT) (W H : Nat) (hW : W ≤ 4096) (hH : H ≤ 4096) {x y : Int} (h : ¬ (0 ≤ x ∧ x < W ∧ 0 ≤ y ∧ y < H)) : hasT (letIn r W H) x y = false := by
  cases h1 : hasT (letIn r W H) x y
  · rfl
  · exact (h ((let_in r W H hW hH).2 x y h1)).elim
theorem let_eq (r : RT) (W H : Nat) (hW : W ≤ 4096) (hH : H ≤ 4096) {x y : Int} (hx : 0 ≤ x ∧ x < W) (hy : 0 ≤ y ∧ y < H) : hasT (letIn r W H) x y = hasT r x y := by
  cases h1 : hasT r x y
  · cases h2 : hasT (letIn r W H) x y
    · rfl
    · rw [let_has r W H hW hH h2] at h1; cases h1
  · exact let_of r W H hW hH hx hy h1
set_option maxRecDepth 100000 in
set_option maxHeartbeats 2000000 in
theorem rin_any (B r : Nat) (v : Value) (W H : Nat) (L : List CV) (x y : Int) (c : RT) (w : World) (h : RB w B r v W H L) (hc : c.wf) :
    Calls Tryz.prog 65 #[.pointer (some ⟨r, 0, none⟩), .int .i64 x, .int .i64 y, c.val] w fun e w' => e = .returned (.bool (hasT (letIn c W H) x y)) ∧ Below w.heap.size w w' := by
  have hW := h.wide
  have hH := h.high
  have HH := run.hid (fun w => refhas_any c x y w hc)
  have HE := run.hid (fun hx hy => @let_eq c W H hW hH x y hx hy)
  have HNO := run.hid (@let_no c W H hW hH x y)
  generalize hasT (letIn c W H) x y = ans at *
  generalize hasT c x y = has at *
  obtain ⟨a0, b0, c0, d0⟩ := c
  change Hid (∀ w, Calls _ _ #[.agg #[.int .i64 a0, .int .i64 b0, .int .i64 c0, .int .i64 d0], .int .i64 x, .int .i64 y] _ _) at HH
  show Calls _ _ #[_, _, _, .agg #[.int .i64 a0, .int .i64 b0, .int .i64 c0, .int .i64 d0]] _ _
  have hb1 := run.below_one w (.cells #[.int .i64 a0, .int .i64 b0, .int .i64 c0, .int .i64 d0] 34)
  obtain ⟨⟨k0, k1, -⟩, -⟩ := blk3 (h.below hb1).box
  clear h hc
  by_cases h1 : 0 ≤ x
  · by_cases h2 : x < W
    · by_cases h3 : 0 ≤ y
      · by_cases h4 : y < H
        · obtain rfl := HE.out ⟨h1, h2⟩ ⟨h3, h4⟩
          clear HE HNO
          go_enter Tryz.func65, Tryz.ntmps65
          go_wp2_with fail
          refine (HH.out _).mono ?_
          rintro e w2 ⟨rfl, hb2⟩
          have HB := run.hid (hb1.trans (hb2.mono hb1.size))
          clear hb1 hb2 HH
          go_wp2
          go_ret
          exact ⟨rfl, HB.out⟩
        · obtain rfl := HNO.out (by omega)
          clear HE HNO HH
          go_enter Tryz.func65, Tryz.ntmps65
          go_wp2
          go_ret
          exact ⟨rfl, hb1⟩
      · obtain rfl := HNO.out (by omega)
        clear HE HNO HH
        go_enter Tryz.func65, Tryz.ntmps65
        go_wp2
        go_ret
        exact ⟨rfl, hb1⟩
    · obtain rfl := HNO.out (by omega)
      clear HE HNO HH
      go_enter Tryz.func65, Tryz.ntmps65
      go_wp2
      go_ret
      exact ⟨rfl, hb1⟩
  · obtain rfl := HNO.out (by omega)
    clear HE HNO HH
    go_enter Tryz.func65, Tryz.ntmps65
    go_wp2
    go_ret
    exact ⟨rfl, hb1⟩
end Go.Proofs.YtdgcfmfjgidbjaaGreat.cel
