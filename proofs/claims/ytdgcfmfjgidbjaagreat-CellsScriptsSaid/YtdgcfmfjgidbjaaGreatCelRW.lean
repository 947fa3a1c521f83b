/-
  The document's buffer: a cell, or the head of a pair, written. (Printed by gen_celrw.py.)
-/
import Derived.Test.YtdgcfmfjgidbjaaGreatCelRB
namespace Go.Proofs.YtdgcfmfjgidbjaaGreat.cel
open Go Go.RowKit Go.Proofs
set_option linter.unusedVariables false
set_option maxRecDepth 100000 in
set_option maxHeartbeats 8000000 in
theorem rwrite_one (B r g cap W H N q : Nat) (L : List CV) (x y : Int) (ct : ByteArray) (cf cb ca : Int) (clip : RT) (w : World) (h : RB w B r (.slice (some ⟨g, 0, none⟩) N cap) W H L) (hN : W * H = N) (hG : Good W H L) (hL : Wf L) (hcs : (SV.mk cf cb ca).wf) (hclip : clip.wf)
    (hx : -4611686018427387904 ≤ x ∧ x ≤ 4611686018427387904) (hq : y * (W : Int) = (q : Nat)) (hqb : q ≤ 16777216) (i : Nat) (hi : i < N) (hp : (q : Int) + x = (i : Nat)) (hl : hasT (letIn clip W H) x y = true) :
    Calls Tryz.prog 41 #[.pointer (some ⟨r, 0, none⟩), .int .i64 x, .int .i64 y, .agg #[.string ct, .int .i8 1, .int .i32 cf, .int .i32 cb, .int .u8 ca], clip.val] w fun e w' => e = .returned (.tuple #[]) ∧ RB w' B r (.slice (some ⟨g, 0, none⟩) N cap) W H (setT L i ⟨ct, 1, ⟨cf, cb, ca⟩⟩) ∧ w.grownBy w' (some g) := by
  obtain ⟨it, hinf, -, hsz, -⟩ := info_parts info_cell
  have HIN := run.hid (fun (x : Int) (w : World) (h : RB w B r (.slice (some ⟨g, 0, none⟩) N cap) W H L) => rin_any B r _ W H L x y clip w h hclip)
  have HBR := run.hid (fun (w : World) (L : List CV) (i : Nat) (h : RB w B r (.slice (some ⟨g, 0, none⟩) N cap) W H L) hG hL hi => rbreak_any B r g cap W H N L i w h hN hG hL hi)
  have HBL := run.hid (fun w => refblank_any ⟨cf, cb, ca⟩ hcs w)
  have HIN1 := run.hid (HIN.out x)
  have HIN2 := run.hid (HIN.out (x + 1))
  rw [hl] at HIN1
  clear hl
  clear HIN
  generalize hbl : blankT ⟨cf, cb, ca⟩ = bl at *
  have hbw : bl.sty.wf := by rw [← hbl]; exact blank_wf _
  have hb1 : bl.wide = 1 := by rw [← hbl]; rfl
  change Hid (∀ w, Calls _ _ #[.agg #[.int .i32 cf, .int .i32 cb, .int .u8 ca]] _ _) at HBL
  obtain ⟨r1, r2, r3, r4⟩ := clip
  change Hid (∀ w, _ → Calls _ _ #[_, _, _, .agg #[.int .i64 r1, .int .i64 r2, .int .i64 r3, .int .i64 r4]] _ _) at HIN1
  change Hid (∀ w, _ → Calls _ _ #[_, _, _, .agg #[.int .i64 r1, .int .i64 r2, .int .i64 r3, .int .i64 r4]] _ _) at HIN2
  show Calls _ _ #[_, _, _, _, .agg #[.int .i64 r1, .int .i64 r2, .int .i64 r3, .int .i64 r4]] _ _
  have hR1 := ((RF.start h hN).box #[.string ct, .int .i8 1, .int .i32 cf, .int .i32 cb, .int .u8 ca] 59).box #[.int .i64 r1, .int .i64 r2, .int .i64 r3, .int .i64 r4] 34
  rw [show (w.alloc (.cells #[.string ct, .int .i8 1, .int .i32 cf, .int .i32 cb, .int .u8 ca] 59)).heap.size = w.heap.size + 1 by simp] at hR1
  have HQ := run.hid hq
  have HG := run.hid hG
  have HL := run.hid hL
  have HBW := run.hid hbw
  have HB1 := run.hid hb1
  clear hG hL hcs hclip hbl h hbw hb1
  go_enter Tryz.func41, Tryz.ntmps41
  go_upto_region 1 with fail
  generalize (w.alloc (.cells #[.string ct, .int .i8 1, .int .i32 cf, .int .i32 cb, .int .u8 ca] 59)).alloc (.cells #[.int .i64 r1, .int .i64 r2, .int .i64 r3, .int .i64 r4] 34) = w1 at *
  generalize w.heap.size + 1 = m at *
  generalize w.heap.size = n at *
  have HR1 := run.hid hR1
  clear hR1
  have HI := run.hid hi
  have HP := run.hid hp
  have ac0 := HR1.out.c0
  obtain ⟨⟨an0, an1, an2, an3, an4⟩, -⟩ := blk5 (HR1.out.bx _ (.tail _ (.head _))).1
  obtain ⟨⟨am0, am1, am2, am3⟩, -⟩ := blk4 (HR1.out.bx _ (.head _)).1
  go_wp2_with fail
  refine (HIN1.out _ HR1.out.rb).mono ?_
  rintro e w2 ⟨rfl, hb2⟩
  have HR2 := run.hid (HR1.out.below hb2)
  clear hb2 HR1
  clear ac0 an0 an1 an2 an3 an4 am0 am1 am2 am3
  have bc0 := HR2.out.c0
  obtain ⟨⟨bn0, bn1, bn2, bn3, bn4⟩, -⟩ := blk5 (HR2.out.bx _ (.tail _ (.head _))).1
  obtain ⟨⟨bm0, bm1, bm2, bm3⟩, -⟩ := blk4 (HR2.out.bx _ (.head _)).1
  go_wp2_with fail
  refine (HBR.out _ (L) i HR2.out.rb HG.out HL.out (by have := HI.out; omega)).mono ?_
  rintro e w3 ⟨rfl, hb2, hg2⟩
  have HR3 := run.hid (HR2.out.step hb2 hg2)
  clear hb2 hg2 HR2
  clear bc0 bn0 bn1 bn2 bn3 bn4 bm0 bm1 bm2 bm3
  go_upto_region 5 with fail
  refine lx.region (fun D X => ∃ L2, RF w B r g cap W H N [(m, #[.int .i64 r1, .int .i64 r2, .int .i64 r3, .int .i64 r4], 34), (n, #[.string ct, .int .i8 1, .int .i32 cf, .int .i32 cb, .int .u8 ca], 59)] L2 X ∧ (D 14 = false → L2 = brokenT L i) ∧ (D 14 = true → L2 = (brokenT L i).set (i) (⟨ct, 1, ⟨cf, cb, ca⟩⟩))) (by kernel_rfl) (by kernel_rfl) (by kernel_rfl) ⟨brokenT L i, HR3.out.drew, fun _ => rfl, fun h => (by cases h)⟩ ?_
  refine lx.begin 142 rfl ?_
  refine lx.o_pure (.pointer (some ⟨r, 0, none⟩)) (fun _ _ h => by first | rfl | kernel_rfl) ?_
  refine lx.o_pure (.pointer (some ⟨r, 0, none⟩)) (fun _ _ h => by first | rfl | kernel_rfl) ?_
  refine lx.o_pure (.pointer (some ⟨r, 2, none⟩)) (fun _ _ h => by first | rfl | kernel_rfl) ?_
  refine lx.o_pure (.slice (some ⟨g, 0, none⟩) N cap) (fun D X hC => lx.run_load rfl rfl Tryz.underlying35 rfl hC.choose_spec.1.c2) ?_
  refine lx.o_pure (.int .i64 y) (fun _ _ h => by first | rfl | kernel_rfl) ?_
  refine lx.o_pure (.pointer (some ⟨r, 0, none⟩)) (fun _ _ h => by first | rfl | kernel_rfl) ?_
  refine lx.o_pure (.pointer (some ⟨r, 0, none⟩)) (fun _ _ h => by first | rfl | kernel_rfl) ?_
  refine lx.o_pure (.pointer (some ⟨r, 0, none⟩)) (fun _ _ h => by first | rfl | kernel_rfl) ?_
  refine lx.o_pure (.int .i64 (W : Nat)) (fun D X hC => lx.run_load rfl rfl Tryz.underlying3 rfl hC.choose_spec.1.c0) ?_
  refine lx.o_pure (.int .i64 (q : Nat)) (fun _ _ _ => lx.run_mul rfl rfl rfl HQ.out (by omega)) ?_
  refine lx.o_pure (.int .i64 x) (fun _ _ h => by first | rfl | kernel_rfl) ?_
  refine lx.o_pure (.int .i64 (i : Nat)) (fun _ _ _ => lx.run_add rfl rfl rfl (by have := HP.out; omega) HP.out) ?_
  refine lx.o_pure (.agg #[.string ct, .int .i8 1, .int .i32 cf, .int .i32 cb, .int .u8 ca]) (fun D X hC => run_loadrow rfl rfl (hC.choose_spec.1.bx _ (.tail _ (.head _))).1 Tryz.underlying59 rfl (by kernel_rfl)) ?_
  refine lx.o_pure (.pointer (some ⟨g, (i) * 5, none⟩)) (fun D X hC => run_at5 rfl rfl rfl HI.out Tryz.underlying35 hinf hsz) ?_
  refine lx.o_put (fun D X h0 hdep hC => ?_) ?_
  · obtain ⟨L2, hS, h1, h2⟩ := hC
    obtain rfl := h1 h0
    exact ⟨_, hS.put HI.out rfl rfl rfl (c := ⟨ct, 1, ⟨cf, cb, ca⟩⟩), _, hS.store HI.out (⟨ct, 1, ⟨cf, cb, ca⟩⟩), (fun h => by cases h), fun _ => rfl⟩
  refine lx.o_end ?_
  simp only [lx.ov]
  rintro X d hd ⟨L2, hS, -, h2⟩
  obtain rfl := h2 (hd 14 (by decide))
  have HR4 := run.hid hS
  clear hS h2 hd
  go_simp
  go_wp2
  first | go_end0 | (refine bodyPost_ret (results_none rfl _ _ _) rfl ?_)
  exact ⟨rfl, HR4.out.rb, HR4.out.grown⟩
set_option maxRecDepth 100000 in
set_option maxHeartbeats 8000000 in
theorem rwrite_tf (B r g cap W H N q : Nat) (L : List CV) (x y : Int) (ct : ByteArray) (cf cb ca : Int) (clip : RT) (w : World) (h : RB w B r (.slice (some ⟨g, 0, none⟩) N cap) W H L) (hN : W * H = N) (hG : Good W H L) (hL : Wf L) (hcs : (SV.mk cf cb ca).wf) (hclip : clip.wf)
    (hx : -4611686018427387904 ≤ x ∧ x ≤ 4611686018427387904) (hq : y * (W : Int) = (q : Nat)) (hqb : q ≤ 16777216) (i : Nat) (hi : i < N) (hp : (q : Int) + x = (i : Nat)) (hl : hasT (letIn clip W H) x y = true) (hr : hasT (letIn clip W H) (x + 1) y = false) :
    Calls Tryz.prog 41 #[.pointer (some ⟨r, 0, none⟩), .int .i64 x, .int .i64 y, .agg #[.string ct, .int .i8 2, .int .i32 cf, .int .i32 cb, .int .u8 ca], clip.val] w fun e w' => e = .returned (.tuple #[]) ∧ RB w' B r (.slice (some ⟨g, 0, none⟩) N cap) W H (setT L i (blankT ⟨cf, cb, ca⟩)) ∧ w.grownBy w' (some g) := by
  obtain ⟨it, hinf, -, hsz, -⟩ := info_parts info_cell
  have HIN := run.hid (fun (x : Int) (w : World) (h : RB w B r (.slice (some ⟨g, 0, none⟩) N cap) W H L) => rin_any B r _ W H L x y clip w h hclip)
  have HBR := run.hid (fun (w : World) (L : List CV) (i : Nat) (h : RB w B r (.slice (some ⟨g, 0, none⟩) N cap) W H L) hG hL hi => rbreak_any B r g cap W H N L i w h hN hG hL hi)
  have HBL := run.hid (fun w => refblank_any ⟨cf, cb, ca⟩ hcs w)
  have HIN1 := run.hid (HIN.out x)
  have HIN2 := run.hid (HIN.out (x + 1))
  rw [hl] at HIN1
  rw [hr] at HIN2
  clear hl hr
  clear HIN
  generalize hbl : blankT ⟨cf, cb, ca⟩ = bl at *
  have hbw : bl.sty.wf := by rw [← hbl]; exact blank_wf _
  have hb1 : bl.wide = 1 := by rw [← hbl]; rfl
  change Hid (∀ w, Calls _ _ #[.agg #[.int .i32 cf, .int .i32 cb, .int .u8 ca]] _ _) at HBL
  obtain ⟨r1, r2, r3, r4⟩ := clip
  change Hid (∀ w, _ → Calls _ _ #[_, _, _, .agg #[.int .i64 r1, .int .i64 r2, .int .i64 r3, .int .i64 r4]] _ _) at HIN1
  change Hid (∀ w, _ → Calls _ _ #[_, _, _, .agg #[.int .i64 r1, .int .i64 r2, .int .i64 r3, .int .i64 r4]] _ _) at HIN2
  show Calls _ _ #[_, _, _, _, .agg #[.int .i64 r1, .int .i64 r2, .int .i64 r3, .int .i64 r4]] _ _
  have hR1 := ((RF.start h hN).box #[.string ct, .int .i8 2, .int .i32 cf, .int .i32 cb, .int .u8 ca] 59).box #[.int .i64 r1, .int .i64 r2, .int .i64 r3, .int .i64 r4] 34
  rw [show (w.alloc (.cells #[.string ct, .int .i8 2, .int .i32 cf, .int .i32 cb, .int .u8 ca] 59)).heap.size = w.heap.size + 1 by simp] at hR1
  have HQ := run.hid hq
  have HG := run.hid hG
  have HL := run.hid hL
  have HBW := run.hid hbw
  have HB1 := run.hid hb1
  clear hG hL hcs hclip hbl h hbw hb1
  go_enter Tryz.func41, Tryz.ntmps41
  go_upto_region 1 with fail
  generalize (w.alloc (.cells #[.string ct, .int .i8 2, .int .i32 cf, .int .i32 cb, .int .u8 ca] 59)).alloc (.cells #[.int .i64 r1, .int .i64 r2, .int .i64 r3, .int .i64 r4] 34) = w1 at *
  generalize w.heap.size + 1 = m at *
  generalize w.heap.size = n at *
  have HR1 := run.hid hR1
  clear hR1
  have HP := run.hid hp
  have HI := run.hid hi
  have ac0 := HR1.out.c0
  obtain ⟨⟨an0, an1, an2, an3, an4⟩, -⟩ := blk5 (HR1.out.bx _ (.tail _ (.head _))).1
  obtain ⟨⟨am0, am1, am2, am3⟩, -⟩ := blk4 (HR1.out.bx _ (.head _)).1
  go_wp2_with fail
  refine (HIN1.out _ HR1.out.rb).mono ?_
  rintro e w2 ⟨rfl, hb2⟩
  have HR2 := run.hid (HR1.out.below hb2)
  clear hb2 HR1
  clear ac0 an0 an1 an2 an3 an4 am0 am1 am2 am3
  have bc0 := HR2.out.c0
  obtain ⟨⟨bn0, bn1, bn2, bn3, bn4⟩, -⟩ := blk5 (HR2.out.bx _ (.tail _ (.head _))).1
  obtain ⟨⟨bm0, bm1, bm2, bm3⟩, -⟩ := blk4 (HR2.out.bx _ (.head _)).1
  go_wp2_with fail
  refine (HIN2.out _ HR2.out.rb).mono ?_
  rintro e w3 ⟨rfl, hb2⟩
  have HR3 := run.hid (HR2.out.below hb2)
  clear hb2 HR2
  clear bc0 bn0 bn1 bn2 bn3 bn4 bm0 bm1 bm2 bm3
  have cc0 := HR3.out.c0
  obtain ⟨⟨cn0, cn1, cn2, cn3, cn4⟩, -⟩ := blk5 (HR3.out.bx _ (.tail _ (.head _))).1
  obtain ⟨⟨cm0, cm1, cm2, cm3⟩, -⟩ := blk4 (HR3.out.bx _ (.head _)).1
  go_wp2_with fail
  refine (HBR.out _ (L) i HR3.out.rb HG.out HL.out (by have := HI.out; omega)).mono ?_
  rintro e w4 ⟨rfl, hb2, hg2⟩
  have HR4 := run.hid (HR3.out.step hb2 hg2)
  clear hb2 hg2 HR3
  clear cc0 cn0 cn1 cn2 cn3 cn4 cm0 cm1 cm2 cm3
  go_upto_region 9 with fail
  refine lx.region (fun D X => ∃ L2, RF w B r g cap W H N [(m, #[.int .i64 r1, .int .i64 r2, .int .i64 r3, .int .i64 r4], 34), (n, #[.string ct, .int .i8 2, .int .i32 cf, .int .i32 cb, .int .u8 ca], 59)] L2 X ∧ (D 16 = false → L2 = brokenT L i) ∧ (D 16 = true → L2 = (brokenT L i).set (i) (bl))) (by kernel_rfl) (by kernel_rfl) (by kernel_rfl) ⟨brokenT L i, HR4.out.drew, fun _ => rfl, fun h => (by cases h)⟩ ?_
  refine lx.begin 142 rfl ?_
  refine lx.o_pure (.pointer (some ⟨r, 0, none⟩)) (fun _ _ h => by first | rfl | kernel_rfl) ?_
  refine lx.o_pure (.pointer (some ⟨r, 0, none⟩)) (fun _ _ h => by first | rfl | kernel_rfl) ?_
  refine lx.o_pure (.pointer (some ⟨r, 2, none⟩)) (fun _ _ h => by first | rfl | kernel_rfl) ?_
  refine lx.o_pure (.slice (some ⟨g, 0, none⟩) N cap) (fun D X hC => lx.run_load rfl rfl Tryz.underlying35 rfl hC.choose_spec.1.c2) ?_
  refine lx.o_pure (.int .i64 y) (fun _ _ h => by first | rfl | kernel_rfl) ?_
  refine lx.o_pure (.pointer (some ⟨r, 0, none⟩)) (fun _ _ h => by first | rfl | kernel_rfl) ?_
  refine lx.o_pure (.pointer (some ⟨r, 0, none⟩)) (fun _ _ h => by first | rfl | kernel_rfl) ?_
  refine lx.o_pure (.pointer (some ⟨r, 0, none⟩)) (fun _ _ h => by first | rfl | kernel_rfl) ?_
  refine lx.o_pure (.int .i64 (W : Nat)) (fun D X hC => lx.run_load rfl rfl Tryz.underlying3 rfl hC.choose_spec.1.c0) ?_
  refine lx.o_pure (.int .i64 (q : Nat)) (fun _ _ _ => lx.run_mul rfl rfl rfl HQ.out (by omega)) ?_
  refine lx.o_pure (.int .i64 x) (fun _ _ h => by first | rfl | kernel_rfl) ?_
  refine lx.o_pure (.int .i64 (i : Nat)) (fun _ _ _ => lx.run_add rfl rfl rfl (by have := HP.out; omega) HP.out) ?_
  refine lx.o_pure (.pointer (some ⟨n, 2, none⟩)) (fun _ _ h => by first | rfl | kernel_rfl) ?_
  refine lx.o_pure (.agg #[.int .i32 cf, .int .i32 cb, .int .u8 ca]) (fun D X hC => run_load3 rfl rfl (hC.choose_spec.1.bx _ (.tail _ (.head _))).1) ?_
  refine lx.o_call bl.val 34 #[.agg #[.int .i32 cf, .int .i32 cb, .int .u8 ca]] (fun _ _ _ => lx.run_fn rfl rfl rfl (enters_of Tryz.func34 (by kernel_rfl) rfl)) (fun D X hC => (HBL.out X).mono fun e w2 ⟨he, hw⟩ => ⟨he, by obtain ⟨L2, h1, h2⟩ := hC; exact ⟨L2, h1.below hw, h2⟩⟩) ?_
  refine lx.o_pure (.pointer (some ⟨g, (i) * 5, none⟩)) (fun D X hC => run_at5 rfl rfl rfl HI.out Tryz.underlying35 hinf hsz) ?_
  refine lx.o_put (fun D X h0 hdep hC => ?_) ?_
  · obtain ⟨L2, hS, h1, h2⟩ := hC
    obtain rfl := h1 h0
    exact ⟨_, hS.put HI.out rfl rfl rfl (c := bl), _, hS.store HI.out (bl), (fun h => by cases h), fun _ => rfl⟩
  refine lx.o_end ?_
  simp only [lx.ov]
  rintro X d hd ⟨L2, hS, -, h2⟩
  obtain rfl := h2 (hd 16 (by decide))
  have HR5 := run.hid hS
  clear hS h2 hd
  go_simp
  clear HR4
  have HG5 := run.hid (wd_setT HG.out (i := i) (by have := HI.out; omega) HB1.out).1
  have HL5 := run.hid (HL.out.setT i HBW.out)
  change Hid (RF _ _ _ _ _ _ _ _ _ (setT L i bl) _) at HR5
  have dc0 := HR5.out.c0
  obtain ⟨⟨dn0, dn1, dn2, dn3, dn4⟩, -⟩ := blk5 (HR5.out.bx _ (.tail _ (.head _))).1
  obtain ⟨⟨dm0, dm1, dm2, dm3⟩, -⟩ := blk4 (HR5.out.bx _ (.head _)).1
  go_wp2
  first | go_end0 | (refine bodyPost_ret (results_none rfl _ _ _) rfl ?_)
  exact ⟨rfl, HR5.out.rb, HR5.out.grown⟩
set_option maxRecDepth 100000 in
set_option maxHeartbeats 8000000 in
theorem rwrite_ft (B r g cap W H N q : Nat) (L : List CV) (x y : Int) (ct : ByteArray) (cf cb ca : Int) (clip : RT) (w : World) (h : RB w B r (.slice (some ⟨g, 0, none⟩) N cap) W H L) (hN : W * H = N) (hG : Good W H L) (hL : Wf L) (hcs : (SV.mk cf cb ca).wf) (hclip : clip.wf)
    (hx : -4611686018427387904 ≤ x ∧ x ≤ 4611686018427387904) (hq : y * (W : Int) = (q : Nat)) (hqb : q ≤ 16777216) (p : Int) (hp : (q : Int) + x = p) (j : Nat) (hj2 : j < N) (hj : p + 1 = (j : Nat)) (hl : hasT (letIn clip W H) x y = false) (hr : hasT (letIn clip W H) (x + 1) y = true) :
    Calls Tryz.prog 41 #[.pointer (some ⟨r, 0, none⟩), .int .i64 x, .int .i64 y, .agg #[.string ct, .int .i8 2, .int .i32 cf, .int .i32 cb, .int .u8 ca], clip.val] w fun e w' => e = .returned (.tuple #[]) ∧ RB w' B r (.slice (some ⟨g, 0, none⟩) N cap) W H (setT (L) j (blankT ⟨cf, cb, ca⟩)) ∧ w.grownBy w' (some g) := by
  obtain ⟨it, hinf, -, hsz, -⟩ := info_parts info_cell
  have HIN := run.hid (fun (x : Int) (w : World) (h : RB w B r (.slice (some ⟨g, 0, none⟩) N cap) W H L) => rin_any B r _ W H L x y clip w h hclip)
  have HBR := run.hid (fun (w : World) (L : List CV) (i : Nat) (h : RB w B r (.slice (some ⟨g, 0, none⟩) N cap) W H L) hG hL hi => rbreak_any B r g cap W H N L i w h hN hG hL hi)
  have HBL := run.hid (fun w => refblank_any ⟨cf, cb, ca⟩ hcs w)
  have HIN1 := run.hid (HIN.out x)
  have HIN2 := run.hid (HIN.out (x + 1))
  rw [hl] at HIN1
  rw [hr] at HIN2
  clear hl hr
  clear HIN
  generalize hbl : blankT ⟨cf, cb, ca⟩ = bl at *
  have hbw : bl.sty.wf := by rw [← hbl]; exact blank_wf _
  have hb1 : bl.wide = 1 := by rw [← hbl]; rfl
  change Hid (∀ w, Calls _ _ #[.agg #[.int .i32 cf, .int .i32 cb, .int .u8 ca]] _ _) at HBL
  obtain ⟨r1, r2, r3, r4⟩ := clip
  change Hid (∀ w, _ → Calls _ _ #[_, _, _, .agg #[.int .i64 r1, .int .i64 r2, .int .i64 r3, .int .i64 r4]] _ _) at HIN1
  change Hid (∀ w, _ → Calls _ _ #[_, _, _, .agg #[.int .i64 r1, .int .i64 r2, .int .i64 r3, .int .i64 r4]] _ _) at HIN2
  show Calls _ _ #[_, _, _, _, .agg #[.int .i64 r1, .int .i64 r2, .int .i64 r3, .int .i64 r4]] _ _
  have hR1 := ((RF.start h hN).box #[.string ct, .int .i8 2, .int .i32 cf, .int .i32 cb, .int .u8 ca] 59).box #[.int .i64 r1, .int .i64 r2, .int .i64 r3, .int .i64 r4] 34
  rw [show (w.alloc (.cells #[.string ct, .int .i8 2, .int .i32 cf, .int .i32 cb, .int .u8 ca] 59)).heap.size = w.heap.size + 1 by simp] at hR1
  have HQ := run.hid hq
  have HG := run.hid hG
  have HL := run.hid hL
  have HBW := run.hid hbw
  have HB1 := run.hid hb1
  clear hG hL hcs hclip hbl h hbw hb1
  go_enter Tryz.func41, Tryz.ntmps41
  go_upto_region 1 with fail
  generalize (w.alloc (.cells #[.string ct, .int .i8 2, .int .i32 cf, .int .i32 cb, .int .u8 ca] 59)).alloc (.cells #[.int .i64 r1, .int .i64 r2, .int .i64 r3, .int .i64 r4] 34) = w1 at *
  generalize w.heap.size + 1 = m at *
  generalize w.heap.size = n at *
  have HR1 := run.hid hR1
  clear hR1
  have HP := run.hid hp
  have HJ := run.hid hj
  have HI2 := run.hid hj2
  have ac0 := HR1.out.c0
  obtain ⟨⟨an0, an1, an2, an3, an4⟩, -⟩ := blk5 (HR1.out.bx _ (.tail _ (.head _))).1
  obtain ⟨⟨am0, am1, am2, am3⟩, -⟩ := blk4 (HR1.out.bx _ (.head _)).1
  go_wp2_with fail
  refine (HIN1.out _ HR1.out.rb).mono ?_
  rintro e w2 ⟨rfl, hb2⟩
  have HR2 := run.hid (HR1.out.below hb2)
  clear hb2 HR1
  clear ac0 an0 an1 an2 an3 an4 am0 am1 am2 am3
  have bc0 := HR2.out.c0
  obtain ⟨⟨bn0, bn1, bn2, bn3, bn4⟩, -⟩ := blk5 (HR2.out.bx _ (.tail _ (.head _))).1
  obtain ⟨⟨bm0, bm1, bm2, bm3⟩, -⟩ := blk4 (HR2.out.bx _ (.head _)).1
  go_wp2_with fail
  refine (HIN2.out _ HR2.out.rb).mono ?_
  rintro e w3 ⟨rfl, hb2⟩
  have HR3 := run.hid (HR2.out.below hb2)
  clear hb2 HR2
  clear bc0 bn0 bn1 bn2 bn3 bn4 bm0 bm1 bm2 bm3
  have cc0 := HR3.out.c0
  obtain ⟨⟨cn0, cn1, cn2, cn3, cn4⟩, -⟩ := blk5 (HR3.out.bx _ (.tail _ (.head _))).1
  obtain ⟨⟨cm0, cm1, cm2, cm3⟩, -⟩ := blk4 (HR3.out.bx _ (.head _)).1
  go_wp2_with fail
  refine (HBR.out _ (L) j HR3.out.rb HG.out HL.out (by have := HI2.out; omega)).mono ?_
  rintro e w6 ⟨rfl, hb2, hg2⟩
  have HR6 := run.hid (HR3.out.step hb2 hg2)
  clear hb2 hg2 HR3
  clear cc0 cn0 cn1 cn2 cn3 cn4 cm0 cm1 cm2 cm3
  go_upto_region 12 with fail
  refine lx.region (fun D X => ∃ L2, RF w B r g cap W H N [(m, #[.int .i64 r1, .int .i64 r2, .int .i64 r3, .int .i64 r4], 34), (n, #[.string ct, .int .i8 2, .int .i32 cf, .int .i32 cb, .int .u8 ca], 59)] L2 X ∧ (D 17 = false → L2 = brokenT (L) j) ∧ (D 17 = true → L2 = (brokenT (L) j).set (j) (bl))) (by kernel_rfl) (by kernel_rfl) (by kernel_rfl) ⟨brokenT (L) j, HR6.out.drew, fun _ => rfl, fun h => (by cases h)⟩ ?_
  refine lx.begin 142 rfl ?_
  refine lx.o_pure (.pointer (some ⟨r, 0, none⟩)) (fun _ _ h => by first | rfl | kernel_rfl) ?_
  refine lx.o_pure (.pointer (some ⟨r, 0, none⟩)) (fun _ _ h => by first | rfl | kernel_rfl) ?_
  refine lx.o_pure (.pointer (some ⟨r, 2, none⟩)) (fun _ _ h => by first | rfl | kernel_rfl) ?_
  refine lx.o_pure (.slice (some ⟨g, 0, none⟩) N cap) (fun D X hC => lx.run_load rfl rfl Tryz.underlying35 rfl hC.choose_spec.1.c2) ?_
  refine lx.o_pure (.int .i64 y) (fun _ _ h => by first | rfl | kernel_rfl) ?_
  refine lx.o_pure (.pointer (some ⟨r, 0, none⟩)) (fun _ _ h => by first | rfl | kernel_rfl) ?_
  refine lx.o_pure (.pointer (some ⟨r, 0, none⟩)) (fun _ _ h => by first | rfl | kernel_rfl) ?_
  refine lx.o_pure (.pointer (some ⟨r, 0, none⟩)) (fun _ _ h => by first | rfl | kernel_rfl) ?_
  refine lx.o_pure (.int .i64 (W : Nat)) (fun D X hC => lx.run_load rfl rfl Tryz.underlying3 rfl hC.choose_spec.1.c0) ?_
  refine lx.o_pure (.int .i64 (q : Nat)) (fun _ _ _ => lx.run_mul rfl rfl rfl HQ.out (by omega)) ?_
  refine lx.o_pure (.int .i64 x) (fun _ _ h => by first | rfl | kernel_rfl) ?_
  refine lx.o_pure (.int .i64 p) (fun _ _ _ => lx.run_add rfl rfl rfl (by have := HP.out; omega) HP.out) ?_
  refine lx.o_pure (.int .i64 (j : Nat)) (fun _ _ _ => lx.run_add rfl rfl rfl (by have := HJ.out; omega) HJ.out) ?_
  refine lx.o_pure (.pointer (some ⟨n, 2, none⟩)) (fun _ _ h => by first | rfl | kernel_rfl) ?_
  refine lx.o_pure (.agg #[.int .i32 cf, .int .i32 cb, .int .u8 ca]) (fun D X hC => run_load3 rfl rfl (hC.choose_spec.1.bx _ (.tail _ (.head _))).1) ?_
  refine lx.o_call bl.val 34 #[.agg #[.int .i32 cf, .int .i32 cb, .int .u8 ca]] (fun _ _ _ => lx.run_fn rfl rfl rfl (enters_of Tryz.func34 (by kernel_rfl) rfl)) (fun D X hC => (HBL.out X).mono fun e w2 ⟨he, hw⟩ => ⟨he, by obtain ⟨L2, h1, h2⟩ := hC; exact ⟨L2, h1.below hw, h2⟩⟩) ?_
  refine lx.o_pure (.pointer (some ⟨g, (j) * 5, none⟩)) (fun D X hC => run_at5 rfl rfl rfl HI2.out Tryz.underlying35 hinf hsz) ?_
  refine lx.o_put (fun D X h0 hdep hC => ?_) ?_
  · obtain ⟨L2, hS, h1, h2⟩ := hC
    obtain rfl := h1 h0
    exact ⟨_, hS.put HI2.out rfl rfl rfl (c := bl), _, hS.store HI2.out (bl), (fun h => by cases h), fun _ => rfl⟩
  refine lx.o_end ?_
  simp only [lx.ov]
  rintro X d hd ⟨L2, hS, -, h2⟩
  obtain rfl := h2 (hd 17 (by decide))
  have HR7 := run.hid hS
  clear hS h2 hd
  go_simp
  clear HR6
  change Hid (RF _ _ _ _ _ _ _ _ _ (setT (L) j bl) _) at HR7
  have ec0 := HR7.out.c0
  obtain ⟨⟨en0, en1, en2, en3, en4⟩, -⟩ := blk5 (HR7.out.bx _ (.tail _ (.head _))).1
  obtain ⟨⟨em0, em1, em2, em3⟩, -⟩ := blk4 (HR7.out.bx _ (.head _)).1
  go_wp2
  first | go_end0 | (refine bodyPost_ret (results_none rfl _ _ _) rfl ?_)
  exact ⟨rfl, HR7.out.rb, HR7.out.grown⟩
set_option maxRecDepth 100000 in
set_option maxHeartbeats 8000000 in
theorem rwrite_tt (B r g cap W H N q : Nat) (L : List CV) (x y : Int) (ct : ByteArray) (cf cb ca : Int) (clip : RT) (w : World) (h : RB w B r (.slice (some ⟨g, 0, none⟩) N cap) W H L) (hN : W * H = N) (hG : Good W H L) (hL : Wf L) (hcs : (SV.mk cf cb ca).wf) (hclip : clip.wf)
    (hx : -4611686018427387904 ≤ x ∧ x ≤ 4611686018427387904) (hq : y * (W : Int) = (q : Nat)) (hqb : q ≤ 16777216) (i : Nat) (hi : i < N) (hp : (q : Int) + x = (i : Nat)) (j : Nat) (hj2 : j < N) (hj : (i : Int) + 1 = (j : Nat)) (hl : hasT (letIn clip W H) x y = true) (hr : hasT (letIn clip W H) (x + 1) y = true) :
    Calls Tryz.prog 41 #[.pointer (some ⟨r, 0, none⟩), .int .i64 x, .int .i64 y, .agg #[.string ct, .int .i8 2, .int .i32 cf, .int .i32 cb, .int .u8 ca], clip.val] w fun e w' => e = .returned (.tuple #[]) ∧ RB w' B r (.slice (some ⟨g, 0, none⟩) N cap) W H (((setT (setT L i (blankT ⟨cf, cb, ca⟩)) j (blankT ⟨cf, cb, ca⟩)).set i ⟨ct, 2, ⟨cf, cb, ca⟩⟩).set j (restT ⟨cf, cb, ca⟩)) ∧ w.grownBy w' (some g) := by
  obtain ⟨it, hinf, -, hsz, -⟩ := info_parts info_cell
  have HIN := run.hid (fun (x : Int) (w : World) (h : RB w B r (.slice (some ⟨g, 0, none⟩) N cap) W H L) => rin_any B r _ W H L x y clip w h hclip)
  have HBR := run.hid (fun (w : World) (L : List CV) (i : Nat) (h : RB w B r (.slice (some ⟨g, 0, none⟩) N cap) W H L) hG hL hi => rbreak_any B r g cap W H N L i w h hN hG hL hi)
  have HBL := run.hid (fun w => refblank_any ⟨cf, cb, ca⟩ hcs w)
  have HIN1 := run.hid (HIN.out x)
  have HIN2 := run.hid (HIN.out (x + 1))
  rw [hl] at HIN1
  rw [hr] at HIN2
  clear hl hr
  clear HIN
  generalize hbl : blankT ⟨cf, cb, ca⟩ = bl at *
  have hbw : bl.sty.wf := by rw [← hbl]; exact blank_wf _
  have hb1 : bl.wide = 1 := by rw [← hbl]; rfl
  change Hid (∀ w, Calls _ _ #[.agg #[.int .i32 cf, .int .i32 cb, .int .u8 ca]] _ _) at HBL
  obtain ⟨r1, r2, r3, r4⟩ := clip
  change Hid (∀ w, _ → Calls _ _ #[_, _, _, .agg #[.int .i64 r1, .int .i64 r2, .int .i64 r3, .int .i64 r4]] _ _) at HIN1
  change Hid (∀ w, _ → Calls _ _ #[_, _, _, .agg #[.int .i64 r1, .int .i64 r2, .int .i64 r3, .int .i64 r4]] _ _) at HIN2
  show Calls _ _ #[_, _, _, _, .agg #[.int .i64 r1, .int .i64 r2, .int .i64 r3, .int .i64 r4]] _ _
  have hR1 := ((RF.start h hN).box #[.string ct, .int .i8 2, .int .i32 cf, .int .i32 cb, .int .u8 ca] 59).box #[.int .i64 r1, .int .i64 r2, .int .i64 r3, .int .i64 r4] 34
  rw [show (w.alloc (.cells #[.string ct, .int .i8 2, .int .i32 cf, .int .i32 cb, .int .u8 ca] 59)).heap.size = w.heap.size + 1 by simp] at hR1
  have HQ := run.hid hq
  have HG := run.hid hG
  have HL := run.hid hL
  have HBW := run.hid hbw
  have HB1 := run.hid hb1
  clear hG hL hcs hclip hbl h hbw hb1
  go_enter Tryz.func41, Tryz.ntmps41
  go_upto_region 1 with fail
  generalize (w.alloc (.cells #[.string ct, .int .i8 2, .int .i32 cf, .int .i32 cb, .int .u8 ca] 59)).alloc (.cells #[.int .i64 r1, .int .i64 r2, .int .i64 r3, .int .i64 r4] 34) = w1 at *
  generalize w.heap.size + 1 = m at *
  generalize w.heap.size = n at *
  have HR1 := run.hid hR1
  clear hR1
  have HP := run.hid hp
  have HI := run.hid hi
  have HJ := run.hid hj
  have HI2 := run.hid hj2
  have ac0 := HR1.out.c0
  obtain ⟨⟨an0, an1, an2, an3, an4⟩, -⟩ := blk5 (HR1.out.bx _ (.tail _ (.head _))).1
  obtain ⟨⟨am0, am1, am2, am3⟩, -⟩ := blk4 (HR1.out.bx _ (.head _)).1
  go_wp2_with fail
  refine (HIN1.out _ HR1.out.rb).mono ?_
  rintro e w2 ⟨rfl, hb2⟩
  have HR2 := run.hid (HR1.out.below hb2)
  clear hb2 HR1
  clear ac0 an0 an1 an2 an3 an4 am0 am1 am2 am3
  have bc0 := HR2.out.c0
  obtain ⟨⟨bn0, bn1, bn2, bn3, bn4⟩, -⟩ := blk5 (HR2.out.bx _ (.tail _ (.head _))).1
  obtain ⟨⟨bm0, bm1, bm2, bm3⟩, -⟩ := blk4 (HR2.out.bx _ (.head _)).1
  go_wp2_with fail
  refine (HIN2.out _ HR2.out.rb).mono ?_
  rintro e w3 ⟨rfl, hb2⟩
  have HR3 := run.hid (HR2.out.below hb2)
  clear hb2 HR2
  clear bc0 bn0 bn1 bn2 bn3 bn4 bm0 bm1 bm2 bm3
  have cc0 := HR3.out.c0
  obtain ⟨⟨cn0, cn1, cn2, cn3, cn4⟩, -⟩ := blk5 (HR3.out.bx _ (.tail _ (.head _))).1
  obtain ⟨⟨cm0, cm1, cm2, cm3⟩, -⟩ := blk4 (HR3.out.bx _ (.head _)).1
  go_wp2_with fail
  refine (HBR.out _ (L) i HR3.out.rb HG.out HL.out (by have := HI.out; omega)).mono ?_
  rintro e w4 ⟨rfl, hb2, hg2⟩
  have HR4 := run.hid (HR3.out.step hb2 hg2)
  clear hb2 hg2 HR3
  clear cc0 cn0 cn1 cn2 cn3 cn4 cm0 cm1 cm2 cm3
  go_upto_region 9 with fail
  refine lx.region (fun D X => ∃ L2, RF w B r g cap W H N [(m, #[.int .i64 r1, .int .i64 r2, .int .i64 r3, .int .i64 r4], 34), (n, #[.string ct, .int .i8 2, .int .i32 cf, .int .i32 cb, .int .u8 ca], 59)] L2 X ∧ (D 16 = false → L2 = brokenT L i) ∧ (D 16 = true → L2 = (brokenT L i).set (i) (bl))) (by kernel_rfl) (by kernel_rfl) (by kernel_rfl) ⟨brokenT L i, HR4.out.drew, fun _ => rfl, fun h => (by cases h)⟩ ?_
  refine lx.begin 142 rfl ?_
  refine lx.o_pure (.pointer (some ⟨r, 0, none⟩)) (fun _ _ h => by first | rfl | kernel_rfl) ?_
  refine lx.o_pure (.pointer (some ⟨r, 0, none⟩)) (fun _ _ h => by first | rfl | kernel_rfl) ?_
  refine lx.o_pure (.pointer (some ⟨r, 2, none⟩)) (fun _ _ h => by first | rfl | kernel_rfl) ?_
  refine lx.o_pure (.slice (some ⟨g, 0, none⟩) N cap) (fun D X hC => lx.run_load rfl rfl Tryz.underlying35 rfl hC.choose_spec.1.c2) ?_
  refine lx.o_pure (.int .i64 y) (fun _ _ h => by first | rfl | kernel_rfl) ?_
  refine lx.o_pure (.pointer (some ⟨r, 0, none⟩)) (fun _ _ h => by first | rfl | kernel_rfl) ?_
  refine lx.o_pure (.pointer (some ⟨r, 0, none⟩)) (fun _ _ h => by first | rfl | kernel_rfl) ?_
  refine lx.o_pure (.pointer (some ⟨r, 0, none⟩)) (fun _ _ h => by first | rfl | kernel_rfl) ?_
  refine lx.o_pure (.int .i64 (W : Nat)) (fun D X hC => lx.run_load rfl rfl Tryz.underlying3 rfl hC.choose_spec.1.c0) ?_
  refine lx.o_pure (.int .i64 (q : Nat)) (fun _ _ _ => lx.run_mul rfl rfl rfl HQ.out (by omega)) ?_
  refine lx.o_pure (.int .i64 x) (fun _ _ h => by first | rfl | kernel_rfl) ?_
  refine lx.o_pure (.int .i64 (i : Nat)) (fun _ _ _ => lx.run_add rfl rfl rfl (by have := HP.out; omega) HP.out) ?_
  refine lx.o_pure (.pointer (some ⟨n, 2, none⟩)) (fun _ _ h => by first | rfl | kernel_rfl) ?_
  refine lx.o_pure (.agg #[.int .i32 cf, .int .i32 cb, .int .u8 ca]) (fun D X hC => run_load3 rfl rfl (hC.choose_spec.1.bx _ (.tail _ (.head _))).1) ?_
  refine lx.o_call bl.val 34 #[.agg #[.int .i32 cf, .int .i32 cb, .int .u8 ca]] (fun _ _ _ => lx.run_fn rfl rfl rfl (enters_of Tryz.func34 (by kernel_rfl) rfl)) (fun D X hC => (HBL.out X).mono fun e w2 ⟨he, hw⟩ => ⟨he, by obtain ⟨L2, h1, h2⟩ := hC; exact ⟨L2, h1.below hw, h2⟩⟩) ?_
  refine lx.o_pure (.pointer (some ⟨g, (i) * 5, none⟩)) (fun D X hC => run_at5 rfl rfl rfl HI.out Tryz.underlying35 hinf hsz) ?_
  refine lx.o_put (fun D X h0 hdep hC => ?_) ?_
  · obtain ⟨L2, hS, h1, h2⟩ := hC
    obtain rfl := h1 h0
    exact ⟨_, hS.put HI.out rfl rfl rfl (c := bl), _, hS.store HI.out (bl), (fun h => by cases h), fun _ => rfl⟩
  refine lx.o_end ?_
  simp only [lx.ov]
  rintro X d hd ⟨L2, hS, -, h2⟩
  obtain rfl := h2 (hd 16 (by decide))
  have HR5 := run.hid hS
  clear hS h2 hd
  go_simp
  clear HR4
  have HG5 := run.hid (wd_setT HG.out (i := i) (by have := HI.out; omega) HB1.out).1
  have HL5 := run.hid (HL.out.setT i HBW.out)
  change Hid (RF _ _ _ _ _ _ _ _ _ (setT L i bl) _) at HR5
  have dc0 := HR5.out.c0
  obtain ⟨⟨dn0, dn1, dn2, dn3, dn4⟩, -⟩ := blk5 (HR5.out.bx _ (.tail _ (.head _))).1
  obtain ⟨⟨dm0, dm1, dm2, dm3⟩, -⟩ := blk4 (HR5.out.bx _ (.head _)).1
  go_wp2_with fail
  refine (HBR.out _ (setT L i bl) j HR5.out.rb HG5.out HL5.out (by have := HI2.out; omega)).mono ?_
  rintro e w6 ⟨rfl, hb2, hg2⟩
  have HR6 := run.hid (HR5.out.step hb2 hg2)
  clear hb2 hg2 HR5
  clear dc0 dn0 dn1 dn2 dn3 dn4 dm0 dm1 dm2 dm3
  go_upto_region 12 with fail
  refine lx.region (fun D X => ∃ L2, RF w B r g cap W H N [(m, #[.int .i64 r1, .int .i64 r2, .int .i64 r3, .int .i64 r4], 34), (n, #[.string ct, .int .i8 2, .int .i32 cf, .int .i32 cb, .int .u8 ca], 59)] L2 X ∧ (D 17 = false → L2 = brokenT (setT L i bl) j) ∧ (D 17 = true → L2 = (brokenT (setT L i bl) j).set (j) (bl))) (by kernel_rfl) (by kernel_rfl) (by kernel_rfl) ⟨brokenT (setT L i bl) j, HR6.out.drew, fun _ => rfl, fun h => (by cases h)⟩ ?_
  refine lx.begin 142 rfl ?_
  refine lx.o_pure (.pointer (some ⟨r, 0, none⟩)) (fun _ _ h => by first | rfl | kernel_rfl) ?_
  refine lx.o_pure (.pointer (some ⟨r, 0, none⟩)) (fun _ _ h => by first | rfl | kernel_rfl) ?_
  refine lx.o_pure (.pointer (some ⟨r, 2, none⟩)) (fun _ _ h => by first | rfl | kernel_rfl) ?_
  refine lx.o_pure (.slice (some ⟨g, 0, none⟩) N cap) (fun D X hC => lx.run_load rfl rfl Tryz.underlying35 rfl hC.choose_spec.1.c2) ?_
  refine lx.o_pure (.int .i64 y) (fun _ _ h => by first | rfl | kernel_rfl) ?_
  refine lx.o_pure (.pointer (some ⟨r, 0, none⟩)) (fun _ _ h => by first | rfl | kernel_rfl) ?_
  refine lx.o_pure (.pointer (some ⟨r, 0, none⟩)) (fun _ _ h => by first | rfl | kernel_rfl) ?_
  refine lx.o_pure (.pointer (some ⟨r, 0, none⟩)) (fun _ _ h => by first | rfl | kernel_rfl) ?_
  refine lx.o_pure (.int .i64 (W : Nat)) (fun D X hC => lx.run_load rfl rfl Tryz.underlying3 rfl hC.choose_spec.1.c0) ?_
  refine lx.o_pure (.int .i64 (q : Nat)) (fun _ _ _ => lx.run_mul rfl rfl rfl HQ.out (by omega)) ?_
  refine lx.o_pure (.int .i64 x) (fun _ _ h => by first | rfl | kernel_rfl) ?_
  refine lx.o_pure (.int .i64 (i : Nat)) (fun _ _ _ => lx.run_add rfl rfl rfl (by have := HP.out; omega) HP.out) ?_
  refine lx.o_pure (.int .i64 (j : Nat)) (fun _ _ _ => lx.run_add rfl rfl rfl (by have := HJ.out; omega) HJ.out) ?_
  refine lx.o_pure (.pointer (some ⟨n, 2, none⟩)) (fun _ _ h => by first | rfl | kernel_rfl) ?_
  refine lx.o_pure (.agg #[.int .i32 cf, .int .i32 cb, .int .u8 ca]) (fun D X hC => run_load3 rfl rfl (hC.choose_spec.1.bx _ (.tail _ (.head _))).1) ?_
  refine lx.o_call bl.val 34 #[.agg #[.int .i32 cf, .int .i32 cb, .int .u8 ca]] (fun _ _ _ => lx.run_fn rfl rfl rfl (enters_of Tryz.func34 (by kernel_rfl) rfl)) (fun D X hC => (HBL.out X).mono fun e w2 ⟨he, hw⟩ => ⟨he, by obtain ⟨L2, h1, h2⟩ := hC; exact ⟨L2, h1.below hw, h2⟩⟩) ?_
  refine lx.o_pure (.pointer (some ⟨g, (j) * 5, none⟩)) (fun D X hC => run_at5 rfl rfl rfl HI2.out Tryz.underlying35 hinf hsz) ?_
  refine lx.o_put (fun D X h0 hdep hC => ?_) ?_
  · obtain ⟨L2, hS, h1, h2⟩ := hC
    obtain rfl := h1 h0
    exact ⟨_, hS.put HI2.out rfl rfl rfl (c := bl), _, hS.store HI2.out (bl), (fun h => by cases h), fun _ => rfl⟩
  refine lx.o_end ?_
  simp only [lx.ov]
  rintro X d hd ⟨L2, hS, -, h2⟩
  obtain rfl := h2 (hd 17 (by decide))
  have HR7 := run.hid hS
  clear hS h2 hd
  go_simp
  clear HR6
  change Hid (RF _ _ _ _ _ _ _ _ _ (setT (setT L i bl) j bl) _) at HR7
  have ec0 := HR7.out.c0
  obtain ⟨⟨en0, en1, en2, en3, en4⟩, -⟩ := blk5 (HR7.out.bx _ (.tail _ (.head _))).1
  obtain ⟨⟨em0, em1, em2, em3⟩, -⟩ := blk4 (HR7.out.bx _ (.head _)).1
  go_upto_region 14 with fail
  clear ec0 en0 en1 en2 en3 en4 em0 em1 em2 em3
  refine lx.region (fun D X => ∃ L2, RF w B r g cap W H N [(m, #[.int .i64 r1, .int .i64 r2, .int .i64 r3, .int .i64 r4], 34), (n, #[.string ct, .int .i8 2, .int .i32 cf, .int .i32 cb, .int .u8 ca], 59)] L2 X ∧ (D 14 = false → L2 = setT (setT L i bl) j bl) ∧ (D 14 = true → L2 = (setT (setT L i bl) j bl).set (i) (⟨ct, 2, ⟨cf, cb, ca⟩⟩))) (by kernel_rfl) (by kernel_rfl) (by kernel_rfl) ⟨setT (setT L i bl) j bl, HR7.out.drew, fun _ => rfl, fun h => (by cases h)⟩ ?_
  refine lx.begin 142 rfl ?_
  refine lx.o_pure (.pointer (some ⟨r, 0, none⟩)) (fun _ _ h => by first | rfl | kernel_rfl) ?_
  refine lx.o_pure (.pointer (some ⟨r, 0, none⟩)) (fun _ _ h => by first | rfl | kernel_rfl) ?_
  refine lx.o_pure (.pointer (some ⟨r, 2, none⟩)) (fun _ _ h => by first | rfl | kernel_rfl) ?_
  refine lx.o_pure (.slice (some ⟨g, 0, none⟩) N cap) (fun D X hC => lx.run_load rfl rfl Tryz.underlying35 rfl hC.choose_spec.1.c2) ?_
  refine lx.o_pure (.int .i64 y) (fun _ _ h => by first | rfl | kernel_rfl) ?_
  refine lx.o_pure (.pointer (some ⟨r, 0, none⟩)) (fun _ _ h => by first | rfl | kernel_rfl) ?_
  refine lx.o_pure (.pointer (some ⟨r, 0, none⟩)) (fun _ _ h => by first | rfl | kernel_rfl) ?_
  refine lx.o_pure (.pointer (some ⟨r, 0, none⟩)) (fun _ _ h => by first | rfl | kernel_rfl) ?_
  refine lx.o_pure (.int .i64 (W : Nat)) (fun D X hC => lx.run_load rfl rfl Tryz.underlying3 rfl hC.choose_spec.1.c0) ?_
  refine lx.o_pure (.int .i64 (q : Nat)) (fun _ _ _ => lx.run_mul rfl rfl rfl HQ.out (by omega)) ?_
  refine lx.o_pure (.int .i64 x) (fun _ _ h => by first | rfl | kernel_rfl) ?_
  refine lx.o_pure (.int .i64 (i : Nat)) (fun _ _ _ => lx.run_add rfl rfl rfl (by have := HP.out; omega) HP.out) ?_
  refine lx.o_pure (.agg #[.string ct, .int .i8 2, .int .i32 cf, .int .i32 cb, .int .u8 ca]) (fun D X hC => run_loadrow rfl rfl (hC.choose_spec.1.bx _ (.tail _ (.head _))).1 Tryz.underlying59 rfl (by kernel_rfl)) ?_
  refine lx.o_pure (.pointer (some ⟨g, (i) * 5, none⟩)) (fun D X hC => run_at5 rfl rfl rfl HI.out Tryz.underlying35 hinf hsz) ?_
  refine lx.o_put (fun D X h0 hdep hC => ?_) ?_
  · obtain ⟨L2, hS, h1, h2⟩ := hC
    obtain rfl := h1 h0
    exact ⟨_, hS.put HI.out rfl rfl rfl (c := ⟨ct, 2, ⟨cf, cb, ca⟩⟩), _, hS.store HI.out (⟨ct, 2, ⟨cf, cb, ca⟩⟩), (fun h => by cases h), fun _ => rfl⟩
  refine lx.o_end ?_
  simp only [lx.ov]
  rintro X d hd ⟨L2, hS, -, h2⟩
  obtain rfl := h2 (hd 14 (by decide))
  have HR8 := run.hid hS
  clear hS h2 hd
  go_simp
  clear HR7
  go_upto_region 15 with fail
  refine lx.region (fun D X => ∃ L2, RF w B r g cap W H N [(m, #[.int .i64 r1, .int .i64 r2, .int .i64 r3, .int .i64 r4], 34), (n, #[.string ct, .int .i8 2, .int .i32 cf, .int .i32 cb, .int .u8 ca], 59)] L2 X ∧ (D 17 = false → L2 = (setT (setT L i bl) j bl).set i ⟨ct, 2, ⟨cf, cb, ca⟩⟩) ∧ (D 17 = true → L2 = ((setT (setT L i bl) j bl).set i ⟨ct, 2, ⟨cf, cb, ca⟩⟩).set (j) (restT ⟨cf, cb, ca⟩))) (by kernel_rfl) (by kernel_rfl) (by kernel_rfl) ⟨(setT (setT L i bl) j bl).set i ⟨ct, 2, ⟨cf, cb, ca⟩⟩, HR8.out.drew, fun _ => rfl, fun h => (by cases h)⟩ ?_
  refine lx.begin 142 rfl ?_
  refine lx.o_pure (.pointer (some ⟨r, 0, none⟩)) (fun _ _ h => by first | rfl | kernel_rfl) ?_
  refine lx.o_pure (.pointer (some ⟨r, 0, none⟩)) (fun _ _ h => by first | rfl | kernel_rfl) ?_
  refine lx.o_pure (.pointer (some ⟨r, 2, none⟩)) (fun _ _ h => by first | rfl | kernel_rfl) ?_
  refine lx.o_pure (.slice (some ⟨g, 0, none⟩) N cap) (fun D X hC => lx.run_load rfl rfl Tryz.underlying35 rfl hC.choose_spec.1.c2) ?_
  refine lx.o_pure (.int .i64 y) (fun _ _ h => by first | rfl | kernel_rfl) ?_
  refine lx.o_pure (.pointer (some ⟨r, 0, none⟩)) (fun _ _ h => by first | rfl | kernel_rfl) ?_
  refine lx.o_pure (.pointer (some ⟨r, 0, none⟩)) (fun _ _ h => by first | rfl | kernel_rfl) ?_
  refine lx.o_pure (.pointer (some ⟨r, 0, none⟩)) (fun _ _ h => by first | rfl | kernel_rfl) ?_
  refine lx.o_pure (.int .i64 (W : Nat)) (fun D X hC => lx.run_load rfl rfl Tryz.underlying3 rfl hC.choose_spec.1.c0) ?_
  refine lx.o_pure (.int .i64 (q : Nat)) (fun _ _ _ => lx.run_mul rfl rfl rfl HQ.out (by omega)) ?_
  refine lx.o_pure (.int .i64 x) (fun _ _ h => by first | rfl | kernel_rfl) ?_
  refine lx.o_pure (.int .i64 (i : Nat)) (fun _ _ _ => lx.run_add rfl rfl rfl (by have := HP.out; omega) HP.out) ?_
  refine lx.o_pure (.int .i64 (j : Nat)) (fun _ _ _ => lx.run_add rfl rfl rfl (by have := HJ.out; omega) HJ.out) ?_
  refine lx.o_pure (.pointer (some ⟨n, 2, none⟩)) (fun _ _ h => by first | rfl | kernel_rfl) ?_
  refine lx.o_pure (.agg #[.int .i32 cf, .int .i32 cb, .int .u8 ca]) (fun D X hC => run_load3 rfl rfl (hC.choose_spec.1.bx _ (.tail _ (.head _))).1) ?_
  refine lx.o_pure ((restT ⟨cf, cb, ca⟩).val) (fun _ _ _ => by kernel_rfl) ?_
  refine lx.o_pure (.pointer (some ⟨g, (j) * 5, none⟩)) (fun D X hC => run_at5 rfl rfl rfl HI2.out Tryz.underlying35 hinf hsz) ?_
  refine lx.o_put (fun D X h0 hdep hC => ?_) ?_
  · obtain ⟨L2, hS, h1, h2⟩ := hC
    obtain rfl := h1 h0
    exact ⟨_, hS.put HI2.out rfl rfl rfl (c := restT ⟨cf, cb, ca⟩), _, hS.store HI2.out (restT ⟨cf, cb, ca⟩), (fun h => by cases h), fun _ => rfl⟩
  refine lx.o_end ?_
  simp only [lx.ov]
  rintro X d hd ⟨L2, hS, -, h2⟩
  obtain rfl := h2 (hd 17 (by decide))
  have HR9 := run.hid hS
  clear hS h2 hd
  go_simp
  clear HR8
  go_wp2
  first | go_end0 | (refine bodyPost_ret (results_none rfl _ _ _) rfl ?_)
  exact ⟨rfl, HR9.out.rb, HR9.out.grown⟩
set_option maxRecDepth 100000 in
set_option maxHeartbeats 8000000 in
theorem rwrite_no (B r W H : Nat) (v : Value) (L : List CV) (x y : Int) (c : CV) (clip : RT) (w : World) (h : RB w B r v W H L) (hc : c.wide = 1 ∨ c.wide = 2) (hclip : clip.wf)
    (hx : -4611686018427387904 ≤ x ∧ x ≤ 4611686018427387904) (hl : hasT (letIn clip W H) x y = false) (hr : c.wide = 2 → hasT (letIn clip W H) (x + 1) y = false) :
    Calls Tryz.prog 41 #[.pointer (some ⟨r, 0, none⟩), .int .i64 x, .int .i64 y, c.val, clip.val] w fun e w' => e = .returned (.tuple #[]) ∧ Below w.heap.size w w' := by
  have HIN := run.hid (fun (x : Int) (w : World) (h : RB w B r v W H L) => rin_any B r _ W H L x y clip w h hclip)
  have HIN1 := run.hid (HIN.out x)
  have HIN2 := run.hid (fun (hc : c.wide = 2) w h => by have h1 := HIN.out (x + 1) w h; rw [hr hc] at h1; exact h1)
  rw [hl] at HIN1
  obtain ⟨ct, cw, ⟨cf, cb, ca⟩⟩ := c
  dsimp only at hc hr HIN2
  obtain ⟨r1, r2, r3, r4⟩ := clip
  change Hid (∀ w, _ → Calls _ _ #[_, _, _, .agg #[.int .i64 r1, .int .i64 r2, .int .i64 r3, .int .i64 r4]] _ _) at HIN1
  change Hid (_ → ∀ w, _ → Calls _ _ #[_, _, _, .agg #[.int .i64 r1, .int .i64 r2, .int .i64 r3, .int .i64 r4]] _ _) at HIN2
  show Calls _ _ #[_, _, _, .agg #[.string ct, .int .i8 cw, .int .i32 cf, .int .i32 cb, .int .u8 ca], .agg #[.int .i64 r1, .int .i64 r2, .int .i64 r3, .int .i64 r4]] _ _
  have hb0 := run.below_two w (.cells #[.string ct, .int .i8 cw, .int .i32 cf, .int .i32 cb, .int .u8 ca] 59) (.cells #[.int .i64 r1, .int .i64 r2, .int .i64 r3, .int .i64 r4] 34)
  have k1 := heap_alloc2_old w (.cells #[.string ct, .int .i8 cw, .int .i32 cf, .int .i32 cb, .int .u8 ca] 59) (.cells #[.int .i64 r1, .int .i64 r2, .int .i64 r3, .int .i64 r4] 34)
  have k2 := heap_alloc2_new w (.cells #[.string ct, .int .i8 cw, .int .i32 cf, .int .i32 cb, .int .u8 ca] 59) (.cells #[.int .i64 r1, .int .i64 r2, .int .i64 r3, .int .i64 r4] 34)
  have hR := run.hid (h.below hb0)
  have KK := run.hid (And.intro hb0 (And.intro k1 k2))
  obtain ⟨⟨n0, n1, n2, n3, n4⟩, -⟩ := blk5 k1
  obtain ⟨⟨m0, m1, m2, m3⟩, -⟩ := blk4 k2
  have hs := run.hid (show ((w.alloc (.cells #[.string ct, .int .i8 cw, .int .i32 cf, .int .i32 cb, .int .u8 ca] 59)).alloc (.cells #[.int .i64 r1, .int .i64 r2, .int .i64 r3, .int .i64 r4] 34)).heap.size = w.heap.size + 2 by simp)
  clear h hclip hl hr k1 k2 hb0 HIN
  go_enter Tryz.func41, Tryz.ntmps41
  go_upto_region 1 with fail
  generalize (w.alloc (.cells #[.string ct, .int .i8 cw, .int .i32 cf, .int .i32 cb, .int .u8 ca] 59)).alloc (.cells #[.int .i64 r1, .int .i64 r2, .int .i64 r3, .int .i64 r4] 34) = w1 at *
  go_wp2_with fail
  refine (HIN1.out w1 hR.out).mono ?_
  rintro e w2 ⟨rfl, hb2⟩
  obtain ⟨⟨n0', n1', n2', n3', n4'⟩, -⟩ := blk5 ((hb2.block _ (by rw [hs.out]; omega)).trans KK.out.2.1)
  obtain ⟨⟨m0', m1', m2', m3'⟩, -⟩ := blk4 ((hb2.block _ (by rw [hs.out]; omega)).trans KK.out.2.2)
  have HB2 := run.hid (KK.out.1.trans (hb2.mono KK.out.1.size))
  have hR2 := run.hid (hR.out.below hb2)
  clear n0 n1 n2 n3 n4 m0 m1 m2 m3 hb2
  rcases hc with rfl | rfl
  · clear HIN1 HIN2
    go_wp2
    first | go_end0 | (refine bodyPost_ret (results_none rfl _ _ _) rfl ?_)
    exact ⟨rfl, HB2.out⟩
  · have HIN3 := run.hid (HIN2.out rfl)
    clear HIN1 HIN2
    go_wp2_with fail
    refine (HIN3.out w2 hR2.out).mono ?_
    rintro e w3 ⟨rfl, hb3⟩
    have HB3 := run.hid (HB2.out.trans (hb3.mono HB2.out.size))
    clear HB2 hb3
    go_wp2
    first | go_end0 | (refine bodyPost_ret (results_none rfl _ _ _) rfl ?_)
    exact ⟨rfl, HB3.out⟩
theorem lay_at {W H : Nat} {x y : Int} (hx : 0 ≤ x ∧ x < W) (hy : 0 ≤ y ∧ y < H) (hW : W ≤ 4096) (hH : H ≤ 4096) : ∃ q i : Nat, y * (W : Int) = (q : Nat) ∧ q ≤ 16777216 ∧ (q : Int) + x = (i : Nat) ∧ i < W * H ∧ (y * (W : Int) + x).toNat = i := by
  have h1 := (at_mod hx hy).1
  obtain ⟨x', rfl⟩ : ∃ n : Nat, x = n := ⟨x.toNat, by omega⟩
  obtain ⟨y', rfl⟩ : ∃ n : Nat, y = n := ⟨y.toNat, by omega⟩
  have e : (y' : Int) * (W : Int) = ((y' * W : Nat) : Int) := by push_cast; rfl
  refine ⟨y' * W, y' * W + x', e, ?_, by push_cast; rfl, ?_, ?_⟩
  · exact Nat.le_trans (Nat.mul_le_mul (show y' ≤ 4096 by omega) hW) (by omega)
  · rw [e] at h1
    omega
  · rw [e]
    omega
theorem grown_all {w w' : World} (h : Below w.heap.size w w') (o : Option Nat) : w.grownBy w' o := ⟨h.os, h.tape, h.output, h.size, fun k hk _ => h.block k hk⟩
/-- WRITE: as much of a single or a pair as is let in -/
theorem rwrite_any (B r W H : Nat) (v : Value) (L : List CV) (x y : Int) (c : CV) (clip : RT) (w : World) (h : RB w B r v W H L) (hG : Good W H L) (hL : Wf L) (hc : c.wide = 1 ∨ c.wide = 2) (hcs : c.sty.wf) (hclip : clip.wf)
    (hx : -4611686018427387904 ≤ x ∧ x ≤ 4611686018427387904) :
    Calls Tryz.prog 41 #[.pointer (some ⟨r, 0, none⟩), .int .i64 x, .int .i64 y, c.val, clip.val] w fun e w' => e = .returned (.tuple #[]) ∧ RB w' B r v W H (layT W L x y c (hasT (letIn clip W H) x y) (hasT (letIn clip W H) (x + 1) y)) ∧ w.grownBy w' v.ownBlock := by
  have hW := h.wide
  have hH := h.high
  have hin := (let_in clip W H hW hH).2
  obtain ⟨ct, cw, ⟨cf, cb, ca⟩⟩ := c
  have hno : ∀ (hl : hasT (letIn clip W H) x y = false) (hr : cw = 2 → hasT (letIn clip W H) (x + 1) y = false), Calls Tryz.prog 41 #[.pointer (some ⟨r, 0, none⟩), .int .i64 x, .int .i64 y, CV.val ⟨ct, cw, ⟨cf, cb, ca⟩⟩, clip.val] w fun e w' => e = .returned (.tuple #[]) ∧ RB w' B r v W H L ∧ w.grownBy w' v.ownBlock := by
    intro hl hr
    refine (rwrite_no B r W H v L x y ⟨ct, cw, ⟨cf, cb, ca⟩⟩ clip w h hc hclip hx hl hr).mono ?_
    rintro e w' ⟨rfl, hb⟩
    exact ⟨rfl, h.below hb, grown_all hb _⟩
  rcases hc with hc | hc
  · obtain rfl : cw = 1 := hc
    cases hl : hasT (letIn clip W H) x y
    · have e : layT W L x y ⟨ct, 1, ⟨cf, cb, ca⟩⟩ false (hasT (letIn clip W H) (x + 1) y) = L := rfl
      rw [e]
      exact hno hl (fun h => by omega)
    · obtain ⟨a1, a2, a3, a4⟩ := hin x y hl
      obtain ⟨q, i, h1, h2, h3, h4, h5⟩ := lay_at ⟨a1, a2⟩ ⟨a3, a4⟩ hW hH
      obtain ⟨g, cap, rfl, -⟩ := h.slice h4
      have e : layT W L x y ⟨ct, 1, ⟨cf, cb, ca⟩⟩ true (hasT (letIn clip W H) (x + 1) y) = setT L i ⟨ct, 1, ⟨cf, cb, ca⟩⟩ := by
        rw [← h5]
        rfl
      rw [e]
      exact rwrite_one B r g cap W H _ q L x y ct cf cb ca clip w h rfl hG hL hcs hclip hx h1 h2 i h4 h3 hl
  · obtain rfl : cw = 2 := hc
    cases hl : hasT (letIn clip W H) x y
    · cases hr : hasT (letIn clip W H) (x + 1) y
      · have e : layT W L x y ⟨ct, 2, ⟨cf, cb, ca⟩⟩ false false = L := rfl
        rw [e]
        exact hno hl (fun _ => hr)
      · obtain ⟨a1, a2, a3, a4⟩ := hin (x + 1) y hr
        obtain ⟨q, j, h1, h2, h3, h4, h5⟩ := lay_at ⟨a1, a2⟩ ⟨a3, a4⟩ hW hH
        obtain ⟨g, cap, rfl, -⟩ := h.slice h4
        have e : layT W L x y ⟨ct, 2, ⟨cf, cb, ca⟩⟩ false true = setT L j (blankT ⟨cf, cb, ca⟩) := by
          rw [← h5, ← Int.add_assoc]
          rfl
        rw [e]
        exact rwrite_ft B r g cap W H _ q L x y ct cf cb ca clip w h rfl hG hL hcs hclip hx h1 h2 ((q : Int) + x) rfl j h4 (by omega) hl hr
    · obtain ⟨a1, a2, a3, a4⟩ := hin x y hl
      obtain ⟨q, i, h1, h2, h3, h4, h5⟩ := lay_at ⟨a1, a2⟩ ⟨a3, a4⟩ hW hH
      obtain ⟨g, cap, rfl, -⟩ := h.slice h4
      cases hr : hasT (letIn clip W H) (x + 1) y
      · have e : layT W L x y ⟨ct, 2, ⟨cf, cb, ca⟩⟩ true false = setT L i (blankT ⟨cf, cb, ca⟩) := by
          rw [← h5]
          rfl
        rw [e]
        exact rwrite_tf B r g cap W H _ q L x y ct cf cb ca clip w h rfl hG hL hcs hclip hx h1 h2 i h4 h3 hl hr
      · obtain ⟨b1, b2, b3, b4⟩ := hin (x + 1) y hr
        obtain ⟨q2, j, h12, h22, h32, h42, h52⟩ := lay_at ⟨b1, b2⟩ ⟨b3, b4⟩ hW hH
        have hj : (i : Int) + 1 = (j : Nat) := by omega
        have e : layT W L x y ⟨ct, 2, ⟨cf, cb, ca⟩⟩ true true = ((setT (setT L i (blankT ⟨cf, cb, ca⟩)) j (blankT ⟨cf, cb, ca⟩)).set i ⟨ct, 2, ⟨cf, cb, ca⟩⟩).set j (restT ⟨cf, cb, ca⟩) := by
          rw [← h5, ← h52, ← Int.add_assoc]
          rfl
        rw [e]
        exact rwrite_tt B r g cap W H _ q L x y ct cf cb ca clip w h rfl hG hL hcs hclip hx h1 h2 i h4 h3 j h42 hj hl hr
end Go.Proofs.YtdgcfmfjgidbjaaGreat.cel
