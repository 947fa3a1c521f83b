/-
  The walks of the document's buffer: Cell, Screen. (Printed by gen_celrs.py.)
-/
import Derived.Test.YtdgcfmfjgidbjaaGreatCelRN
namespace Go.Proofs.YtdgcfmfjgidbjaaGreat.cel
open Go Go.RowKit Go.Proofs
set_option linter.unusedVariables false
set_option maxHeartbeats 2000000 in
theorem rcell_out (B b W H : Nat) (v : Value) (L : List CV) (x y : Int) (w : World) (h : RB w B b v W H L) (hi : ¬ (0 ≤ x ∧ x < W ∧ 0 ≤ y ∧ y < H)) : Calls Tryz.prog 23 #[.pointer (some ⟨b, 0, none⟩), .int .i64 x, .int .i64 y] w fun e w' => e = .returned (.tuple #[z0.val, .bool false]) ∧ Below w.heap.size w w' := by
  show Calls _ _ _ _ fun e w' => e = .returned (.tuple #[.agg #[.string ⟨#[]⟩, .int .i8 0, .int .i32 0, .int .i32 0, .int .u8 0], .bool false]) ∧ _
  have hb := run.below_one w (.cells #[.string ⟨#[]⟩, .int .i8 0, .int .i32 0, .int .i32 0, .int .u8 0] 59)
  obtain ⟨⟨e0, e1, e2, e3, e4⟩, -⟩ := blk5 (heap_alloc_new w (.cells #[.string ⟨#[]⟩, .int .i8 0, .int .i32 0, .int .i32 0, .int .u8 0] 59))
  obtain ⟨⟨p0, p1, -⟩, -⟩ := blk3 (h.below hb).box
  clear h
  by_cases h1 : x < 0
  · clear hi
    go_enter Tryz.func23, Tryz.ntmps23
    go_wp2
    refine bodyPost_ret (v := .tuple #[.agg #[.string ⟨#[]⟩, .int .i8 0, .int .i32 0, .int .i32 0, .int .u8 0], .bool false]) ((results_cell_tmp rfl _ _ _).trans ?_) rfl ?_
    · simp [go_sem, e0, e1, e2, e3, e4]
    · exact ⟨rfl, hb⟩
  by_cases h2 : (W : Int) ≤ x
  · clear hi
    go_enter Tryz.func23, Tryz.ntmps23
    go_wp2
    refine bodyPost_ret (v := .tuple #[.agg #[.string ⟨#[]⟩, .int .i8 0, .int .i32 0, .int .i32 0, .int .u8 0], .bool false]) ((results_cell_tmp rfl _ _ _).trans ?_) rfl ?_
    · simp [go_sem, e0, e1, e2, e3, e4]
    · exact ⟨rfl, hb⟩
  by_cases h3 : y < 0
  · clear hi
    go_enter Tryz.func23, Tryz.ntmps23
    go_wp2
    refine bodyPost_ret (v := .tuple #[.agg #[.string ⟨#[]⟩, .int .i8 0, .int .i32 0, .int .i32 0, .int .u8 0], .bool false]) ((results_cell_tmp rfl _ _ _).trans ?_) rfl ?_
    · simp [go_sem, e0, e1, e2, e3, e4]
    · exact ⟨rfl, hb⟩
  · have h4 : (H : Int) ≤ y := by omega
    clear hi
    go_enter Tryz.func23, Tryz.ntmps23
    go_wp2
    refine bodyPost_ret (v := .tuple #[.agg #[.string ⟨#[]⟩, .int .i8 0, .int .i32 0, .int .i32 0, .int .u8 0], .bool false]) ((results_cell_tmp rfl _ _ _).trans ?_) rfl ?_
    · simp [go_sem, e0, e1, e2, e3, e4]
    · exact ⟨rfl, hb⟩

set_option maxRecDepth 100000 in
set_option maxHeartbeats 4000000 in
theorem rcell_in (B b W H : Nat) (v : Value) (L : List CV) (x y : Nat) (w : World) (h : RB w B b v W H L) (hx : x < W) (hy : y < H) : Calls Tryz.prog 23 #[.pointer (some ⟨b, 0, none⟩), .int .i64 x, .int .i64 y] w fun e w' => e = .returned (.tuple #[(L.getD (y * W + x) z0).val, .bool true]) ∧ Below w.heap.size w w' := by
  obtain ⟨it, hinf, -, hsz, -⟩ := info_parts info_cell
  have hw := h.wide
  have hh := h.high
  have hk : y * W + x < W * H := by
    have h1 := Nat.mul_le_mul_right W (show y + 1 ≤ H by omega)
    rw [Nat.add_mul, Nat.one_mul, Nat.mul_comm H W] at h1
    omega
  have hsz2 := h.size
  obtain ⟨g, cap, rfl, hbg, hgl, -⟩ := h.slice hk
  obtain ⟨N, hN⟩ : ∃ N, W * H = N := ⟨_, rfl⟩
  rw [hN] at h hk hsz2
  have h := RF.start h hN
  have HB := run.hid (h.below (run.below_one w (.cells #[.string ⟨#[]⟩, .int .i8 0, .int .i32 0, .int .i32 0, .int .u8 0] 59)))
  have p0 := HB.out.c0
  have p1 := HB.out.c1
  have HK := run.hid (show Below w.heap.size w (w.alloc (.cells #[.string ⟨#[]⟩, .int .i8 0, .int .i32 0, .int .i32 0, .int .u8 0] 59)) ∧ _ from ⟨run.below_one w _, heap_alloc_new w (.cells #[.string ⟨#[]⟩, .int .i8 0, .int .i32 0, .int .i32 0, .int .u8 0] 59)⟩)
  have HLD := run.hid (fun (o : Oper) (ρ : Operand → Value) (W' : World) (p : Operand) (h : RF w B b g cap W H N [] L W') (ho : o.op = .load 59 p) (hx : ρ p = .pointer (some ⟨g, (y * W + x) * 5, none⟩)) => run_load5 ho hx (h.cell hk))
  generalize L.getD (y * W + x) z0 = c at *
  have hq : (((y * W : Nat) : Int)) = (y : Int) * W := Int.natCast_mul y W
  obtain ⟨q, hq2⟩ : ∃ q : Nat, q = y * W := ⟨_, rfl⟩
  rw [← hq2] at hk HLD hq
  clear hq2
  obtain ⟨ct, cw, cf, cb, ca⟩ := c
  change Hid (∀ (o : Oper) (ρ : Operand → Value) (W' : World) (p : Operand) (h : RF w B b g cap W H N [] L W') (ho : o.op = .load 59 p) (hx : ρ p = .pointer (some ⟨g, (q + x) * 5, none⟩)), (execOp ρ o).run Tryz.prog W' = .ok (.value (.agg #[.string ct, .int .i8 cw, .int .i32 cf, .int .i32 cb, .int .u8 ca])) W') at HLD
  show Calls _ _ _ _ fun e w' => e = .returned (.tuple #[.agg #[.string ct, .int .i8 cw, .int .i32 cf, .int .i32 cb, .int .u8 ca], .bool true]) ∧ _
  have HB0 := run.hid h
  clear h
  go_enter Tryz.func23, Tryz.ntmps23
  go_upto_region 3 with fail
  refine lx.region (Once w w.heap.size #[.string ⟨#[]⟩, .int .i8 0, .int .i32 0, .int .i32 0, .int .u8 0] #[.string ct, .int .i8 cw, .int .i32 cf, .int .i32 cb, .int .u8 ca] 59 14) (by kernel_rfl) (by kernel_rfl) (by kernel_rfl) ⟨drewB HK.out.1, fun _ => HK.out.2, fun h => by cases h⟩ ?_
  refine lx.begin 49 rfl ?_
  refine lx.o_pure (.pointer (some ⟨b, 0, none⟩)) (fun _ _ h => by first | rfl | kernel_rfl) ?_
  refine lx.o_pure (.pointer (some ⟨b, 0, none⟩)) (fun _ _ h => by first | rfl | kernel_rfl) ?_
  refine lx.o_pure (.pointer (some ⟨b, 2, none⟩)) (fun _ _ h => by first | rfl | kernel_rfl) ?_
  refine lx.o_pure (.slice (some ⟨g, 0, none⟩) N cap) (fun D W' hC => lx.run_load rfl rfl Tryz.underlying35 rfl (HB0.out.below hC.1).c2) ?_
  refine lx.o_pure (.int .i64 (y : Nat)) (fun _ _ h => by first | rfl | kernel_rfl) ?_
  refine lx.o_pure (.pointer (some ⟨b, 0, none⟩)) (fun _ _ h => by first | rfl | kernel_rfl) ?_
  refine lx.o_pure (.pointer (some ⟨b, 0, none⟩)) (fun _ _ h => by first | rfl | kernel_rfl) ?_
  refine lx.o_pure (.pointer (some ⟨b, 0, none⟩)) (fun _ _ h => by first | rfl | kernel_rfl) ?_
  refine lx.o_pure (.int .i64 (W : Nat)) (fun D W' hC => lx.run_load rfl rfl Tryz.underlying3 rfl (HB0.out.below hC.1).c0) ?_
  refine lx.o_pure (.int .i64 (q : Nat)) (fun _ _ _ => lx.run_mul rfl rfl rfl hq.symm (by omega)) ?_
  refine lx.o_pure (.int .i64 (x : Nat)) (fun _ _ h => by first | rfl | kernel_rfl) ?_
  refine lx.o_pure (.int .i64 ((q + x : Nat) : Int)) (fun _ _ _ => lx.run_add rfl rfl rfl (by omega) (by push_cast; rfl)) ?_
  refine lx.o_pure (.pointer (some ⟨g, (q + x) * 5, none⟩)) (fun D W' hC => run_at5 rfl rfl rfl hk Tryz.underlying35 hinf hsz) ?_
  refine lx.o_pure (.agg #[.string ct, .int .i8 cw, .int .i32 cf, .int .i32 cb, .int .u8 ca]) (fun D W' hC => HLD.out _ _ _ _ (HB0.out.below hC.1) rfl rfl) ?_
  refine lx.o_put (fun D W' h0 hdep hC => ?_) ?_
  · obtain ⟨c2, c3, -⟩ := hC
    have h0' : D 14 = false := h0
    have c5 := c3 h0'
    obtain ⟨⟨d0, d1, d2, d3, d4⟩, g0, g1, g2, g3, g4⟩ := blk5 c5
    refine ⟨_, ?_, below5 _ _ _ _ _ c2 (Nat.le_refl _), (fun h => by cases h), fun _ => set5 c5⟩
    unfold execOp
    simp only
    rw [show lx.look _ _ (Operand.tmp 6) = Value.pointer (some ⟨w.heap.size, 0, none⟩) from rfl, show lx.look _ _ (Operand.tmp 48) = Value.agg #[.string ct, .int .i8 cw, .int .i32 cf, .int .i32 cb, .int .u8 ca] from rfl]
    simp [go_sem, d0, d1, d2, d3, d4, g0, g1, g2, g3, g4]
  refine lx.o_pure (.bool true) (fun _ _ h => by first | rfl | kernel_rfl) ?_
  refine lx.o_end ?_
  simp only [lx.ov]
  rintro W' d hd ⟨c2, -, c4⟩
  have K9 := run.hid (c4 (hd 14 (by decide)))
  have HB9 := run.hid c2
  clear c2 c4 hd HK HB0 HLD HB p0 p1
  go_simp
  go_wp2
  refine bodyPost_ret (v := .tuple #[.agg #[.string ct, .int .i8 cw, .int .i32 cf, .int .i32 cb, .int .u8 ca], .bool true]) ((results_cell_tmp rfl _ _ _).trans ?_) rfl ?_
  · obtain ⟨⟨e0, e1, e2, e3, e4⟩, -⟩ := blk5 K9.out
    simp [go_sem, e0, e1, e2, e3, e4]
  · exact ⟨rfl, HB9.out⟩
set_option maxRecDepth 100000 in
set_option maxHeartbeats 4000000 in
theorem rscreen_any (B b W H : Nat) (v : Value) (L : List CV) (w : World) (h : RB w B b v W H L) : Calls Tryz.prog 25 #[.pointer (some ⟨b, 0, none⟩)] w fun e w' => ∃ v', e = .returned (scrV W H v') ∧ w'.ownsRow w.heap.size 59 5 v' (W * H) (cells5 L) ∧ Below w.heap.size w w' := by
  obtain ⟨it, hi0, hz0, hz1, hz2⟩ := info_parts info_cell
  have hsize := h.size
  have hlen := h.len
  have HB := run.hid h
  have hb1 := run.below_one w (.cells zc6 64)
  have hn1 := heap_alloc_new w (.cells zc6 64)
  have hs1 : (w.alloc (.cells zc6 64)).heap.size = w.heap.size + 1 := World.size_alloc _ _
  obtain ⟨⟨p0, p1, p2⟩, -⟩ := blk3 (h.below hb1).box
  obtain ⟨a, cap, rfl⟩ := run.own_value h.row
  have HRD := run.hid (run.readsN_own (h.below hb1).row)
  clear h
  obtain ⟨N, hN⟩ : ∃ N, W * H = N := ⟨_, rfl⟩
  rw [hN] at p2 HRD hsize ⊢
  have HNN := run.hid hN
  clear hN
  have HONE := run.hid (@one_cell5 L)
  go_enter Tryz.func25, Tryz.ntmps25
  go_upto_region 3 with fail
  have HB1 := run.hid (And.intro hb1 hn1)
  have hs1' := hs1
  unfold zc6 at hs1' HB1 HRD hs1 p0 p1 p2
  clear hb1 hn1
  generalize w.alloc (.cells #[.int .i64 0, .int .i64 0, .slice none 0 0, .int .i64 0, .int .i64 0, .bool false] 64) = w1 at *
  go_wp2_with (at_builtin; refine run.wpList_append_any _ rfl _ _ 35 rfl (w.heap.size + 1) 59 it (.agg #[.string ⟨#[]⟩, .int .i8 0, .int .i32 0, .int .i32 0, .int .u8 0]) 5 32 Tryz.underlying35 hi0 hz0 hz1 hz2 rfl (by decide) (.slice none 0 0) 0 [] rfl (World.ownsRow_nil _ _ _ _) (.slice a N cap) N (cells5 L) rfl HRD.out HONE.out (by unfold maxLen; omega) (by omega) (by omega) ?_)
  intro v8 w8 hown8 hgrow _ _
  have hbA := run.below_append (Below.refl (w.heap.size + 1) w1) (World.ownsRow_nil w1 (w.heap.size + 1) 59 5) hgrow (by omega)
  have hb8 := run.hid (HB1.out.1.trans (hbA.mono (by omega)))
  have hn8 := run.hid ((hbA.block w.heap.size (by omega)).trans HB1.out.2)
  have H8 : Hid (w8.ownsRow (w.heap.size + 1) 59 5 v8 N (cells5 L)) := by show World.ownsRow _ _ _ _ _ _ _; simpa using hown8
  obtain ⟨a8, c8, e8⟩ := run.own_value hown8
  subst e8
  clear hown8 hgrow hbA p0 p1 p2 HRD HB1 hs1'
  go_upto_region 5 with fail
  refine lx.region (fun D X => Once w w.heap.size zc6 #[.int .i64 W, .int .i64 H, .slice a8 N c8, .int .i64 0, .int .i64 0, .bool false] 64 10 D X ∧ w8.grownBy X (some w.heap.size)) (by kernel_rfl) (by kernel_rfl) (by kernel_rfl) ⟨⟨drewB hb8.out, fun _ => hn8.out, (fun h => by cases h)⟩, drew_grown w8 _⟩ ?_
  refine lx.begin 23 rfl ?_
  refine lx.o_pure (.pointer (some ⟨b, 0, none⟩)) (fun _ _ h => by first | rfl | kernel_rfl) ?_
  refine lx.o_pure (.pointer (some ⟨b, 0, none⟩)) (fun _ _ h => by first | rfl | kernel_rfl) ?_
  refine lx.o_pure (.pointer (some ⟨b, 0, none⟩)) (fun _ _ h => by first | rfl | kernel_rfl) ?_
  refine lx.o_pure (.int .i64 (W : Nat)) (fun D X hC => lx.run_load rfl rfl Tryz.underlying3 rfl (blk3 (HB.out.below hC.1.1).box).1.1) ?_
  refine lx.o_pure (.pointer (some ⟨b, 0, none⟩)) (fun _ _ h => by first | rfl | kernel_rfl) ?_
  refine lx.o_pure (.pointer (some ⟨b, 0, none⟩)) (fun _ _ h => by first | rfl | kernel_rfl) ?_
  refine lx.o_pure (.pointer (some ⟨b, 1, none⟩)) (fun _ _ h => by first | rfl | kernel_rfl) ?_
  refine lx.o_pure (.int .i64 (H : Nat)) (fun D X hC => lx.run_load rfl rfl Tryz.underlying3 rfl (blk3 (HB.out.below hC.1.1).box).1.2.1) ?_
  refine lx.o_pure (.slice a8 N c8) (fun _ _ h => by first | rfl | kernel_rfl) ?_
  refine lx.o_pure (.agg #[.int .i64 W, .int .i64 H, .slice a8 N c8, .int .i64 0, .int .i64 0, .bool false]) (fun _ _ h => by first | rfl | kernel_rfl) ?_
  refine lx.o_put (fun D X h0 hdep hC => ?_) ?_
  · obtain ⟨⟨c2, c3, -⟩, cg⟩ := hC
    have h0' : D 10 = false := h0
    have c5 := c3 h0'
    obtain ⟨⟨d0, d1, d2, d3, d4, d5⟩, g0, g1, g2, g3, g4, g5⟩ := blk6 c5
    refine ⟨_, ?_, ⟨below6 _ _ _ _ _ _ c2 (Nat.le_refl _), (fun h => by cases h), fun _ => set6 c5⟩, ?_⟩
    · unfold execOp
      simp only
      rw [show lx.look _ _ (Operand.tmp 2) = Value.pointer (some ⟨w.heap.size, 0, none⟩) from rfl, show lx.look _ _ (Operand.tmp 22) = Value.agg #[.int .i64 W, .int .i64 H, .slice a8 N c8, .int .i64 0, .int .i64 0, .bool false] from rfl]
      simp [go_sem, d0, d1, d2, d3, d4, d5, g0, g1, g2, g3, g4, g5]
    · exact run.grown_trans cg (run.grown_trans (run.setCell_grown X w.heap.size 0 _) (run.grown_trans (run.setCell_grown _ w.heap.size 1 _) (run.grown_trans (run.setCell_grown _ w.heap.size 2 _) (run.grown_trans (run.setCell_grown _ w.heap.size 3 _) (run.grown_trans (run.setCell_grown _ w.heap.size 4 _) (run.setCell_grown _ w.heap.size 5 _) (.inl rfl)) (.inl rfl)) (.inl rfl)) (.inl rfl)) (.inl rfl)) (.inl rfl)
  refine lx.o_end ?_
  simp only [lx.ov]
  rintro X d hd ⟨⟨c2, -, c4⟩, cg⟩
  have K9 := run.hid (c4 (hd 10 (by decide)))
  have HB9 := run.hid c2
  have HG9 := run.hid (run.own_kept H8.out cg (fun q hq e => by
    have := (H8.out.lt q hq).1
    simp only [Option.some.injEq] at e
    omega))
  clear c2 c4 hd cg HB H8 hb8 hn8
  go_simp
  go_wp2
  refine bodyPost_ret (v := .agg #[.int .i64 W, .int .i64 H, .slice a8 N c8, .int .i64 0, .int .i64 0, .bool false]) (results_cell_row rfl _ _ w.heap.size _ _ _ _ rfl K9.out Tryz.underlying64 rfl (by kernel_rfl)) rfl ?_
  exact ⟨_, rfl, run.own_mono HG9.out (Nat.le_succ _), HB9.out⟩
end Go.Proofs.YtdgcfmfjgidbjaaGreat.cel
