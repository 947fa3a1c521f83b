/-
  The document's buffer: Shift. (Its regions printed by gen_celrt.py.)
-/
import Derived.Test.YtdgcfmfjgidbjaaGreatCelRH
namespace Go.Proofs.YtdgcfmfjgidbjaaGreat.cel
open Go Go.RowKit Go.Proofs
set_option linter.unusedVariables false
/-- what comes to a place: the row D further on, if it is one of the rectangle's -/
def valS (W H : Nat) (r : RT) (D : Int) (c : CV) (O : List CV) (k : Nat) : CV :=
  if (0 ≤ ((k / W : Nat) : Int) + D ∧ ((k / W : Nat) : Int) + D < H) ∧ hasT r ((k % W : Nat) : Int) (((k / W : Nat) : Int) + D) = true then O.getD ((((k / W : Nat) : Int) + D).toNat * W + k % W) z0 else c
theorem valS_at {W H : Nat} {r : RT} {D : Int} {c : CV} {O : List CV} {y x : Nat} (hx : x < W) : valS W H r D c O (y * W + x) = if (0 ≤ (y : Int) + D ∧ (y : Int) + D < H) ∧ hasT r (x : Nat) ((y : Int) + D) = true then O.getD (((y : Int) + D).toNat * W + x) z0 else c := by
  unfold valS
  rw [mod_at (show x < W by omega), div_at (show x < W by omega)]
theorem RV.again {w0 w : World} {B r W H : Nat} {v : Value} {ks : List (Nat × Array Value × TypeId)} {L : List CV} (h : RV w0 B r v W H ks L w) : RV w B r v W H ks L w := ⟨h.rb, h.bx, World.grownBy.refl w _⟩
set_option maxRecDepth 100000 in
set_option maxHeartbeats 8000000 in
theorem rshift_any (B r W H : Nat) (v : Value) (L : List CV) (clip : RT) (by0 : Int) (s : SV) (w : World) (h : RB w B r v W H L) (hS : Strong W H L) (hclip : clip.wf) (hs : s.wf) :
    Calls Tryz.prog 21 #[.pointer (some ⟨r, 0, none⟩), clip.val, .int .i64 by0, s.val] w fun e w' => e = .returned (.tuple #[]) ∧ RB w' B r v W H (newT W clip (valS W H clip (max (-(H : Int)) (min by0 H)) (blankT s) (edT W clip L (W * H))) (edT W clip L (W * H)) (W * H)) ∧ w.grownBy w' v.ownBlock := by
  obtain ⟨it, hinf, -, hsz, -⟩ := info_parts info_cell
  have hWb := h.wide
  have hHb := h.high
  have HHAS := run.hid (fun (x y : Int) (w : World) => refhas_any clip x y w hclip)
  have HED := run.hid (fun (w : World) (h : RB w B r v W H L) => redges_any B r W H v L clip w h hS hclip)
  have HBL := run.hid (fun w => refblank_any s hs w)
  generalize edT W clip L (W * H) = M at *
  have HSC := run.hid (fun (w : World) (h : RB w B r v W H M) => rscreen_any B r W H v M w h)
  obtain ⟨mn, hmn⟩ : ∃ mn, min by0 (H : Int) = mn := ⟨_, rfl⟩
  obtain ⟨D, hD⟩ : ∃ D, max (-(H : Int)) mn = D := ⟨_, rfl⟩
  rw [hmn, hD]
  have hDb : -4096 ≤ D ∧ D ≤ 4096 := by omega
  have HMN := run.hid hmn
  have HDD := run.hid hD
  generalize hbl : blankT s = bl at *
  have HAT := run.hid (fun y x hx => @new_at W clip (valS W H clip D bl M) M y x hx)
  have HVA := run.hid (fun y x hx => @valS_at W H clip D bl M y x hx)
  have HN0 : Hid (newT W clip (valS W H clip D bl M) M 0 = M) := rfl
  generalize newT W clip (valS W H clip D bl M) M = FT at *
  generalize valS W H clip D bl M = VAL at *
  generalize hasT clip = has at *
  clear hmn hD hbl
  obtain ⟨sf, sb, sa⟩ := s
  obtain ⟨r1, r2, r3, r4⟩ := clip
  change Hid (∀ x y w, Calls _ _ #[.agg #[.int .i64 r1, .int .i64 r2, .int .i64 r3, .int .i64 r4], .int .i64 x, .int .i64 y] _ _) at HHAS
  change Hid (∀ w, _ → Calls _ _ #[_, .agg #[.int .i64 r1, .int .i64 r2, .int .i64 r3, .int .i64 r4]] _ _) at HED
  change Hid (∀ w, Calls _ _ #[.agg #[.int .i32 sf, .int .i32 sb, .int .u8 sa]] _ _) at HBL
  show Calls _ _ #[_, .agg #[.int .i64 r1, .int .i64 r2, .int .i64 r3, .int .i64 r4], _, .agg #[.int .i32 sf, .int .i32 sb, .int .u8 sa]] _ _
  have hR1 := ((RV.start h).box #[.int .i64 r1, .int .i64 r2, .int .i64 r3, .int .i64 r4] 34).box #[.int .i32 sf, .int .i32 sb, .int .u8 sa] 32
  rw [show (w.alloc (.cells #[.int .i64 r1, .int .i64 r2, .int .i64 r3, .int .i64 r4] 34)).heap.size = w.heap.size + 1 by simp] at hR1
  clear h hclip hS hs
  go_enter Tryz.func21, Tryz.ntmps21
  go_upto_region 1 with fail
  generalize (w.alloc (.cells #[.int .i64 r1, .int .i64 r2, .int .i64 r3, .int .i64 r4] 34)).alloc (.cells #[.int .i32 sf, .int .i32 sb, .int .u8 sa] 32) = w1 at *
  generalize w.heap.size + 1 = n at *
  generalize w.heap.size = m at *
  have hm := (hR1.bx _ (.tail _ (.head _))).1
  have c0 := blk_cell hm 0
  have c1 := blk_cell hm 1
  have c2 := blk_cell hm 2
  have c3 := blk_cell hm 3
  have HE1 := run.hid (HED.out w1 hR1.rb)
  clear HED hm
  go_wp2_with fail
  refine HE1.out.mono ?_
  rintro e w2 ⟨rfl, hb2, hg2⟩
  have HV1 := run.hid (hR1.step hb2 hg2)
  clear c0 c1 c2 c3 hb2 hg2 hR1 HE1
  go_upto_region 3 with fail
  refine lx.region (fun _ X => RV w B r v W H [(n, #[.int .i32 sf, .int .i32 sb, .int .u8 sa], 32), (m, #[.int .i64 r1, .int .i64 r2, .int .i64 r3, .int .i64 r4], 34)] M X) (by kernel_rfl) (by kernel_rfl) (by kernel_rfl) HV1.out.drew ?_
  refine lx.begin 111 rfl ?_
  refine lx.o_pure (.pointer (some ⟨r, 0, none⟩)) (fun _ _ h => by first | rfl | kernel_rfl) ?_
  refine lx.o_pure (.pointer (some ⟨r, 0, none⟩)) (fun _ _ h => by first | rfl | kernel_rfl) ?_
  refine lx.o_pure (.pointer (some ⟨r, 1, none⟩)) (fun _ _ h => by first | rfl | kernel_rfl) ?_
  refine lx.o_pure (.int .i64 (H : Nat)) (fun D X hC => lx.run_load rfl rfl Tryz.underlying3 rfl hC.c1) ?_
  refine lx.o_pure (.int .i64 (-(H : Int))) (fun D X hC => run_neg rfl rfl rfl (by omega)) ?_
  refine lx.o_pure (.int .i64 by0) (fun _ _ h => by first | rfl | kernel_rfl) ?_
  refine lx.o_pure (.pointer (some ⟨r, 0, none⟩)) (fun _ _ h => by first | rfl | kernel_rfl) ?_
  refine lx.o_pure (.pointer (some ⟨r, 0, none⟩)) (fun _ _ h => by first | rfl | kernel_rfl) ?_
  refine lx.o_pure (.pointer (some ⟨r, 1, none⟩)) (fun _ _ h => by first | rfl | kernel_rfl) ?_
  refine lx.o_pure (.int .i64 (H : Nat)) (fun D X hC => lx.run_load rfl rfl Tryz.underlying3 rfl hC.c1) ?_
  refine lx.o_pure (.int .i64 mn) (fun _ X hC => run_min rfl rfl rfl HMN.out) ?_
  refine lx.o_pure (.int .i64 D) (fun _ X hC => run_max rfl rfl rfl HDD.out) ?_
  refine lx.o_pure (.int .i64 D) (fun _ _ h => by first | rfl | kernel_rfl) ?_
  refine lx.o_end ?_
  simp only [lx.ov]
  rintro X d hd hC
  have HV2 := run.hid hC
  clear hC hd HV1
  go_simp
  go_wp2_with fail
  refine (HSC.out _ HV2.out.rb).mono ?_
  rintro e w4 ⟨v4, rfl, ho4, hb4⟩
  have HT4 := run.hid (HV2.out.below hb4).grown
  have HV4 := run.hid (HV2.out.below hb4).again
  have HOLD : Hid (∀ X, w4.grownBy X v.ownBlock → X.ownsRow _ 59 5 v4 (W * H) (cells5 M)) := fun X hg => run.own_kept ho4 hg (fun k hk e => by
    have h1 := (ho4.lt k hk).1
    have h2 := (HV2.out.rb.row.lt k e).2
    omega)
  have HLM := run.hid HV4.out.rb.len
  clear ho4 hb4 HSC HV2
  unfold scrV
  obtain ⟨ao, co, rfl⟩ := run.own_value (HOLD.out w4 (World.grownBy.refl _ _))
  go_wp2
  rw [field_scr]
  go_wp2
  go_loopw [9, 10, 11] (fun vy vx0 vf0 wr => ∃ y : Nat, y ≤ H ∧ vy = .int .i64 y ∧ Hid (RV w4 B r v W H [(n, #[.int .i32 sf, .int .i32 sb, .int .u8 sa], 32), (m, #[.int .i64 r1, .int .i64 r2, .int .i64 r3, .int .i64 r4], 34)] (FT (y * W)) wr)) (fun vy _ _ _ => ((H : Int) - intOf vy).toNat)
  case atStart => exact ⟨0, Nat.zero_le _, rfl, by show RV _ _ _ _ _ _ _ _ _; rw [Nat.zero_mul, HN0.out]; exact HV4.out⟩
  case round =>
    clear HV4
    obtain ⟨y, hy, rfl, HV⟩ := hrel
    have c0 := HV.out.c0
    have c1 := HV.out.c1
    by_cases hyl : y < H
    · have hqc := Int.natCast_mul y W
      have hq0 : y * W ≤ 4096 * 4096 := Nat.mul_le_mul (by omega) hWb
      have hrow := Nat.mul_le_mul_right W (show y + 1 ≤ H from hyl)
      rw [Nat.add_mul, Nat.one_mul, Nat.mul_comm H W] at hrow
      have HAT2 := run.hid (fun x hx => HAT.out y x hx)
      have HVA2 := run.hid (fun x hx => HVA.out y x hx)
      have HROW2 := run.hid (show (y + 1) * W = y * W + W by rw [Nat.add_mul, Nat.one_mul])
      obtain ⟨q, hqq⟩ : ∃ q, y * W = q := ⟨_, rfl⟩
      rw [hqq] at HV hq0 hrow HAT2 HVA2 HROW2
      have HQ := run.hid (show ((y : Nat) : Int) * ((W : Nat) : Int) = ((q : Nat) : Int) from by rw [← hqq]; exact hqc.symm)
      clear hqq hqc
      go_wp2
      generalize wr = wz at *
      go_loopw [10, 11] (fun vx vf0 wr => ∃ x : Nat, x ≤ W ∧ vx = .int .i64 x ∧ Hid (RV w4 B r v W H [(n, #[.int .i32 sf, .int .i32 sb, .int .u8 sa], 32), (m, #[.int .i64 r1, .int .i64 r2, .int .i64 r3, .int .i64 r4], 34)] (FT (q + x)) wr)) (fun vx _ _ => ((W : Int) - intOf vx).toNat)
      case atStart => exact ⟨0, Nat.zero_le _, rfl, HV⟩
      case round =>
        clear HV c0 c1
        obtain ⟨x, hx, rfl, HV⟩ := hrel
        have c0 := HV.out.c0
        have c1 := HV.out.c1
        by_cases hxl : x < W
        · have HI := run.hid (show q + x < W * H by omega)
          have HNX := run.hid (HAT2.out x hxl)
          have HVX := run.hid (HVA2.out x hxl)
          obtain ⟨g, cap, rfl, -⟩ := HV.out.rb.slice HI.out
          generalize hL1 : FT (q + x + 1) = L1 at *
          have HL1 := run.hid hL1
          clear hL1
          generalize FT (q + x) = L0 at *
          generalize VAL (q + x) = vc at *
          have hxb : x ≤ 4096 := by omega
          clear hrow
          obtain ⟨⟨m0, m1, m2, m3⟩, -⟩ := blk4 (HV.out.bx _ (.tail _ (.head _))).1
          go_wp2_with fail
          refine (HHAS.out _ _ _).mono ?_
          rintro e w3 ⟨rfl, hb3⟩
          have HV3 := run.hid (HV.out.below hb3)
          clear m0 m1 m2 m3 hb3 HV c0 c1
          cases hh : has (x : Nat) (y : Nat)
          · have e : L1 = L0 := by rw [HNX.out, if_neg (by rw [hh]; decide)]
            clear HNX HVX
            go_wp2
            go_roundw
            case rel => exact ⟨x + 1, by omega, by go_num, by show RV _ _ _ _ _ _ _ _ _; rw [← Nat.add_assoc, HL1.out, e]; exact HV3.out⟩
            case measure => simp [intOf]; omega
          · have HE := run.hid (show L1 = L0.set (q + x) vc by rw [HNX.out, if_pos hh])
            clear HNX
            go_upto_region 12 with fail
            refine lx.region (fun D X => ∃ L2, RV w4 B r (.slice (some ⟨g, 0, none⟩) (W * H : Nat) cap) W H [(n, #[.int .i32 sf, .int .i32 sb, .int .u8 sa], 32), (m, #[.int .i64 r1, .int .i64 r2, .int .i64 r3, .int .i64 r4], 34)] L2 X ∧ (D 15 = false → L2 = L0) ∧ (D 15 = true → L2 = (L0).set (q + x) (bl))) (by kernel_rfl) (by kernel_rfl) (by kernel_rfl) ⟨L0, HV3.out.drew, fun _ => rfl, fun h => (by cases h)⟩ ?_
            refine lx.begin 111 rfl ?_
            refine lx.o_pure (.pointer (some ⟨r, 0, none⟩)) (fun _ _ h => by first | rfl | kernel_rfl) ?_
            refine lx.o_pure (.pointer (some ⟨r, 0, none⟩)) (fun _ _ h => by first | rfl | kernel_rfl) ?_
            refine lx.o_pure (.pointer (some ⟨r, 2, none⟩)) (fun _ _ h => by first | rfl | kernel_rfl) ?_
            refine lx.o_pure (.slice (some ⟨g, 0, none⟩) (W * H : Nat) cap) (fun D X hC => lx.run_load rfl rfl Tryz.underlying35 rfl (blk3 hC.choose_spec.1.rb.box).1.2.2) ?_
            refine lx.o_pure (.int .i64 (y : Nat)) (fun _ _ h => by first | rfl | kernel_rfl) ?_
            refine lx.o_pure (.pointer (some ⟨r, 0, none⟩)) (fun _ _ h => by first | rfl | kernel_rfl) ?_
            refine lx.o_pure (.pointer (some ⟨r, 0, none⟩)) (fun _ _ h => by first | rfl | kernel_rfl) ?_
            refine lx.o_pure (.pointer (some ⟨r, 0, none⟩)) (fun _ _ h => by first | rfl | kernel_rfl) ?_
            refine lx.o_pure (.int .i64 (W : Nat)) (fun D X hC => lx.run_load rfl rfl Tryz.underlying3 rfl hC.choose_spec.1.c0) ?_
            refine lx.o_pure (.int .i64 (q : Nat)) (fun _ _ _ => lx.run_mul rfl rfl rfl HQ.out (by omega)) ?_
            refine lx.o_pure (.int .i64 (x : Nat)) (fun _ _ h => by first | rfl | kernel_rfl) ?_
            refine lx.o_pure (.int .i64 ((q + x : Nat) : Int)) (fun _ _ _ => lx.run_add rfl rfl rfl (by omega) (by push_cast; rfl)) ?_
            refine lx.o_pure (.agg #[.int .i32 sf, .int .i32 sb, .int .u8 sa]) (fun D X hC => run_loadrow rfl rfl (hC.choose_spec.1.bx _ (.head _)).1 Tryz.underlying32 rfl (by kernel_rfl)) ?_
            refine lx.o_call bl.val 34 #[.agg #[.int .i32 sf, .int .i32 sb, .int .u8 sa]] (fun _ _ _ => lx.run_fn rfl rfl rfl (enters_of Tryz.func34 (by kernel_rfl) rfl)) (fun D X hC => (HBL.out X).mono fun e w2 ⟨he, hw⟩ => ⟨he, by obtain ⟨L2, h1, h2⟩ := hC; exact ⟨L2, h1.below hw, h2⟩⟩) ?_
            refine lx.o_pure (.pointer (some ⟨g, (q + x) * 5, none⟩)) (fun D X hC => run_at5 rfl rfl rfl HI.out Tryz.underlying35 hinf hsz) ?_
            refine lx.o_put (fun D X h0 hdep hC => ?_) ?_
            · obtain ⟨L2, hS2, h1, h2⟩ := hC
              obtain rfl := h1 h0
              exact ⟨_, hS2.put HI.out rfl rfl rfl (c := bl), _, hS2.store HI.out (bl), (fun h => by cases h), fun _ => rfl⟩
            refine lx.o_end ?_
            simp only [lx.ov]
            rintro X d hd ⟨L2, hS2, -, h2⟩
            obtain rfl := h2 (hd 15 (by decide))
            have HV9 := run.hid hS2
            clear hS2 h2 hd HV3
            go_simp
            obtain ⟨f, hf⟩ : ∃ f : Int, (y : Int) + D = f := ⟨_, rfl⟩
            rw [hf] at HVX
            have hfb : -8192 ≤ f ∧ f ≤ 8192 := by omega
            have hvno : ¬ ((0 ≤ f ∧ f < H) ∧ has (x : Nat) f = true) → Hid (RV w4 B r (.slice (some ⟨g, 0, none⟩) (W * H : Nat) cap) W H [(n, #[.int .i32 sf, .int .i32 sb, .int .u8 sa], 32), (m, #[.int .i64 r1, .int .i64 r2, .int .i64 r3, .int .i64 r4], 34)] L1 X) := by
              intro h
              show RV _ _ _ _ _ _ _ _ _
              rw [HE.out, HVX.out, if_neg h]
              exact HV9.out
            have c1 := HV9.out.c1
            obtain ⟨⟨m0, m1, m2, m3⟩, -⟩ := blk4 (HV9.out.bx _ (.tail _ (.head _))).1
            by_cases f0 : 0 ≤ f
            · by_cases f1 : f < H
              · clear hvno
                go_wp2_with fail
                refine (HHAS.out _ _ _).mono ?_
                rintro e w5 ⟨rfl, hb5⟩
                have HV10 := run.hid (HV9.out.below hb5)
                clear m0 m1 m2 m3 hb5 HV9 c1
                cases hh2 : has (x : Nat) f
                · have e : vc = bl := by rw [HVX.out, if_neg (fun h => by rw [hh2] at h; cases h.2)]
                  clear HVX
                  go_wp2
                  go_roundw
                  case rel => exact ⟨x + 1, by omega, by go_num, by show RV _ _ _ _ _ _ _ _ _; rw [← Nat.add_assoc, HL1.out, HE.out, e]; exact HV10.out⟩
                  case measure => simp [intOf]; omega
                · have e : vc = M.getD (f.toNat * W + x) z0 := by rw [HVX.out, if_pos ⟨⟨f0, f1⟩, hh2⟩]
                  obtain ⟨fn, rfl⟩ : ∃ fn : Nat, f = fn := ⟨f.toNat, by omega⟩
                  rw [Int.toNat_natCast] at e
                  have hqc := Int.natCast_mul fn W
                  have hq1 : fn * W ≤ 4096 * 4096 := Nat.mul_le_mul (by omega) hWb
                  have hrow := Nat.mul_le_mul_right W (show fn + 1 ≤ H by omega)
                  rw [Nat.add_mul, Nat.one_mul, Nat.mul_comm H W] at hrow
                  obtain ⟨p, hpp⟩ : ∃ p, fn * W = p := ⟨_, rfl⟩
                  rw [hpp] at e hq1 hrow
                  have HP := run.hid (show ((fn : Nat) : Int) * ((W : Nat) : Int) = ((p : Nat) : Int) from by rw [← hpp]; exact hqc.symm)
                  have HI2 := run.hid (show p + x < W * H by omega)
                  have HEV := run.hid e
                  obtain ⟨go, gc, e9⟩ := own_sl (HOLD.out w4 (World.grownBy.refl _ _)) (by have := HI2.out; omega)
                  simp only [Value.slice.injEq, true_and] at e9
                  obtain ⟨rfl, rfl⟩ := e9
                  have HOC := run.hid (fun (X : World) (hg : w4.grownBy X (some g)) => (show Cell5 X go ((p + x) * 5) vc by
                    have h1 := (grid_own (HOLD.out X hg)).at (k := p + x) (by rw [HLM.out]; exact HI2.out)
                    rw [HEV.out]
                    exact h1))
                  clear hqc hpp hrow HVX e
                  generalize vc = oc at *
                  go_upto_region 15 with fail
                  refine lx.region (fun D X => ∃ L2, RV w4 B r (.slice (some ⟨g, 0, none⟩) (W * H : Nat) cap) W H [(n, #[.int .i32 sf, .int .i32 sb, .int .u8 sa], 32), (m, #[.int .i64 r1, .int .i64 r2, .int .i64 r3, .int .i64 r4], 34)] L2 X ∧ (D 24 = false → L2 = (L0.set (q + x) bl)) ∧ (D 24 = true → L2 = ((L0.set (q + x) bl)).set (q + x) (oc))) (by kernel_rfl) (by kernel_rfl) (by kernel_rfl) ⟨(L0.set (q + x) bl), HV10.out.drew, fun _ => rfl, fun h => (by cases h)⟩ ?_
                  refine lx.begin 111 rfl ?_
                  refine lx.o_pure (.pointer (some ⟨r, 0, none⟩)) (fun _ _ h => by first | rfl | kernel_rfl) ?_
                  refine lx.o_pure (.pointer (some ⟨r, 0, none⟩)) (fun _ _ h => by first | rfl | kernel_rfl) ?_
                  refine lx.o_pure (.pointer (some ⟨r, 2, none⟩)) (fun _ _ h => by first | rfl | kernel_rfl) ?_
                  refine lx.o_pure (.slice (some ⟨g, 0, none⟩) (W * H : Nat) cap) (fun D X hC => lx.run_load rfl rfl Tryz.underlying35 rfl (blk3 hC.choose_spec.1.rb.box).1.2.2) ?_
                  refine lx.o_pure (.int .i64 (y : Nat)) (fun _ _ h => by first | rfl | kernel_rfl) ?_
                  refine lx.o_pure (.pointer (some ⟨r, 0, none⟩)) (fun _ _ h => by first | rfl | kernel_rfl) ?_
                  refine lx.o_pure (.pointer (some ⟨r, 0, none⟩)) (fun _ _ h => by first | rfl | kernel_rfl) ?_
                  refine lx.o_pure (.pointer (some ⟨r, 0, none⟩)) (fun _ _ h => by first | rfl | kernel_rfl) ?_
                  refine lx.o_pure (.int .i64 (W : Nat)) (fun D X hC => lx.run_load rfl rfl Tryz.underlying3 rfl hC.choose_spec.1.c0) ?_
                  refine lx.o_pure (.int .i64 (q : Nat)) (fun _ _ _ => lx.run_mul rfl rfl rfl HQ.out (by omega)) ?_
                  refine lx.o_pure (.int .i64 (x : Nat)) (fun _ _ h => by first | rfl | kernel_rfl) ?_
                  refine lx.o_pure (.int .i64 ((q + x : Nat) : Int)) (fun _ _ _ => lx.run_add rfl rfl rfl (by omega) (by push_cast; rfl)) ?_
                  refine lx.o_pure (.slice (some ⟨go, 0, none⟩) (W * H : Nat) co) (fun _ _ h => by first | rfl | kernel_rfl) ?_
                  refine lx.o_pure (.int .i64 (fn : Nat)) (fun _ _ h => by first | rfl | kernel_rfl) ?_
                  refine lx.o_pure (.pointer (some ⟨r, 0, none⟩)) (fun _ _ h => by first | rfl | kernel_rfl) ?_
                  refine lx.o_pure (.pointer (some ⟨r, 0, none⟩)) (fun _ _ h => by first | rfl | kernel_rfl) ?_
                  refine lx.o_pure (.pointer (some ⟨r, 0, none⟩)) (fun _ _ h => by first | rfl | kernel_rfl) ?_
                  refine lx.o_pure (.int .i64 (W : Nat)) (fun D X hC => lx.run_load rfl rfl Tryz.underlying3 rfl hC.choose_spec.1.c0) ?_
                  refine lx.o_pure (.int .i64 (p : Nat)) (fun _ _ _ => lx.run_mul rfl rfl rfl HP.out (by omega)) ?_
                  refine lx.o_pure (.int .i64 (x : Nat)) (fun _ _ h => by first | rfl | kernel_rfl) ?_
                  refine lx.o_pure (.int .i64 ((p + x : Nat) : Int)) (fun _ _ _ => lx.run_add rfl rfl rfl (by omega) (by push_cast; rfl)) ?_
                  refine lx.o_pure (.pointer (some ⟨go, (p + x) * 5, none⟩)) (fun D X hC => run_at5 rfl rfl rfl HI2.out Tryz.underlying35 hinf hsz) ?_
                  refine lx.o_pure oc.val (fun D X hC => run_load5 rfl rfl (HOC.out X hC.choose_spec.1.grown)) ?_
                  refine lx.o_pure (.pointer (some ⟨g, (q + x) * 5, none⟩)) (fun D X hC => run_at5 rfl rfl rfl HI.out Tryz.underlying35 hinf hsz) ?_
                  refine lx.o_put (fun D X h0 hdep hC => ?_) ?_
                  · obtain ⟨L2, hS2, h1, h2⟩ := hC
                    obtain rfl := h1 h0
                    exact ⟨_, hS2.put HI.out rfl rfl rfl (c := oc), _, hS2.store HI.out (oc), (fun h => by cases h), fun _ => rfl⟩
                  refine lx.o_end ?_
                  simp only [lx.ov]
                  rintro X d hd ⟨L2, hS2, -, h2⟩
                  obtain rfl := h2 (hd 24 (by decide))
                  have HV11 := run.hid hS2
                  clear hS2 h2 hd HV10
                  go_simp
                  rw [List.set_set] at HV11
                  go_wp2
                  go_roundw
                  case rel => exact ⟨x + 1, by omega, by go_num, by show RV _ _ _ _ _ _ _ _ _; rw [← Nat.add_assoc, HL1.out, HE.out]; exact HV11.out⟩
                  case measure => simp [intOf]; omega
              · have HV10 := hvno (fun h => f1 h.1.2)
                clear hvno HVX
                go_wp2
                go_roundw
                case rel => exact ⟨x + 1, by omega, by go_num, by show RV _ _ _ _ _ _ _ _ _; rw [← Nat.add_assoc, HL1.out]; exact HV10.out⟩
                case measure => simp [intOf]; omega
            · have HV10 := hvno (fun h => f0 h.1.1)
              clear hvno HVX
              go_wp2
              go_roundw
              case rel => exact ⟨x + 1, by omega, by go_num, by show RV _ _ _ _ _ _ _ _ _; rw [← Nat.add_assoc, HL1.out]; exact HV10.out⟩
              case measure => simp [intOf]; omega
        · obtain rfl : x = W := by omega
          go_wp2
          go_roundw
          case rel => exact ⟨y + 1, by omega, by go_num, by show RV _ _ _ _ _ _ _ _ _; rw [HROW2.out]; exact HV.out⟩
          case measure => simp [intOf]; omega
    · obtain rfl : y = H := by omega
      have HE := run.hid (And.intro HV.out.rb (run.grown_trans HT4.out HV.out.grown (.inl rfl)))
      clear HV
      go_wp2
      first | go_end0 | (refine bodyPost_ret (results_none rfl _ _ _) rfl ?_)
      exact ⟨rfl, by rw [Nat.mul_comm W y]; exact HE.out.1, HE.out.2⟩
end Go.Proofs.YtdgcfmfjgidbjaaGreat.cel
