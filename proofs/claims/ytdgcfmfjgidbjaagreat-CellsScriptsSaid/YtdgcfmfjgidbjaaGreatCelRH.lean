/-
  The document's buffer: Fill, Shift. (Its regions printed by gen_celrh.py.)
-/
import Derived.Test.YtdgcfmfjgidbjaaGreatCelRE
namespace Go.Proofs.YtdgcfmfjgidbjaaGreat.cel
open Go Go.RowKit Go.Proofs
set_option linter.unusedVariables false
theorem RV.store {w0 w : World} {B r g cap W H k : Nat} {ks : List (Nat × Array Value × TypeId)} {L : List CV} (h : RV w0 B r (.slice (some ⟨g, 0, none⟩) (W * H : Nat) cap) W H ks L w) (hk : k < W * H) (c : CV) : RV w0 B r (.slice (some ⟨g, 0, none⟩) (W * H : Nat) cap) W H ks (L.set k c) (setC w g k c) :=
  h.step (h.rb.store hk c) (setC_grown _ _ _ _)
theorem RV.put {w0 w : World} {B r g cap W H k : Nat} {ks : List (Nat × Array Value × TypeId)} {L : List CV} (h : RV w0 B r (.slice (some ⟨g, 0, none⟩) (W * H : Nat) cap) W H ks L w) {o : Oper} {ρ : Operand → Value} {p q : Operand} {c : CV} (hk : k < W * H) (ho : o.op = .store 59 p q) (hx : ρ p = .pointer (some ⟨g, k * 5, none⟩)) (hq : ρ q = c.val) : (execOp ρ o).run Tryz.prog w = .ok .skip (setC w g k c) :=
  run_storeO h.rb.row (by rw [h.rb.len]; exact hk) ho hx hq
/-- what lies in a rectangle is made anew, place by place -/
def newT (W : Nat) (r : RT) (val : Nat → CV) (L : List CV) : Nat → List CV
  | 0 => L
  | k + 1 => if hasT r ((k % W : Nat) : Int) ((k / W : Nat) : Int) = true then (newT W r val L k).set k (val k) else newT W r val L k
theorem new_at {W : Nat} {r : RT} {val : Nat → CV} {L : List CV} {y x : Nat} (hx : x < W) : newT W r val L (y * W + x + 1) = if hasT r ((x : Nat) : Int) ((y : Nat) : Int) = true then (newT W r val L (y * W + x)).set (y * W + x) (val (y * W + x)) else newT W r val L (y * W + x) := by
  have h1 : (y * W + x) % W = x := mod_at (by omega)
  have h2 : (y * W + x) / W = y := div_at (by omega)
  show (if _ then _ else _) = _
  rw [h1, h2]
set_option maxRecDepth 100000 in
set_option maxHeartbeats 8000000 in
theorem rfill_any (B r W H : Nat) (v : Value) (L : List CV) (clip : RT) (s : SV) (w : World) (h : RB w B r v W H L) (hS : Strong W H L) (hclip : clip.wf) (hs : s.wf) :
    Calls Tryz.prog 15 #[.pointer (some ⟨r, 0, none⟩), clip.val, s.val] w fun e w' => e = .returned (.tuple #[]) ∧ RB w' B r v W H (newT W clip (fun _ => blankT s) (edT W clip L (W * H)) (W * H)) ∧ w.grownBy w' v.ownBlock := by
  obtain ⟨it, hinf, -, hsz, -⟩ := info_parts info_cell
  have hWb := h.wide
  have hHb := h.high
  have HHAS := run.hid (fun (x y : Int) (w : World) => refhas_any clip x y w hclip)
  have HED := run.hid (fun (w : World) (h : RB w B r v W H L) => redges_any B r W H v L clip w h hS hclip)
  have HBL := run.hid (fun w => refblank_any s hs w)
  generalize edT W clip L (W * H) = M at *
  have HAT := run.hid (fun y x hx => @new_at W clip (fun _ => blankT s) M y x hx)
  have HN0 : Hid (newT W clip (fun _ => blankT s) M 0 = M) := rfl
  generalize newT W clip (fun _ => blankT s) M = FT at *
  generalize hasT clip = has at *
  generalize blankT s = bl at *
  obtain ⟨sf, sb, sa⟩ := s
  obtain ⟨r1, r2, r3, r4⟩ := clip
  change Hid (∀ x y w, Calls _ _ #[.agg #[.int .i64 r1, .int .i64 r2, .int .i64 r3, .int .i64 r4], .int .i64 x, .int .i64 y] _ _) at HHAS
  change Hid (∀ w, _ → Calls _ _ #[_, .agg #[.int .i64 r1, .int .i64 r2, .int .i64 r3, .int .i64 r4]] _ _) at HED
  change Hid (∀ w, Calls _ _ #[.agg #[.int .i32 sf, .int .i32 sb, .int .u8 sa]] _ _) at HBL
  show Calls _ _ #[_, .agg #[.int .i64 r1, .int .i64 r2, .int .i64 r3, .int .i64 r4], .agg #[.int .i32 sf, .int .i32 sb, .int .u8 sa]] _ _
  have hR1 := ((RV.start h).box #[.int .i64 r1, .int .i64 r2, .int .i64 r3, .int .i64 r4] 34).box #[.int .i32 sf, .int .i32 sb, .int .u8 sa] 32
  rw [show (w.alloc (.cells #[.int .i64 r1, .int .i64 r2, .int .i64 r3, .int .i64 r4] 34)).heap.size = w.heap.size + 1 by simp] at hR1
  clear h hclip hS hs
  go_enter Tryz.func15, Tryz.ntmps15
  go_upto_region 1 with fail
  generalize (w.alloc (.cells #[.int .i64 r1, .int .i64 r2, .int .i64 r3, .int .i64 r4] 34)).alloc (.cells #[.int .i32 sf, .int .i32 sb, .int .u8 sa] 32) = w1 at *
  generalize w.heap.size + 1 = n at *
  generalize w.heap.size = m at *
  have hm := (hR1.bx _ (.tail _ (.head _))).1
  have c0 := blk_cell hm 0
  have c1 := blk_cell hm 1
  have c2 := blk_cell hm 2
  have c3 := blk_cell hm 3
  have HE1 := run.hid (HED.out w1 hR1.rb)
  clear HED hm
  go_wp2_with fail
  refine HE1.out.mono ?_
  rintro e w2 ⟨rfl, hb2, hg2⟩
  have HV1 := run.hid (hR1.step hb2 hg2)
  clear c0 c1 c2 c3 hb2 hg2 hR1 HE1
  go_wp2
  go_loopw [6, 7] (fun vy vx0 wr => ∃ y : Nat, y ≤ H ∧ vy = .int .i64 y ∧ Hid (RV w B r v W H [(n, #[.int .i32 sf, .int .i32 sb, .int .u8 sa], 32), (m, #[.int .i64 r1, .int .i64 r2, .int .i64 r3, .int .i64 r4], 34)] (FT (y * W)) wr)) (fun vy _ _ => ((H : Int) - intOf vy).toNat)
  case atStart => exact ⟨0, Nat.zero_le _, rfl, by show RV _ _ _ _ _ _ _ _ _; rw [Nat.zero_mul, HN0.out]; exact HV1.out⟩
  case round =>
    clear HV1
    obtain ⟨y, hy, rfl, HV⟩ := hrel
    have c0 := HV.out.c0
    have c1 := HV.out.c1
    by_cases hyl : y < H
    · have hqc := Int.natCast_mul y W
      have hq0 : y * W ≤ 4096 * 4096 := Nat.mul_le_mul (by omega) hWb
      have hrow := Nat.mul_le_mul_right W (show y + 1 ≤ H from hyl)
      rw [Nat.add_mul, Nat.one_mul, Nat.mul_comm H W] at hrow
      have HAT2 := run.hid (fun x hx => HAT.out y x hx)
      have HROW2 := run.hid (show (y + 1) * W = y * W + W by rw [Nat.add_mul, Nat.one_mul])
      obtain ⟨q, hqq⟩ : ∃ q, y * W = q := ⟨_, rfl⟩
      rw [hqq] at HV hq0 hrow HAT2 HROW2
      have HQ := run.hid (show ((y : Nat) : Int) * ((W : Nat) : Int) = ((q : Nat) : Int) from by rw [← hqq]; exact hqc.symm)
      clear hqq hqc
      go_wp2
      generalize wr = wz at *
      go_loopw [7] (fun vx wr => ∃ x : Nat, x ≤ W ∧ vx = .int .i64 x ∧ Hid (RV w B r v W H [(n, #[.int .i32 sf, .int .i32 sb, .int .u8 sa], 32), (m, #[.int .i64 r1, .int .i64 r2, .int .i64 r3, .int .i64 r4], 34)] (FT (q + x)) wr)) (fun vx _ => ((W : Int) - intOf vx).toNat)
      case atStart => exact ⟨0, Nat.zero_le _, rfl, HV⟩
      case round =>
        clear HV c0 c1
        obtain ⟨x, hx, rfl, HV⟩ := hrel
        have c0 := HV.out.c0
        have c1 := HV.out.c1
        by_cases hxl : x < W
        · have HI := run.hid (show q + x < W * H by omega)
          have HNX := run.hid (HAT2.out x hxl)
          obtain ⟨g, cap, rfl, -⟩ := HV.out.rb.slice HI.out
          generalize hL1 : FT (q + x + 1) = L1 at *
          have HL1 := run.hid hL1
          clear hL1
          generalize FT (q + x) = L0 at *
          have hxb : x ≤ 4096 := by omega
          clear hrow
          obtain ⟨⟨m0, m1, m2, m3⟩, -⟩ := blk4 (HV.out.bx _ (.tail _ (.head _))).1
          go_wp2_with fail
          refine (HHAS.out _ _ _).mono ?_
          rintro e w3 ⟨rfl, hb3⟩
          have HV3 := run.hid (HV.out.below hb3)
          clear m0 m1 m2 m3 hb3 HV c0 c1
          cases hh : has (x : Nat) (y : Nat)
          · have e : L1 = L0 := by rw [HNX.out, if_neg (by rw [hh]; decide)]
            clear HNX
            go_wp2
            go_roundw
            case rel => exact ⟨x + 1, by omega, by go_num, by show RV _ _ _ _ _ _ _ _ _; rw [← Nat.add_assoc, HL1.out, e]; exact HV3.out⟩
            case measure => simp [intOf]; omega
          · have e : L1 = L0.set (q + x) bl := by rw [HNX.out, if_pos hh]
            have HE := run.hid e
            clear HNX e
            go_upto_region 10 with fail
            refine lx.region (fun D X => ∃ L2, RV w B r (.slice (some ⟨g, 0, none⟩) (W * H : Nat) cap) W H [(n, #[.int .i32 sf, .int .i32 sb, .int .u8 sa], 32), (m, #[.int .i64 r1, .int .i64 r2, .int .i64 r3, .int .i64 r4], 34)] L2 X ∧ (D 15 = false → L2 = L0) ∧ (D 15 = true → L2 = (L0).set (q + x) (bl))) (by kernel_rfl) (by kernel_rfl) (by kernel_rfl) ⟨L0, HV3.out.drew, fun _ => rfl, fun h => (by cases h)⟩ ?_
            refine lx.begin 48 rfl ?_
            refine lx.o_pure (.pointer (some ⟨r, 0, none⟩)) (fun _ _ h => by first | rfl | kernel_rfl) ?_
            refine lx.o_pure (.pointer (some ⟨r, 0, none⟩)) (fun _ _ h => by first | rfl | kernel_rfl) ?_
            refine lx.o_pure (.pointer (some ⟨r, 2, none⟩)) (fun _ _ h => by first | rfl | kernel_rfl) ?_
            refine lx.o_pure (.slice (some ⟨g, 0, none⟩) (W * H : Nat) cap) (fun D X hC => lx.run_load rfl rfl Tryz.underlying35 rfl (blk3 hC.choose_spec.1.rb.box).1.2.2) ?_
            refine lx.o_pure (.int .i64 (y : Nat)) (fun _ _ h => by first | rfl | kernel_rfl) ?_
            refine lx.o_pure (.pointer (some ⟨r, 0, none⟩)) (fun _ _ h => by first | rfl | kernel_rfl) ?_
            refine lx.o_pure (.pointer (some ⟨r, 0, none⟩)) (fun _ _ h => by first | rfl | kernel_rfl) ?_
            refine lx.o_pure (.pointer (some ⟨r, 0, none⟩)) (fun _ _ h => by first | rfl | kernel_rfl) ?_
            refine lx.o_pure (.int .i64 (W : Nat)) (fun D X hC => lx.run_load rfl rfl Tryz.underlying3 rfl hC.choose_spec.1.c0) ?_
            refine lx.o_pure (.int .i64 (q : Nat)) (fun _ _ _ => lx.run_mul rfl rfl rfl HQ.out (by omega)) ?_
            refine lx.o_pure (.int .i64 (x : Nat)) (fun _ _ h => by first | rfl | kernel_rfl) ?_
            refine lx.o_pure (.int .i64 ((q + x : Nat) : Int)) (fun _ _ _ => lx.run_add rfl rfl rfl (by omega) (by push_cast; rfl)) ?_
            refine lx.o_pure (.agg #[.int .i32 sf, .int .i32 sb, .int .u8 sa]) (fun D X hC => run_loadrow rfl rfl (hC.choose_spec.1.bx _ (.head _)).1 Tryz.underlying32 rfl (by kernel_rfl)) ?_
            refine lx.o_call bl.val 34 #[.agg #[.int .i32 sf, .int .i32 sb, .int .u8 sa]] (fun _ _ _ => lx.run_fn rfl rfl rfl (enters_of Tryz.func34 (by kernel_rfl) rfl)) (fun D X hC => (HBL.out X).mono fun e w2 ⟨he, hw⟩ => ⟨he, by obtain ⟨L2, h1, h2⟩ := hC; exact ⟨L2, h1.below hw, h2⟩⟩) ?_
            refine lx.o_pure (.pointer (some ⟨g, (q + x) * 5, none⟩)) (fun D X hC => run_at5 rfl rfl rfl HI.out Tryz.underlying35 hinf hsz) ?_
            refine lx.o_put (fun D X h0 hdep hC => ?_) ?_
            · obtain ⟨L2, hS2, h1, h2⟩ := hC
              obtain rfl := h1 h0
              exact ⟨_, hS2.put HI.out rfl rfl rfl (c := bl), _, hS2.store HI.out (bl), (fun h => by cases h), fun _ => rfl⟩
            refine lx.o_end ?_
            simp only [lx.ov]
            rintro X d hd ⟨L2, hS2, -, h2⟩
            obtain rfl := h2 (hd 15 (by decide))
            have HV9 := run.hid hS2
            clear hS2 h2 hd HV3
            go_simp
            go_wp2
            go_roundw
            case rel => exact ⟨x + 1, by omega, by go_num, by show RV _ _ _ _ _ _ _ _ _; rw [← Nat.add_assoc, HL1.out, HE.out]; exact HV9.out⟩
            case measure => simp [intOf]; omega
        · obtain rfl : x = W := by omega
          go_wp2
          go_roundw
          case rel => exact ⟨y + 1, by omega, by go_num, by show RV _ _ _ _ _ _ _ _ _; rw [HROW2.out]; exact HV.out⟩
          case measure => simp [intOf]; omega
    · obtain rfl : y = H := by omega
      have HE := run.hid (And.intro HV.out.rb HV.out.grown)
      clear HV
      go_wp2
      first | go_end0 | (refine bodyPost_ret (results_none rfl _ _ _) rfl ?_)
      exact ⟨rfl, by rw [Nat.mul_comm W y]; exact HE.out.1, HE.out.2⟩
end Go.Proofs.YtdgcfmfjgidbjaaGreat.cel
