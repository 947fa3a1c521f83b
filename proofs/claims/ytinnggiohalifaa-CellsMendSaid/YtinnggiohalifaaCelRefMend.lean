/-
  The walks of the document's cells: a blank; a row mended.
-/
import Derived.Test.YtinnggiohalifaaCelF
import Derived.Test.YtinnggiohalifaaCelRefRow2
import Derived.Test.YtinnggiohalifaaLxA
namespace Go.Proofs.Ytinnggiohalifaa.cel
open Go Go.RowKit Go.Proofs
set_option linter.unusedVariables false

set_option maxRecDepth 100000 in
set_option maxHeartbeats 2000000 in
theorem refblank_any (s : SV) (hs : s.wf) (w : World) : Calls Try.prog 25 #[s.val] w fun e w' => e = .returned (blankT s).val ∧ Below w.heap.size w w' := by
  have H1 := run.hid (fun w => refcounts_any s hs w)
  clear hs
  unfold blankT
  generalize (overS s) = t at *
  obtain ⟨a, b, c⟩ := s
  obtain ⟨a', b', c'⟩ := t
  change Hid (∀ w, Calls _ _ #[.agg #[.int .i32 a, .int .i32 b, .int .u8 c]] _ fun e w' => e = .returned (.agg #[.int .i32 a', .int .i32 b', .int .u8 c']) ∧ _) at H1
  show Calls _ _ #[.agg #[.int .i32 a, .int .i32 b, .int .u8 c]] _ fun e w' => e = .returned (.agg #[.string ⟨#[32]⟩, .int .i8 1, .int .i32 a', .int .i32 b', .int .u8 c']) ∧ _
  have hb0 := run.below_two w (.cells #[.int .i32 a, .int .i32 b, .int .u8 c] 24) (.cells #[.string ⟨#[]⟩, .int .i8 0, .int .i32 0, .int .i32 0, .int .u8 0] 44)
  have k2 := heap_alloc2_new w (.cells #[.int .i32 a, .int .i32 b, .int .u8 c] 24) (.cells #[.string ⟨#[]⟩, .int .i8 0, .int .i32 0, .int .i32 0, .int .u8 0] 44)
  have KK := run.hid (And.intro hb0 k2)
  clear hb0 k2
  go_enter Try.func25, Try.ntmps25
  go_wp2_with fail
  refine (H1.out _).mono ?_
  rintro e w1 ⟨rfl, hb1⟩
  have k3 := (hb1.block (w.heap.size + 1) (by simp)).trans KK.out.2
  obtain ⟨⟨d0, d1, d2, d3, d4⟩, f0, f1, f2, f3, f4⟩ := blk5 k3
  have K9 := run.hid (set5 (a' := .string ⟨#[32]⟩) (b' := .int .i8 1) (c' := .int .i32 a') (d' := .int .i32 b') (e' := .int .u8 c') k3)
  have HB9 := run.hid (below5 (.string ⟨#[32]⟩) (.int .i8 1) (.int .i32 a') (.int .i32 b') (.int .u8 c') (KK.out.1.trans (hb1.mono KK.out.1.size)) (show w.heap.size ≤ w.heap.size + 1 by omega))
  clear k3 hb1 KK H1
  go_wp2
  refine bodyPost_ret (v := .agg #[.string ⟨#[32]⟩, .int .i8 1, .int .i32 a', .int .i32 b', .int .u8 c']) (results_cell_row rfl _ _ (w.heap.size + 1) _ _ _ _ rfl K9.out Try.underlying44 rfl (by kernel_rfl)) rfl ?_
  exact ⟨rfl, HB9.out⟩

theorem setC_grown0 (w : World) (g : Nat) (c : CV) : w.grownBy (((((w.setCell ⟨g, 0, none⟩ (.string c.text)).setCell ⟨g, 1, none⟩ (.int .i8 c.wide)).setCell ⟨g, 2, none⟩ (.int .i32 c.sty.fg)).setCell ⟨g, 3, none⟩ (.int .i32 c.sty.bg)).setCell ⟨g, 4, none⟩ (.int .u8 c.sty.att)) (some g) :=
  run.grown_trans (run.setCell_grown w g 0 (.string c.text)) (run.grown_trans (run.setCell_grown _ g 1 (.int .i8 c.wide)) (run.grown_trans (run.setCell_grown _ g 2 (.int .i32 c.sty.fg)) (run.grown_trans (run.setCell_grown _ g 3 (.int .i32 c.sty.bg)) (run.setCell_grown _ g 4 (.int .u8 c.sty.att)) (.inl rfl)) (.inl rfl)) (.inl rfl)) (.inl rfl)

set_option maxRecDepth 100000 in
set_option maxHeartbeats 8000000 in
theorem refmend_any (a : Option Addr) (cap : Nat) (L : List CV) (w : World) (hR : Reads5 w (.slice a L.length cap) L) (hN : L.length ≤ 134217728) (hL : ∀ c ∈ L, Fit c ∧ c.sty.wf) :
    Calls Try.prog 18 #[.slice a L.length cap] w fun e w' => ∃ v, e = .returned v ∧ w'.ownsRow w.heap.size 44 5 v L.length (cells5 (mendT L)) ∧ Below w.heap.size w w' := by
  obtain ⟨it, hinf, hz0, hsz, hby⟩ := info_parts info_cell
  have HA := run.hid (fun i (hi : i < L.length) => reads_cell hR hi)
  have HLL := run.hid (fun i (hi : i < L.length) => hL (L.getD i z0) (by rw [List.getD_eq_getElem?_getD, List.getElem?_eq_getElem hi]; exact List.getElem_mem _))
  have HUU := run.hid (fun i (hi : i < L.length) => And.intro (@unitT_at L i hi) (@mendT_step L i hi))
  have HE := run.hid (mendT_end L)
  have H0 := run.hid (show mendT L = [] ++ mendT (L.drop 0) from rfl)
  have HTK := run.hid (fun i (hi : i < L.length) => show (L.drop i).take 1 = [L.getD i z0] from by rw [List.drop_eq_getElem_cons hi, List.take_succ_cons, List.take_zero]; simp [List.getD_eq_getElem?_getD, hi])
  have HTK2 := run.hid (fun i (hi : i + 1 < L.length) => show (L.drop i).take 2 = [L.getD i z0, L.getD (i + 1) z0] from by rw [List.drop_eq_getElem_cons (show i < L.length by omega), List.drop_eq_getElem_cons hi, List.take_succ_cons, List.take_succ_cons, List.take_zero]; simp [List.getD_eq_getElem?_getD, hi, show i < L.length by omega])
  have HNIL := run.hid (show w.ownsRow w.heap.size 44 5 (.slice none 0 0) 0 (cells5 []) from ⟨rfl, .inl ⟨rfl, rfl⟩⟩)
  clear hR hL
  generalize L.length = N at *
  go_enter Try.func18, Try.ntmps18
  go_wp2
  go_loopw [4, 3] (fun vi v wr => ∃ (i : Nat) (D : List CV), i ≤ N ∧ vi = .int .i64 i ∧ D.length = i ∧ Hid (mendT L = D ++ mendT (L.drop i)) ∧ Hid (wr.ownsRow w.heap.size 44 5 v i (cells5 D)) ∧ Hid (Below w.heap.size w wr)) (fun vi _ _ => ((N : Int) - intOf vi).toNat)
  case atStart => exact ⟨0, [], Nat.zero_le _, rfl, rfl, H0, HNIL, run.hid (Below.refl _ _)⟩
  case round =>
    obtain ⟨i, D, hi, rfl, hDl, HI, HO, HBL⟩ := hrel
    by_cases hlt : i < N
    · obtain ⟨b1, o1, rfl, hb1, hc1⟩ := HA.out i hlt
      obtain ⟨hfx, hwf⟩ := HLL.out i hlt
      obtain ⟨hu, hst⟩ := HUU.out i hlt
      have HUi := run.hid hu
      have HST := run.hid (HI.out.trans (congrArg (D ++ ·) hst))
      have HC1 := run.hid (fun (X : World) (h : Below w.heap.size w X) => hc1.below h hb1)
      have HD := run.hid (HTK.out i hlt)
      have HSi := run.hid (fun w => refsingle_any (L.getD i z0) hfx hwf w)
      have HOX := run.hid (fun k (hk : u3.ownBlock = some k) => show k < wr.heap.size from (HO.out.lt k hk).2)
      clear hu hst hc1 HI HTK
      by_cases hlt2 : i + 1 < N
      · obtain ⟨b2, o2, e2, hb2, hc2⟩ := HA.out (i + 1) hlt2
        simp only [Option.some.injEq, Addr.mk.injEq, and_true] at e2
        obtain ⟨rfl, rfl⟩ := e2
        have HC2 := run.hid (fun (X : World) (h : Below w.heap.size w X) => hc2.below h hb2)
        have HPi := run.hid (fun w => refpair_any (L.getD i z0) (L.getD (i + 1) z0) hfx hwf w)
        have HD2 := run.hid (HTK2.out i hlt2)
        clear hc2 hb2 hfx HTK2
        generalize L.getD i z0 = x at *
        generalize L.getD (i + 1) z0 = y at *
        by_cases hpr : unit1 x = 2 ∧ y = restT x.sty
        · have hu2 : unitT (L.drop i) = 2 := by rw [HUi.out, if_neg (fun k => k.2 ⟨hlt2, hpr.2⟩)]; exact hpr.1
          have HK : Hid (mendT L = (D ++ [x, y]) ++ mendT (L.drop (i + 2))) := by
            show _ = _
            rw [HST.out, hu2, if_neg (by decide), HD2.out, List.append_assoc]
            rfl
          rw [decide_eq_true hpr] at HPi
          clear hu2 hpr HST HUi HD HD2
          have HP := run.hid hwf
          have HBB := run.hid hwf
          have HR1 := run.hid hwf
          go_upto_region 4 with fail
          go_cut [26] (fun c X => c = .bool true ∧ Below wr.heap.size wr X)
          case first =>
            refine lx.region (fun D X => Below wr.heap.size wr X) (by kernel_rfl) (by kernel_rfl) (by kernel_rfl) (drewB (Below.refl _ _)) ?_
            refine lx.begin 58 rfl ?_
            refine lx.o_pure (.int .i64 (i : Nat)) (fun _ _ h => by first | rfl | kernel_rfl) ?_
            refine lx.o_pure (.int .i64 ((i + 1 : Nat) : Int)) (fun D X hC => lx.run_add rfl rfl rfl (by omega) (by push_cast; rfl)) ?_
            refine lx.o_pure (.slice (some ⟨b1, o1, none⟩) N cap) (fun _ _ h => by first | rfl | kernel_rfl) ?_
            refine lx.o_pure (.int .i64 (N : Nat)) (fun D X hC => by first | rfl | kernel_rfl) ?_
            refine lx.o_pure (.bool true) (fun D X hC => run_lss rfl rfl rfl (decide_eq_true (by omega))) ?_
            refine lx.o_pure (.bool true) (fun _ _ h => by first | rfl | kernel_rfl) ?_
            refine lx.o_pure (.slice (some ⟨b1, o1, none⟩) N cap) (fun _ _ h => by first | rfl | kernel_rfl) ?_
            refine lx.o_pure (.int .i64 (i : Nat)) (fun _ _ h => by first | rfl | kernel_rfl) ?_
            refine lx.o_pure (.pointer (some ⟨b1, o1 + i * 5, none⟩)) (fun D X hC => lx.run_at rfl rfl rfl hlt Try.underlying35 hinf hsz) ?_
            refine lx.o_pure (x.val) (fun D X hC => run_load5 rfl rfl (HC1.out _ (HBL.out.trans (hC.mono HBL.out.size)))) ?_
            refine lx.o_pure (.slice (some ⟨b1, o1, none⟩) N cap) (fun _ _ h => by first | rfl | kernel_rfl) ?_
            refine lx.o_pure (.int .i64 (i : Nat)) (fun _ _ h => by first | rfl | kernel_rfl) ?_
            refine lx.o_pure (.int .i64 ((i + 1 : Nat) : Int)) (fun D X hC => lx.run_add rfl rfl rfl (by omega) (by push_cast; rfl)) ?_
            refine lx.o_pure (.pointer (some ⟨b1, o1 + (i + 1) * 5, none⟩)) (fun D X hC => lx.run_at rfl rfl rfl hlt2 Try.underlying35 hinf hsz) ?_
            refine lx.o_pure (y.val) (fun D X hC => run_load5 rfl rfl (HC2.out _ (HBL.out.trans (hC.mono HBL.out.size)))) ?_
            refine lx.o_call (.bool true) 45 #[x.val, y.val] (fun _ _ _ => lx.run_fn rfl rfl rfl (enters_of Try.func45 (by kernel_rfl) rfl)) (fun D X hC => (HPi.out X).mono fun e w2 ⟨he, hw⟩ => ⟨he, hC.trans (hw.mono hC.size)⟩) ?_
            refine lx.o_pure (.bool true) (fun _ _ h => by first | rfl | kernel_rfl) ?_
            refine lx.o_end ?_
            simp only [lx.ov]
            rintro X d hd hC
            have HF := run.hid hC
            clear hC hd
            go_simp
            go_wp2
            go_meet
            case rel => exact ⟨rfl, HF.out⟩
          obtain ⟨rfl, hX⟩ := hcut
          have HB3 := run.hid (HBL.out.trans (hX.mono HBL.out.size))
          have HO3 := run.hid (run.own_below HO.out hX)
          have hwX := hX.size
          clear HBL HO hX
          generalize wc = wX at *
          have hs3 := HB3.out.size
          obtain ⟨v8, w8, hr8, hown8, hgrow, hold, hstep⟩ := run.run_append_any (P := Try.prog) (wX.drew.alloc (.cells #[.string x.text, .int .i8 x.wide, .int .i32 x.sty.fg, .int .i32 x.sty.bg, .int .u8 x.sty.att, .string y.text, .int .i8 y.wide, .int .i32 y.sty.fg, .int .i32 y.sty.bg, .int .u8 y.sty.att] 44)) w.heap.size 35 35 44 it (.agg #[.string ⟨#[]⟩, .int .i8 0, .int .i32 0, .int .i32 0, .int .u8 0]) 5 32 Try.underlying35 hinf hz0 hsz hby rfl (by decide) u3 i (cells5 D) (HO3.out.drew.alloc _) (.slice (some ⟨wX.heap.size, 0, none⟩) 2 2) 2 [.string x.text, .int .i8 x.wide, .int .i32 x.sty.fg, .int .i32 x.sty.bg, .int .u8 x.sty.att, .string y.text, .int .i8 y.wide, .int .i32 y.sty.fg, .int .i32 y.sty.bg, .int .u8 y.sty.att] (run.readsN_new wX.drew [.string x.text, .int .i8 x.wide, .int .i32 x.sty.fg, .int .i32 x.sty.bg, .int .u8 x.sty.att, .string y.text, .int .i8 y.wide, .int .i32 y.sty.fg, .int .i32 y.sty.bg, .int .u8 y.sty.att] 2 5 _ rfl) (by intro u hu; simp only [List.mem_cons, List.not_mem_nil, or_false] at hu; rcases hu with rfl | rfl | rfl | rfl | rfl | rfl | rfl | rfl | rfl | rfl <;> rfl) (by unfold maxLen; omega) (by omega) (by simp; omega)
          have hB8 := run.below_append ((drewB HB3.out).alloc (by simp; omega) _) (HO3.out.drew.alloc (.cells #[.string x.text, .int .i8 x.wide, .int .i32 x.sty.fg, .int .i32 x.sty.bg, .int .u8 x.sty.att, .string y.text, .int .i8 y.wide, .int .i32 y.sty.fg, .int .i32 y.sty.bg, .int .u8 y.sty.att] 44)) hgrow (by simp; omega)
          have hown9 : w8.ownsRow w.heap.size 44 5 v8 (i + 2) (cells5 (D ++ [x, y])) := by rw [cells5_append]; exact hown8
          have HF := run.hid hown9
          have HFB := run.hid hB8
          clear hown8 hown9 hgrow hold hstep HA HP HBB HUU HLL HR1 HPi HSi
          go_upto_region 5 with fail
          have FB : ∀ (D : Nat → Bool) (X : World), ((D 10 = false ∧ D 11 = false ∧ X = wX.drew) ∨ (D 10 = true ∧ D 11 = false ∧ X = wX.drew.alloc (.cells #[.string x.text, .int .i8 x.wide, .int .i32 x.sty.fg, .int .i32 x.sty.bg, .int .u8 x.sty.att, .string y.text, .int .i8 y.wide, .int .i32 y.sty.fg, .int .i32 y.sty.bg, .int .u8 y.sty.att] 44)) ∨ (D 10 = true ∧ D 11 = true ∧ X = w8)) → Below w.heap.size w X := by
            rintro D X (⟨-, -, rfl⟩ | ⟨-, -, rfl⟩ | ⟨-, -, rfl⟩)
            · exact drewB HB3.out
            · exact (drewB HB3.out).alloc hs3 _
            · exact HFB.out
          refine lx.region (fun D X => (D 10 = false ∧ D 11 = false ∧ X = wX.drew) ∨ (D 10 = true ∧ D 11 = false ∧ X = wX.drew.alloc (.cells #[.string x.text, .int .i8 x.wide, .int .i32 x.sty.fg, .int .i32 x.sty.bg, .int .u8 x.sty.att, .string y.text, .int .i8 y.wide, .int .i32 y.sty.fg, .int .i32 y.sty.bg, .int .u8 y.sty.att] 44)) ∨ (D 10 = true ∧ D 11 = true ∧ X = w8)) (by kernel_rfl) (by kernel_rfl) (by kernel_rfl) (.inl ⟨rfl, rfl, rfl⟩) ?_
          refine lx.begin 58 rfl ?_
          refine lx.o_pure (u3) (fun _ _ h => by first | rfl | kernel_rfl) ?_
          refine lx.o_pure (.slice (some ⟨b1, o1, none⟩) N cap) (fun _ _ h => by first | rfl | kernel_rfl) ?_
          refine lx.o_pure (.int .i64 (i : Nat)) (fun _ _ h => by first | rfl | kernel_rfl) ?_
          refine lx.o_pure (.pointer (some ⟨b1, o1 + i * 5, none⟩)) (fun D X hC => lx.run_at rfl rfl rfl hlt Try.underlying35 hinf hsz) ?_
          refine lx.o_pure (x.val) (fun D X hC => run_load5 rfl rfl (HC1.out _ (FB D X hC))) ?_
          refine lx.o_pure (.slice (some ⟨b1, o1, none⟩) N cap) (fun _ _ h => by first | rfl | kernel_rfl) ?_
          refine lx.o_pure (.int .i64 (i : Nat)) (fun _ _ h => by first | rfl | kernel_rfl) ?_
          refine lx.o_pure (.int .i64 ((i + 1 : Nat) : Int)) (fun D X hC => lx.run_add rfl rfl rfl (by omega) (by push_cast; rfl)) ?_
          refine lx.o_pure (.pointer (some ⟨b1, o1 + (i + 1) * 5, none⟩)) (fun D X hC => lx.run_at rfl rfl rfl hlt2 Try.underlying35 hinf hsz) ?_
          refine lx.o_pure (y.val) (fun D X hC => run_load5 rfl rfl (HC2.out _ (FB D X hC))) ?_
          refine lx.o_eff (.slice (some ⟨wX.heap.size, 0, none⟩) 2 2) (fun D X h0 hdep hC => ?_) ?_
          · have h0' : D 10 = false := h0
            rcases hC with ⟨h1, h2, rfl⟩ | ⟨h1, h2, rfl⟩ | ⟨h1, h2, rfl⟩
            · exact ⟨_, run_build2 (c := x) (d := y) rfl rfl rfl, .inr (.inl ⟨rfl, h2, rfl⟩)⟩
            · rw [h0'] at h1; cases h1
            · rw [h0'] at h1; cases h1
          refine lx.o_eff v8 (fun D X h0 hdep hC => ?_) ?_
          · have h0' : D 11 = false := h0
            have h10 : D 10 = true := hdep ⟨10, .data⟩ (by simp) rfl
            rcases hC with ⟨h1, h2, rfl⟩ | ⟨h1, h2, rfl⟩ | ⟨h1, h2, rfl⟩
            · rw [h10] at h1; cases h1
            · exact ⟨_, run_append rfl rfl rfl hr8, .inr (.inr ⟨h10, rfl, rfl⟩)⟩
            · rw [h0'] at h2; cases h2
          refine lx.o_pure (v8) (fun _ _ h => by first | rfl | kernel_rfl) ?_
          refine lx.o_end ?_
          simp only [lx.ov]
          rintro X d hd hC
          have h11 := hd 11 (by decide)
          obtain rfl : X = w8 := by
            rcases hC with ⟨-, h2, -⟩ | ⟨-, h2, -⟩ | ⟨-, -, h⟩
            · rw [h11] at h2; cases h2
            · rw [h11] at h2; cases h2
            · exact h
          clear hC hd h11 FB hr8 HC1 HC2 HB3 HO3
          go_simp
          go_wp2
          go_roundw
          case rel => exact ⟨i + 2, D ++ [x, y], by omega, by go_num, by rw [List.length_append, hDl]; rfl, HK, HF, HFB⟩
          case measure => simp [intOf]; omega
        · rw [decide_eq_false hpr] at HPi
          have HUj : Hid (unitT (L.drop i) = if unit1 x = 1 then 1 else 0) := by
            show _ = _
            rw [HUi.out]
            have := unit1_le x
            by_cases h2 : unit1 x = 2
            · rw [if_pos ⟨h2, fun k => hpr ⟨h2, k.2⟩⟩, if_neg (by omega)]
            · rw [if_neg (fun k => h2 k.1)]; split <;> omega
          replace HST : Hid (mendT L = D ++ ((if unitT (L.drop i) = 0 then [blankT x.sty] else (L.drop i).take 1) ++ mendT (L.drop (i + 1)))) := by
            show _ = _
            rw [HST.out]
            have h3 : unitT (L.drop i) = 0 ∨ unitT (L.drop i) = 1 := by rw [HUj.out]; split <;> simp
            rcases h3 with h3 | h3 <;> rw [h3] <;> rfl
          clear hpr HUi HD2
          have HP := run.hid hwf
          have HBB := run.hid hwf
          go_upto_region 4 with fail
          go_cut [26] (fun c X => c = .bool false ∧ Below wr.heap.size wr X)
          case first =>
            refine lx.region (fun D X => Below wr.heap.size wr X) (by kernel_rfl) (by kernel_rfl) (by kernel_rfl) (drewB (Below.refl _ _)) ?_
            refine lx.begin 58 rfl ?_
            refine lx.o_pure (.int .i64 (i : Nat)) (fun _ _ h => by first | rfl | kernel_rfl) ?_
            refine lx.o_pure (.int .i64 ((i + 1 : Nat) : Int)) (fun D X hC => lx.run_add rfl rfl rfl (by omega) (by push_cast; rfl)) ?_
            refine lx.o_pure (.slice (some ⟨b1, o1, none⟩) N cap) (fun _ _ h => by first | rfl | kernel_rfl) ?_
            refine lx.o_pure (.int .i64 (N : Nat)) (fun D X hC => by first | rfl | kernel_rfl) ?_
            refine lx.o_pure (.bool true) (fun D X hC => run_lss rfl rfl rfl (decide_eq_true (by omega))) ?_
            refine lx.o_pure (.bool true) (fun _ _ h => by first | rfl | kernel_rfl) ?_
            refine lx.o_pure (.slice (some ⟨b1, o1, none⟩) N cap) (fun _ _ h => by first | rfl | kernel_rfl) ?_
            refine lx.o_pure (.int .i64 (i : Nat)) (fun _ _ h => by first | rfl | kernel_rfl) ?_
            refine lx.o_pure (.pointer (some ⟨b1, o1 + i * 5, none⟩)) (fun D X hC => lx.run_at rfl rfl rfl hlt Try.underlying35 hinf hsz) ?_
            refine lx.o_pure (x.val) (fun D X hC => run_load5 rfl rfl (HC1.out _ (HBL.out.trans (hC.mono HBL.out.size)))) ?_
            refine lx.o_pure (.slice (some ⟨b1, o1, none⟩) N cap) (fun _ _ h => by first | rfl | kernel_rfl) ?_
            refine lx.o_pure (.int .i64 (i : Nat)) (fun _ _ h => by first | rfl | kernel_rfl) ?_
            refine lx.o_pure (.int .i64 ((i + 1 : Nat) : Int)) (fun D X hC => lx.run_add rfl rfl rfl (by omega) (by push_cast; rfl)) ?_
            refine lx.o_pure (.pointer (some ⟨b1, o1 + (i + 1) * 5, none⟩)) (fun D X hC => lx.run_at rfl rfl rfl hlt2 Try.underlying35 hinf hsz) ?_
            refine lx.o_pure (y.val) (fun D X hC => run_load5 rfl rfl (HC2.out _ (HBL.out.trans (hC.mono HBL.out.size)))) ?_
            refine lx.o_call (.bool false) 45 #[x.val, y.val] (fun _ _ _ => lx.run_fn rfl rfl rfl (enters_of Try.func45 (by kernel_rfl) rfl)) (fun D X hC => (HPi.out X).mono fun e w2 ⟨he, hw⟩ => ⟨he, hC.trans (hw.mono hC.size)⟩) ?_
            refine lx.o_pure (.bool false) (fun _ _ h => by first | rfl | kernel_rfl) ?_
            refine lx.o_end ?_
            simp only [lx.ov]
            rintro X d hd hC
            have HF := run.hid hC
            clear hC hd
            go_simp
            go_wp2
            go_meet
            case rel => exact ⟨rfl, HF.out⟩
          obtain ⟨rfl, hX⟩ := hcut
          have HB3 := run.hid (HBL.out.trans (hX.mono HBL.out.size))
          have HO3 := run.hid (run.own_below HO.out hX)
          have hwX := hX.size
          clear HBL HO hX
          generalize wc = wX at *
          clear HC2 HPi HA
          have HPi := run.hid hwf
          obtain ⟨d0, d1, d2, d3, d4⟩ := HC1.out _ HB3.out
          by_cases h1 : unit1 x = 1
          · rw [decide_eq_true h1] at HSi
            have HK : Hid (mendT L = (D ++ [x]) ++ mendT (L.drop (i + 1))) := by
              show _ = _
              rw [HST.out, HUj.out, if_pos h1, if_neg (by decide), List.append_assoc]
              congr 1
              rw [HD.out]
              try rfl
            clear h1 HST HUj HD HP HBB HUU
            obtain ⟨xt, xw, ⟨xf, xb, xa⟩⟩ := x
            change Hid (∀ w, Calls _ _ #[.agg #[.string xt, .int .i8 xw, .int .i32 xf, .int .i32 xb, .int .u8 xa]] _ _) at HSi
            have HA3 := run.hid (HB3.out.alloc HB3.out.size (.cells #[.string xt, .int .i8 xw, .int .i32 xf, .int .i32 xb, .int .u8 xa] 44))
            have HO3a := run.hid (HO3.out.alloc (.cells #[.string xt, .int .i8 xw, .int .i32 xf, .int .i32 xb, .int .u8 xa] 44))
            have HK3 := run.hid (heap_alloc_new wX (.cells #[.string xt, .int .i8 xw, .int .i32 xf, .int .i32 xb, .int .u8 xa] 44))
            clear HB3 HO3
            go_wp2_with fail
            refine (HSi.out _).mono ?_
            rintro e w4 ⟨rfl, hb4⟩
            have hB4 := HA3.out.trans (hb4.mono HA3.out.size)
            have HO4 := run.hid (run.own_below HO3a.out hb4)
            have hk4 := (hb4.block wX.heap.size (by simp)).trans HK3.out
            obtain ⟨⟨q0, q1, q2, q3, q4⟩, -⟩ := blk5 hk4
            have hs4 := hB4.size
            clear hb4 HSi d0 d1 d2 d3 d4 HA3 HO3a HK3 hk4
            go_wp2_with (at_builtin; refine run.wpList_append_any _ rfl _ _ 35 rfl w.heap.size 44 it (.agg #[.string ⟨#[]⟩, .int .i8 0, .int .i32 0, .int .i32 0, .int .u8 0]) 5 32 Try.underlying35 hinf hz0 hsz hby rfl (by decide) _ i (cells5 D) rfl (HO4.out.alloc _) _ 1 [.string xt, .int .i8 xw, .int .i32 xf, .int .i32 xb, .int .u8 xa] rfl (run.readsN_new _ [.string xt, .int .i8 xw, .int .i32 xf, .int .i32 xb, .int .u8 xa] 1 5 _ rfl) (by intro u hu; simp only [List.mem_cons, List.not_mem_nil, or_false] at hu; rcases hu with rfl | rfl | rfl | rfl | rfl <;> rfl) (by unfold maxLen; omega) (by omega) (by simp <;> omega) ?_)
            intro v8 w8 hown8 hg8 hold8 hst8
            have hB8 := run.below_append (hB4.alloc hs4 _) (HO4.out.alloc _) hg8 (by simp <;> omega)
            have hown9 : w8.ownsRow w.heap.size 44 5 v8 (i + 1) (cells5 (D ++ [⟨xt, xw, ⟨xf, xb, xa⟩⟩])) := by rw [cells5_append]; exact hown8
            have HF := run.hid hown9
            have HFB := run.hid hB8
            clear hown8 hown9 hg8 hold8 hst8 hB8 hB4 HO4 q0 q1 q2 q3 q4 HC1 HPi
            go_wp2
            go_roundw
            case rel => exact ⟨i + 1, D ++ [⟨xt, xw, ⟨xf, xb, xa⟩⟩], by omega, by go_num, by rw [List.length_append, hDl]; rfl, HK, HF, HFB⟩
            case measure => simp [intOf]; omega
          · rw [decide_eq_false h1] at HSi
            have HK : Hid (mendT L = (D ++ [blankT x.sty]) ++ mendT (L.drop (i + 1))) := by
              show _ = _
              rw [HST.out, HUj.out, if_neg h1, if_pos rfl, List.append_assoc]
              try rfl
            have HBLi := run.hid (fun w => refblank_any x.sty hwf w)
            obtain ⟨⟨yt, yw, ⟨yf, yb, ya⟩⟩, hyy⟩ : ∃ q, q = blankT x.sty := ⟨_, rfl⟩
            rw [← hyy] at HBLi HK
            clear h1 HST HUj HD HP HBB HUU hyy
            obtain ⟨xt, xw, ⟨xf, xb, xa⟩⟩ := x
            change Hid (∀ w, Calls _ _ #[.agg #[.string xt, .int .i8 xw, .int .i32 xf, .int .i32 xb, .int .u8 xa]] _ _) at HSi
            change Hid (∀ w, Calls _ _ #[.agg #[.int .i32 xf, .int .i32 xb, .int .u8 xa]] _ fun e w' => e = .returned (.agg #[.string yt, .int .i8 yw, .int .i32 yf, .int .i32 yb, .int .u8 ya]) ∧ _) at HBLi
            have HA3 := run.hid (HB3.out.alloc HB3.out.size (.cells #[.string xt, .int .i8 xw, .int .i32 xf, .int .i32 xb, .int .u8 xa] 44))
            have HO3a := run.hid (HO3.out.alloc (.cells #[.string xt, .int .i8 xw, .int .i32 xf, .int .i32 xb, .int .u8 xa] 44))
            have HK3 := run.hid (heap_alloc_new wX (.cells #[.string xt, .int .i8 xw, .int .i32 xf, .int .i32 xb, .int .u8 xa] 44))
            have hsX := HB3.out.size
            clear HB3 HO3
            go_wp2_with fail
            refine (HSi.out _).mono ?_
            rintro e w3 ⟨rfl, hb3⟩
            have hB3 := HA3.out.trans (hb3.mono HA3.out.size)
            have HO3b := run.hid (run.own_below HO3a.out hb3)
            have HK3b := run.hid ((hb3.block wX.heap.size (by simp)).trans HK3.out)
            obtain ⟨⟨p0, p1, p2, p3, p4⟩, -⟩ := blk5 HK3b.out
            clear hb3 HSi d0 d1 d2 d3 d4 HA3 HO3a HK3
            go_wp2_with fail
            refine (HBLi.out _).mono ?_
            rintro e w5 ⟨rfl, hb5⟩
            have hB5 := hB3.trans (hb5.mono hB3.size)
            have HO5 := run.hid (run.own_below HO3b.out hb5)
            have hk5 := (hb5.block wX.heap.size (Array.getElem?_eq_some_iff.1 HK3b.out).1).trans HK3b.out
            obtain ⟨⟨r0, r1, r2, r3, r4⟩, f0, f1, f2, f3, f4⟩ := blk5 hk5
            have hk6 := set5 (a' := .string yt) (b' := .int .i8 yw) (c' := .int .i32 yf) (d' := .int .i32 yb) (e' := .int .u8 ya) hk5
            have hB4 := below5 (.string yt) (.int .i8 yw) (.int .i32 yf) (.int .i32 yb) (.int .u8 ya) hB5 hsX
            have hneo : u3.ownBlock = none ∨ u3.ownBlock ≠ some wX.heap.size := by
              cases hv : u3.ownBlock with
              | none => exact .inl rfl
              | some k =>
                refine .inr fun e => ?_
                have := (HOX.out k hv)
                simp only [Option.some.injEq] at e
                omega
            have HO4 := run.hid (HO5.out.kept (setC_grown0 w5 wX.heap.size ⟨yt, yw, ⟨yf, yb, ya⟩⟩) hneo)
            obtain ⟨⟨q0, q1, q2, q3, q4⟩, -⟩ := blk5 hk6
            have hs4 := hB4.size
            have HB4 := run.hid hB4
            have HQ4 := run.hid hk6
            clear hb5 p0 p1 p2 p3 p4 HBLi hB3 HO3b HK3b hk5 hk6 hneo HO5 hB4 hs4 q0 q1 q2 q3 q4
            go_upto_region 10 with fail
            clear r0 r1 r2 r3 r4 f0 f1 f2 f3 f4
            generalize ((((w5.setCell ⟨wX.heap.size, 0, none⟩ (.string yt)).setCell ⟨wX.heap.size, 1, none⟩ (.int .i8 yw)).setCell ⟨wX.heap.size, 2, none⟩ (.int .i32 yf)).setCell ⟨wX.heap.size, 3, none⟩ (.int .i32 yb)).setCell ⟨wX.heap.size, 4, none⟩ (.int .u8 ya) = w6 at *
            have hB4 := HB4.out
            have hs4 := hB4.size
            obtain ⟨⟨q0, q1, q2, q3, q4⟩, -⟩ := blk5 HQ4.out
            clear HB4 HQ4
            go_wp2_with (at_builtin; refine run.wpList_append_any _ rfl _ _ 35 rfl w.heap.size 44 it (.agg #[.string ⟨#[]⟩, .int .i8 0, .int .i32 0, .int .i32 0, .int .u8 0]) 5 32 Try.underlying35 hinf hz0 hsz hby rfl (by decide) _ i (cells5 D) rfl (HO4.out.alloc _) _ 1 [.string yt, .int .i8 yw, .int .i32 yf, .int .i32 yb, .int .u8 ya] rfl (run.readsN_new _ [.string yt, .int .i8 yw, .int .i32 yf, .int .i32 yb, .int .u8 ya] 1 5 _ rfl) (by intro u hu; simp only [List.mem_cons, List.not_mem_nil, or_false] at hu; rcases hu with rfl | rfl | rfl | rfl | rfl <;> rfl) (by unfold maxLen; omega) (by omega) (by simp <;> omega) ?_)
            intro v8 w8 hown8 hg8 hold8 hst8
            have hB8 := run.below_append (hB4.alloc hs4 _) (HO4.out.alloc _) hg8 (by simp <;> omega)
            have hown9 : w8.ownsRow w.heap.size 44 5 v8 (i + 1) (cells5 (D ++ [⟨yt, yw, ⟨yf, yb, ya⟩⟩])) := by rw [cells5_append]; exact hown8
            have HF := run.hid hown9
            have HFB := run.hid hB8
            clear hown8 hown9 hg8 hold8 hst8 hB8 hB4 HO4 q0 q1 q2 q3 q4 HC1 HPi
            go_wp2
            go_roundw
            case rel => exact ⟨i + 1, D ++ [⟨yt, yw, ⟨yf, yb, ya⟩⟩], by omega, by go_num, by rw [List.length_append, hDl]; rfl, HK, HF, HFB⟩
            case measure => simp [intOf]; omega
      · clear HTK2
        generalize L.getD i z0 = x at *
        have HUj : Hid (unitT (L.drop i) = if unit1 x = 1 then 1 else 0) := by
          show _ = _
          rw [HUi.out]
          have := unit1_le x
          by_cases h2 : unit1 x = 2
          · rw [if_pos ⟨h2, fun k => hlt2 k.1⟩, if_neg (by omega)]
          · rw [if_neg (fun k => h2 k.1)]; split <;> omega
        replace HST : Hid (mendT L = D ++ ((if unitT (L.drop i) = 0 then [blankT x.sty] else (L.drop i).take 1) ++ mendT (L.drop (i + 1)))) := by
          show _ = _
          rw [HST.out]
          have h3 : unitT (L.drop i) = 0 ∨ unitT (L.drop i) = 1 := by rw [HUj.out]; split <;> simp
          rcases h3 with h3 | h3 <;> rw [h3] <;> rfl
        clear HUi
        have HP := run.hid hwf
        have HBB := run.hid hwf
        have HPi := run.hid hwf
        go_upto_region 4 with fail
        go_cut [26] (fun c X => c = .bool false ∧ Below wr.heap.size wr X)
        case first =>
          refine lx.region (fun D X => Below wr.heap.size wr X) (by kernel_rfl) (by kernel_rfl) (by kernel_rfl) (drewB (Below.refl _ _)) ?_
          refine lx.begin 58 rfl ?_
          refine lx.o_pure (.int .i64 (i : Nat)) (fun _ _ h => by first | rfl | kernel_rfl) ?_
          refine lx.o_pure (.int .i64 ((i + 1 : Nat) : Int)) (fun D X hC => lx.run_add rfl rfl rfl (by omega) (by push_cast; rfl)) ?_
          refine lx.o_pure (.slice (some ⟨b1, o1, none⟩) N cap) (fun _ _ h => by first | rfl | kernel_rfl) ?_
          refine lx.o_pure (.int .i64 (N : Nat)) (fun D X hC => by first | rfl | kernel_rfl) ?_
          refine lx.o_pure (.bool false) (fun D X hC => run_lss rfl rfl rfl (decide_eq_false (by omega))) ?_
          refine lx.o_pure (.bool false) (fun _ _ h => by first | rfl | kernel_rfl) ?_
          refine lx.o_skip ?_
          refine lx.o_skip ?_
          refine lx.o_skip ?_
          refine lx.o_skip ?_
          refine lx.o_skip ?_
          refine lx.o_skip ?_
          refine lx.o_skip ?_
          refine lx.o_skip ?_
          refine lx.o_skip ?_
          refine lx.o_skip ?_
          refine lx.o_pure (.bool false) (fun _ _ h => by first | rfl | kernel_rfl) ?_
          refine lx.o_end ?_
          simp only [lx.ov]
          rintro X d hd hC
          have HF := run.hid hC
          clear hC hd
          go_simp
          go_wp2
          go_meet
          case rel => exact ⟨rfl, HF.out⟩
        obtain ⟨rfl, hX⟩ := hcut
        have HB3 := run.hid (HBL.out.trans (hX.mono HBL.out.size))
        have HO3 := run.hid (run.own_below HO.out hX)
        have hwX := hX.size
        clear HBL HO hX
        generalize wc = wX at *
        clear HA
        obtain ⟨d0, d1, d2, d3, d4⟩ := HC1.out _ HB3.out
        by_cases h1 : unit1 x = 1
        · rw [decide_eq_true h1] at HSi
          have HK : Hid (mendT L = (D ++ [x]) ++ mendT (L.drop (i + 1))) := by
            show _ = _
            rw [HST.out, HUj.out, if_pos h1, if_neg (by decide), List.append_assoc]
            congr 1
            rw [HD.out]
            try rfl
          clear h1 HST HUj HD HP HBB HUU
          obtain ⟨xt, xw, ⟨xf, xb, xa⟩⟩ := x
          change Hid (∀ w, Calls _ _ #[.agg #[.string xt, .int .i8 xw, .int .i32 xf, .int .i32 xb, .int .u8 xa]] _ _) at HSi
          have HA3 := run.hid (HB3.out.alloc HB3.out.size (.cells #[.string xt, .int .i8 xw, .int .i32 xf, .int .i32 xb, .int .u8 xa] 44))
          have HO3a := run.hid (HO3.out.alloc (.cells #[.string xt, .int .i8 xw, .int .i32 xf, .int .i32 xb, .int .u8 xa] 44))
          have HK3 := run.hid (heap_alloc_new wX (.cells #[.string xt, .int .i8 xw, .int .i32 xf, .int .i32 xb, .int .u8 xa] 44))
          clear HB3 HO3
          go_wp2_with fail
          refine (HSi.out _).mono ?_
          rintro e w4 ⟨rfl, hb4⟩
          have hB4 := HA3.out.trans (hb4.mono HA3.out.size)
          have HO4 := run.hid (run.own_below HO3a.out hb4)
          have hk4 := (hb4.block wX.heap.size (by simp)).trans HK3.out
          obtain ⟨⟨q0, q1, q2, q3, q4⟩, -⟩ := blk5 hk4
          have hs4 := hB4.size
          clear hb4 HSi d0 d1 d2 d3 d4 HA3 HO3a HK3 hk4
          go_wp2_with (at_builtin; refine run.wpList_append_any _ rfl _ _ 35 rfl w.heap.size 44 it (.agg #[.string ⟨#[]⟩, .int .i8 0, .int .i32 0, .int .i32 0, .int .u8 0]) 5 32 Try.underlying35 hinf hz0 hsz hby rfl (by decide) _ i (cells5 D) rfl (HO4.out.alloc _) _ 1 [.string xt, .int .i8 xw, .int .i32 xf, .int .i32 xb, .int .u8 xa] rfl (run.readsN_new _ [.string xt, .int .i8 xw, .int .i32 xf, .int .i32 xb, .int .u8 xa] 1 5 _ rfl) (by intro u hu; simp only [List.mem_cons, List.not_mem_nil, or_false] at hu; rcases hu with rfl | rfl | rfl | rfl | rfl <;> rfl) (by unfold maxLen; omega) (by omega) (by simp <;> omega) ?_)
          intro v8 w8 hown8 hg8 hold8 hst8
          have hB8 := run.below_append (hB4.alloc hs4 _) (HO4.out.alloc _) hg8 (by simp <;> omega)
          have hown9 : w8.ownsRow w.heap.size 44 5 v8 (i + 1) (cells5 (D ++ [⟨xt, xw, ⟨xf, xb, xa⟩⟩])) := by rw [cells5_append]; exact hown8
          have HF := run.hid hown9
          have HFB := run.hid hB8
          clear hown8 hown9 hg8 hold8 hst8 hB8 hB4 HO4 q0 q1 q2 q3 q4 HC1 HPi
          go_wp2
          go_roundw
          case rel => exact ⟨i + 1, D ++ [⟨xt, xw, ⟨xf, xb, xa⟩⟩], by omega, by go_num, by rw [List.length_append, hDl]; rfl, HK, HF, HFB⟩
          case measure => simp [intOf]; omega
        · rw [decide_eq_false h1] at HSi
          have HK : Hid (mendT L = (D ++ [blankT x.sty]) ++ mendT (L.drop (i + 1))) := by
            show _ = _
            rw [HST.out, HUj.out, if_neg h1, if_pos rfl, List.append_assoc]
            try rfl
          have HBLi := run.hid (fun w => refblank_any x.sty hwf w)
          obtain ⟨⟨yt, yw, ⟨yf, yb, ya⟩⟩, hyy⟩ : ∃ q, q = blankT x.sty := ⟨_, rfl⟩
          rw [← hyy] at HBLi HK
          clear h1 HST HUj HD HP HBB HUU hyy
          obtain ⟨xt, xw, ⟨xf, xb, xa⟩⟩ := x
          change Hid (∀ w, Calls _ _ #[.agg #[.string xt, .int .i8 xw, .int .i32 xf, .int .i32 xb, .int .u8 xa]] _ _) at HSi
          change Hid (∀ w, Calls _ _ #[.agg #[.int .i32 xf, .int .i32 xb, .int .u8 xa]] _ fun e w' => e = .returned (.agg #[.string yt, .int .i8 yw, .int .i32 yf, .int .i32 yb, .int .u8 ya]) ∧ _) at HBLi
          have HA3 := run.hid (HB3.out.alloc HB3.out.size (.cells #[.string xt, .int .i8 xw, .int .i32 xf, .int .i32 xb, .int .u8 xa] 44))
          have HO3a := run.hid (HO3.out.alloc (.cells #[.string xt, .int .i8 xw, .int .i32 xf, .int .i32 xb, .int .u8 xa] 44))
          have HK3 := run.hid (heap_alloc_new wX (.cells #[.string xt, .int .i8 xw, .int .i32 xf, .int .i32 xb, .int .u8 xa] 44))
          have hsX := HB3.out.size
          clear HB3 HO3
          go_wp2_with fail
          refine (HSi.out _).mono ?_
          rintro e w3 ⟨rfl, hb3⟩
          have hB3 := HA3.out.trans (hb3.mono HA3.out.size)
          have HO3b := run.hid (run.own_below HO3a.out hb3)
          have HK3b := run.hid ((hb3.block wX.heap.size (by simp)).trans HK3.out)
          obtain ⟨⟨p0, p1, p2, p3, p4⟩, -⟩ := blk5 HK3b.out
          clear hb3 HSi d0 d1 d2 d3 d4 HA3 HO3a HK3
          go_wp2_with fail
          refine (HBLi.out _).mono ?_
          rintro e w5 ⟨rfl, hb5⟩
          have hB5 := hB3.trans (hb5.mono hB3.size)
          have HO5 := run.hid (run.own_below HO3b.out hb5)
          have hk5 := (hb5.block wX.heap.size (Array.getElem?_eq_some_iff.1 HK3b.out).1).trans HK3b.out
          obtain ⟨⟨r0, r1, r2, r3, r4⟩, f0, f1, f2, f3, f4⟩ := blk5 hk5
          have hk6 := set5 (a' := .string yt) (b' := .int .i8 yw) (c' := .int .i32 yf) (d' := .int .i32 yb) (e' := .int .u8 ya) hk5
          have hB4 := below5 (.string yt) (.int .i8 yw) (.int .i32 yf) (.int .i32 yb) (.int .u8 ya) hB5 hsX
          have hneo : u3.ownBlock = none ∨ u3.ownBlock ≠ some wX.heap.size := by
            cases hv : u3.ownBlock with
            | none => exact .inl rfl
            | some k =>
              refine .inr fun e => ?_
              have := (HOX.out k hv)
              simp only [Option.some.injEq] at e
              omega
          have HO4 := run.hid (HO5.out.kept (setC_grown0 w5 wX.heap.size ⟨yt, yw, ⟨yf, yb, ya⟩⟩) hneo)
          obtain ⟨⟨q0, q1, q2, q3, q4⟩, -⟩ := blk5 hk6
          have hs4 := hB4.size
          have HB4 := run.hid hB4
          have HQ4 := run.hid hk6
          clear hb5 p0 p1 p2 p3 p4 HBLi hB3 HO3b HK3b hk5 hk6 hneo HO5 hB4 hs4 q0 q1 q2 q3 q4
          go_upto_region 10 with fail
          clear r0 r1 r2 r3 r4 f0 f1 f2 f3 f4
          generalize ((((w5.setCell ⟨wX.heap.size, 0, none⟩ (.string yt)).setCell ⟨wX.heap.size, 1, none⟩ (.int .i8 yw)).setCell ⟨wX.heap.size, 2, none⟩ (.int .i32 yf)).setCell ⟨wX.heap.size, 3, none⟩ (.int .i32 yb)).setCell ⟨wX.heap.size, 4, none⟩ (.int .u8 ya) = w6 at *
          have hB4 := HB4.out
          have hs4 := hB4.size
          obtain ⟨⟨q0, q1, q2, q3, q4⟩, -⟩ := blk5 HQ4.out
          clear HB4 HQ4
          go_wp2_with (at_builtin; refine run.wpList_append_any _ rfl _ _ 35 rfl w.heap.size 44 it (.agg #[.string ⟨#[]⟩, .int .i8 0, .int .i32 0, .int .i32 0, .int .u8 0]) 5 32 Try.underlying35 hinf hz0 hsz hby rfl (by decide) _ i (cells5 D) rfl (HO4.out.alloc _) _ 1 [.string yt, .int .i8 yw, .int .i32 yf, .int .i32 yb, .int .u8 ya] rfl (run.readsN_new _ [.string yt, .int .i8 yw, .int .i32 yf, .int .i32 yb, .int .u8 ya] 1 5 _ rfl) (by intro u hu; simp only [List.mem_cons, List.not_mem_nil, or_false] at hu; rcases hu with rfl | rfl | rfl | rfl | rfl <;> rfl) (by unfold maxLen; omega) (by omega) (by simp <;> omega) ?_)
          intro v8 w8 hown8 hg8 hold8 hst8
          have hB8 := run.below_append (hB4.alloc hs4 _) (HO4.out.alloc _) hg8 (by simp <;> omega)
          have hown9 : w8.ownsRow w.heap.size 44 5 v8 (i + 1) (cells5 (D ++ [⟨yt, yw, ⟨yf, yb, ya⟩⟩])) := by rw [cells5_append]; exact hown8
          have HF := run.hid hown9
          have HFB := run.hid hB8
          clear hown8 hown9 hg8 hold8 hst8 hB8 hB4 HO4 q0 q1 q2 q3 q4 HC1 HPi
          go_wp2
          go_roundw
          case rel => exact ⟨i + 1, D ++ [⟨yt, yw, ⟨yf, yb, ya⟩⟩], by omega, by go_num, by rw [List.length_append, hDl]; rfl, HK, HF, HFB⟩
          case measure => simp [intOf]; omega

    · obtain rfl : i = N := by omega
      have HK : Hid (mendT L = D) := by show _ = _; rw [HI.out, HE.out, List.append_nil]
      obtain ⟨a1, c1, rfl⟩ := run.own_value HO.out
      have HF : Hid (wr.ownsRow w.heap.size 44 5 (.slice a1 D.length c1) D.length (cells5 (mendT L))) := by show World.ownsRow _ _ _ _ _ _ _; rw [HK.out, hDl]; exact HO.out
      rw [hDl] at HF
      clear HA HLL HUU HTK HTK2 HNIL H0 HI HO
      go_wp2
      go_ret
      exact ⟨_, rfl, HF.out, HBL.out⟩
end Go.Proofs.Ytinnggiohalifaa.cel
