/-
  The walk of a pair's end: whole. (Printed by gen_celwh.py.)
-/
import Derived.Test.YtdgcfmfjgidbjaaGreatCelWp
namespace Go.Proofs.YtdgcfmfjgidbjaaGreat.cel
open Go Go.RowKit Go.Proofs
set_option linter.unusedVariables false
set_option maxRecDepth 100000 in
set_option maxHeartbeats 8000000 in
theorem pend_any (q : PR) (L : List CV) (w : World) (h : PB q L L w) (hS : Strong q.W q.H L) (hm : q.m = q.n) (hN27 : q.n ≤ 134217728) :
    Calls Tryz.prog 7 #[.pointer (some ⟨q.pb, 0, none⟩)] w fun e w' => e = .returned (.bool true) ∧ KeptC q.blk w w' := by
  obtain ⟨it, hi0, hi1, hi2, hi3⟩ := info_parts info_srspoil
  have HP := run.hid (fun X (hb : Buf X q.b q.g q.W q.H L) => screen_any q.b q.g q.W q.H L X hb)
  have HR := run.hid (fun X (hb : RB X (q.r + 1) q.r q.vr q.W q.H L) => rscreen_any (q.r + 1) q.r q.W q.H q.vr L X hb)
  have hp0 := blk_cell h.box 0
  have hp1 := blk_cell h.box 1
  change w.cell? _ = some (.pointer (some ⟨q.b, 0, none⟩)) at hp0
  change w.cell? _ = some (.pointer (some ⟨q.r, 0, none⟩)) at hp1
  have hlen : L.length = q.W * q.H := h.buf.len
  have hsz : L.length ≤ 16777216 := by rw [hlen]; exact Nat.mul_le_mul h.buf.wide h.buf.high
  have HLT := run.hid (fun k (hk : q.blk k) => h.lt hk)
  have HBW := run.hid h.Bw
  have HSC := run.hid (fun a1 a2 c1 c2 X (h1 : Reads5 X (.slice a1 L.length c1) L) (h2 : Reads5 X (.slice a2 L.length c2) L) => samescr_any q.W q.H a1 a2 c1 c2 L X h1 h2 (by omega))
  have HPB := run.hid (fun X (hb : Below w.heap.size w X) => h.below hb)
  clear h hS
  unfold scrV at HP HR
  unfold scrA at HSC
  obtain ⟨N, hN⟩ : ∃ N, q.W * q.H = N := ⟨_, rfl⟩
  rw [hN] at HP HR
  have HNN := run.hid (And.intro hN hlen)
  rw [hlen, hN] at HSC hsz
  have HNZ := run.hid hsz
  clear hN hlen hsz
  generalize hWW : ((q.W : Nat) : Int) = WW at HP HR HSC
  generalize hHH : ((q.H : Nat) : Int) = HH at HP HR HSC
  clear hWW hHH
  generalize hn : w.heap.size = n at *
  go_enter Tryz.func7, Tryz.ntmps7
  go_upto_region 1 with fail
  go_wp2_with fail
  refine (HR.out _ (HPB.out _ (Below.refl _ _)).rb).mono ?_
  rintro e w2 ⟨u, rfl, hu2, hb2⟩
  obtain ⟨a3, c3, rfl⟩ := run.own_value hu2
  have hB2 : Below n w w2 := by rw [hn] at hb2; exact hb2
  have hA2 : Below n w (w2.alloc (.cells #[.int .i64 WW, .int .i64 HH, .slice a3 N c3, .int .i64 0, .int .i64 0, .bool false] 64)) := hB2.alloc (by have := hB2.size; omega) _
  have hx2 := run.heap_new w2 (.cells #[.int .i64 WW, .int .i64 HH, .slice a3 N c3, .int .i64 0, .int .i64 0, .bool false] 64)
  have hu2a := hu2.alloc (.cells #[.int .i64 WW, .int .i64 HH, .slice a3 N c3, .int .i64 0, .int .i64 0, .bool false] 64)
  have hz2 : w2.heap.size < (w2.alloc (.cells #[.int .i64 WW, .int .i64 HH, .slice a3 N c3, .int .i64 0, .int .i64 0, .bool false] 64)).heap.size := by rw [World.size_alloc]; exact Nat.lt_succ_self _
  have p2 := blk_cell (HPB.out _ hA2).box 0
  change World.cell? _ _ = some (.pointer (some ⟨q.b, 0, none⟩)) at p2
  have hn2 : n ≤ w2.heap.size := by have := hB2.size; omega
  clear hp0 hp1
  go_upto_region 2 with fail
  have HPB2 := run.hid (HPB.out _ hA2)
  have hA2h := run.hid hA2
  clear hA2 hB2 hb2 hu2
  generalize w2.alloc (.cells #[.int .i64 WW, .int .i64 HH, .slice a3 N c3, .int .i64 0, .int .i64 0, .bool false] 64) = x2 at *
  generalize w2.heap.size = k3 at *
  go_wp2_with fail
  refine (HP.out _ HPB2.out.buf).mono ?_
  rintro e w3 ⟨v, rfl, hv3, hb3⟩
  obtain ⟨a4, c4, rfl⟩ := run.own_value hv3
  have hA3 := (HPB2.out.below hb3).below (run.below_one w3 (.cells #[.int .i64 WW, .int .i64 HH, .slice a4 N c4, .int .i64 0, .int .i64 0, .bool false] 64))
  have p3 := blk_cell hA3.box 0
  change World.cell? _ _ = some (.pointer (some ⟨q.b, 0, none⟩)) at p3
  have hx3 := run.heap_new w3 (.cells #[.int .i64 WW, .int .i64 HH, .slice a4 N c4, .int .i64 0, .int .i64 0, .bool false] 64)
  have hx2b := (run.heap_old w3 (.cells #[.int .i64 WW, .int .i64 HH, .slice a4 N c4, .int .i64 0, .int .i64 0, .bool false] 64) (k := k3) (by have := hb3.size; omega)).trans ((hb3.block k3 (by omega)).trans hx2)
  have hv3a := hv3.alloc (.cells #[.int .i64 WW, .int .i64 HH, .slice a4 N c4, .int .i64 0, .int .i64 0, .bool false] 64)
  have hu3a := (run.own_below hu2a hb3).alloc (.cells #[.int .i64 WW, .int .i64 HH, .slice a4 N c4, .int .i64 0, .int .i64 0, .bool false] 64)
  have hz3 : w3.heap.size < (w3.alloc (.cells #[.int .i64 WW, .int .i64 HH, .slice a4 N c4, .int .i64 0, .int .i64 0, .bool false] 64)).heap.size := by rw [World.size_alloc]; exact Nat.lt_succ_self _
  have hB3 := run.hid ((hA2h.out.trans (hb3.mono (by omega))).alloc (by have := hb3.size; omega) (.cells #[.int .i64 WW, .int .i64 HH, .slice a4 N c4, .int .i64 0, .int .i64 0, .bool false] 64))
  have hs3 := hb3.size
  clear p2 hx2 hu2a
  go_upto_region 3 with fail
  have HPB3 := run.hid hA3
  clear hA3 hb3 hv3 HPB2 hA2h
  generalize w3.alloc (.cells #[.int .i64 WW, .int .i64 HH, .slice a4 N c4, .int .i64 0, .int .i64 0, .bool false] 64) = x3 at *
  generalize w3.heap.size = k4 at *
  go_wp2_with fail
  refine (HP.out _ HPB3.out.buf).mono ?_
  rintro e w4 ⟨z, rfl, hz4, hb4⟩
  obtain ⟨a5, c5, rfl⟩ := run.own_value hz4
  have hA4 := (HPB3.out.below hb4).below (run.below_one w4 (.cells #[.int .i64 WW, .int .i64 HH, .slice a5 N c5, .int .i64 0, .int .i64 0, .bool false] 64))
  have hx4 := run.heap_new w4 (.cells #[.int .i64 WW, .int .i64 HH, .slice a5 N c5, .int .i64 0, .int .i64 0, .bool false] 64)
  have hs4 := hb4.size
  have hx3b := (run.heap_old w4 (.cells #[.int .i64 WW, .int .i64 HH, .slice a5 N c5, .int .i64 0, .int .i64 0, .bool false] 64) (k := k4) (by omega)).trans ((hb4.block k4 (by omega)).trans hx3)
  have hx2c := (run.heap_old w4 (.cells #[.int .i64 WW, .int .i64 HH, .slice a5 N c5, .int .i64 0, .int .i64 0, .bool false] 64) (k := k3) (by omega)).trans ((hb4.block k3 (by omega)).trans hx2b)
  have hz4a := hz4.alloc (.cells #[.int .i64 WW, .int .i64 HH, .slice a5 N c5, .int .i64 0, .int .i64 0, .bool false] 64)
  have hv4a := (run.own_below hv3a hb4).alloc (.cells #[.int .i64 WW, .int .i64 HH, .slice a5 N c5, .int .i64 0, .int .i64 0, .bool false] 64)
  have hu4a := (run.own_below hu3a hb4).alloc (.cells #[.int .i64 WW, .int .i64 HH, .slice a5 N c5, .int .i64 0, .int .i64 0, .bool false] 64)
  have hvlt := run.hid hv3a.lt
  have hzz : w4.heap.size < (w4.alloc (.cells #[.int .i64 WW, .int .i64 HH, .slice a5 N c5, .int .i64 0, .int .i64 0, .bool false] 64)).heap.size := by rw [World.size_alloc]; exact Nat.lt_succ_self _
  have hB4 := run.hid ((hB3.out.trans (hb4.mono (by omega))).alloc (by omega) (.cells #[.int .i64 WW, .int .i64 HH, .slice a5 N c5, .int .i64 0, .int .i64 0, .bool false] 64))
  clear p3 hx3 hx2b hv3a hu3a
  go_upto_region 4 with fail
  clear hz4 hb4 HPB3 hB3
  generalize w4.alloc (.cells #[.int .i64 WW, .int .i64 HH, .slice a5 N c5, .int .i64 0, .int .i64 0, .bool false] 64) = w5 at *
  generalize w4.heap.size = k5 at *
  have HB := run.hid (fun X (hb : Below w5.heap.size w5 X) => (⟨blk_cell (hA4.below hb).box 2, blk_free (hA4.below hb).box 2, blk_cell ((hb.block k4 (by omega)).trans hx3b) 2, blk_cell ((hb.block k5 (by omega)).trans hx4) 2⟩ : X.cell? ⟨q.pb, 2, none⟩ = some q.vt ∧ X.frozen? ⟨q.pb, 2, none⟩ = false ∧ X.cell? ⟨k4, 2, none⟩ = some (.slice a4 N c4) ∧ X.cell? ⟨k5, 2, none⟩ = some (.slice a5 N c5)))
  have HO := run.hid (fun X (hb : Below w5.heap.size w5 X) => (hA4.below hb).told)
  have HBB := run.hid hA4.Bw
  have HD := run.hid (fun X (hg : (w5.alloc (.cells #[.slice a4 N c4, .slice a5 N c5] 35)).drew.grownBy X q.vt.ownBlock) => by
    have hbx := (hA4.below (run.below_one w5 (.cells #[.slice a4 N c4, .slice a5 N c5] 35)).drew).box
    have h1 := (hg.block q.pb (Array.getElem?_eq_some_iff.1 hbx).1 (fun e => by have := (hA4.told.lt q.pb e.symm).1; have := hA4.pB; omega)).trans hbx
    exact (⟨blk_cell h1 2, blk_free h1 2⟩ : X.cell? ⟨q.pb, 2, none⟩ = some q.vt ∧ X.frozen? ⟨q.pb, 2, none⟩ = false))
  have HT := run.hid (fun t1 X h1 h2 h3 => tell2V_done (w10 := X) (t1 := t1) (Lc := L) (v1 := .slice a4 N c4) (v2 := .slice a5 N c5) hA4 hm (run.below_one w5 (.cells #[.slice a4 N c4, .slice a5 N c5] 35)).drew h1 h2 h3 (by rw [HNN.out.1]; exact run.own_mono hv4a (by have := HBW.out; omega)) (by rw [HNN.out.1]; exact run.own_mono hz4a (by have := HBW.out; omega)) (fun k e hk => by have := HLT.out k hk; have := (hv4a.lt k e).1; omega) (fun k e hk => by have := HLT.out k hk; have := (hz4a.lt k e).1; omega) (fun k e1 e2 => by have := (hvlt.out k e1).2; have := (hz4a.lt k e2).1; omega) HNN.out.2)
  go_cut [25] (fun _ X => Hid (∃ t1, PB ((q.tellV (.slice a4 N c4) t1 L).tellV (.slice a5 N c5) t1 L) L L X ∧ KeptC (fun k => k = q.pb ∨ q.vt.ownBlock = some k) w5 X ∧ ∀ k, t1.ownBlock = some k → q.vt.ownBlock = some k ∨ w5.heap.size ≤ k))
  case first =>
    refine run.alone (by assumption) (by assumption) ?_
    go_light
    intro _ _ _ _
    obtain ⟨d1, g1, m1, p1⟩ := HB.out _ (Below.drew (Below.refl _ w5))
    obtain ⟨d2, g2, m2, p2⟩ := HB.out _ (run.below_one w5 (.cells #[.slice a4 N c4, .slice a5 N c5] 35)).drew
    have oA := HO.out _ (run.below_one w5 (.cells #[.slice a4 N c4, .slice a5 N c5] 35)).drew
    go_region_law
      (first
        | (refine run.step_append_any (by rfl) _ _ 49 (by rfl) q.B 35 it (.slice none 0 0) 1 24 Tryz.underlying49 hi0 hi1 hi2 hi3 rfl (by decide) _ _ _ (by rfl) oA _ 2 [.slice a4 N c4, .slice a5 N c5] (by rfl) (run.readsN_new w5 [.slice a4 N c4, .slice a5 N c5] 2 1 _ rfl) (by intro u hu; simp only [List.mem_cons, List.not_mem_nil, or_false] at hu; rcases hu with rfl | rfl <;> rfl) (by unfold maxLen; omega) (by omega) (Nat.le_trans HBB.out (by show _ ≤ (World.alloc _ _).heap.size; rw [World.size_alloc]; exact Nat.le_succ _)) ?_; intro v10 w10 hown hgrow hold hstep; obtain ⟨ta, tc, rfl⟩ := run.own_value hown; obtain ⟨d3, g3⟩ := HD.out _ hgrow))
    all_goals
      have HX := run.hid (HT.out _ _ hown hgrow hstep)
      go_wp2
      go_meet
      case rel => exact run.hid ⟨_, HX.out⟩
  obtain ⟨t1, hP1, hk1, hn1⟩ := hcut.out
  clear hcut HT HD HO HB HBB
  generalize wc = w6 at *
  have hns : ∀ k, n ≤ k → ¬ (k = q.pb ∨ q.vt.ownBlock = some k) := fun k hk hs => by
    rcases hs with e | e
    · have := HLT.out k (.inl e)
      omega
    · have := HLT.out k (.inr (.inr (.inr (.inr (.inr (.inl e))))))
      omega
  have hx3d := (hk1.block k4 (by omega) (hns k4 (by omega))).trans hx3b
  have hx2d := (hk1.block k3 (by omega) (hns k3 (by omega))).trans hx2c
  have hu6 := own_keptC hu4a hk1 (fun k e => hns k (by have := (hu4a.lt k e).1; omega))
  have hs6 := hk1.size
  have HB := run.hid (fun X (hb : Below w6.heap.size w6 X) => (⟨blk_cell (hP1.below hb).box 3, blk_free (hP1.below hb).box 3, blk_cell ((hb.block k3 (by omega)).trans hx2d) 2, blk_cell ((hb.block k3 (by omega)).trans hx2d) 2⟩ : X.cell? ⟨q.pb, 3, none⟩ = some q.vw ∧ X.frozen? ⟨q.pb, 3, none⟩ = false ∧ X.cell? ⟨k3, 2, none⟩ = some (.slice a3 N c3) ∧ X.cell? ⟨k3, 2, none⟩ = some (.slice a3 N c3)))
  have HO := run.hid (fun X (hb : Below w6.heap.size w6 X) => (show X.ownsRow q.B 35 1 q.vw q.m (vals q.U q.m) from (hP1.below hb).want))
  have HBB := run.hid (show q.B ≤ w6.heap.size from hP1.Bw)
  have HD := run.hid (fun X (hg : (w6.alloc (.cells #[.slice a3 N c3, .slice a3 N c3] 35)).drew.grownBy X q.vw.ownBlock) => by
    have hbx := (hP1.below (run.below_one w6 (.cells #[.slice a3 N c3, .slice a3 N c3] 35)).drew).box
    have h1 := (hg.block q.pb (Array.getElem?_eq_some_iff.1 hbx).1 (fun e => by have h5 : q.B ≤ q.pb := (hP1.want.lt q.pb e.symm).1; have h6 : q.pb < q.B := hP1.pB; omega)).trans hbx
    exact (⟨blk_cell h1 3, blk_free h1 3⟩ : X.cell? ⟨q.pb, 3, none⟩ = some q.vw ∧ X.frozen? ⟨q.pb, 3, none⟩ = false))
  have hmm : ((q.tellV (.slice a4 N c4) t1 L).tellV (.slice a5 N c5) t1 L).n = ((q.tellV (.slice a4 N c4) t1 L).tellV (.slice a5 N c5) t1 L).m + 2 := by
    show q.n + 1 + 1 = q.m + 2
    rw [hm]
  have hrow : w6.ownsRow ((q.tellV (.slice a4 N c4) t1 L).tellV (.slice a5 N c5) t1 L).B 59 5 (.slice a3 N c3) (((q.tellV (.slice a4 N c4) t1 L).tellV (.slice a5 N c5) t1 L).W * ((q.tellV (.slice a4 N c4) t1 L).tellV (.slice a5 N c5) t1 L).H) (cells5 (((q.tellV (.slice a4 N c4) t1 L).tellV (.slice a5 N c5) t1 L).Ls ((q.tellV (.slice a4 N c4) t1 L).tellV (.slice a5 N c5) t1 L).m)) := by
    show w6.ownsRow q.B 59 5 (.slice a3 N c3) (q.W * q.H) (cells5 (if q.m = q.n + 1 then L else if q.m = q.n then L else q.Ls q.m))
    rw [if_neg (by omega), if_pos hm, HNN.out.1]
    exact run.own_mono hu6 (by have := HBW.out; omega)
  have hrow2 : w6.ownsRow ((q.tellV (.slice a4 N c4) t1 L).tellV (.slice a5 N c5) t1 L).B 59 5 (.slice a3 N c3) (((q.tellV (.slice a4 N c4) t1 L).tellV (.slice a5 N c5) t1 L).W * ((q.tellV (.slice a4 N c4) t1 L).tellV (.slice a5 N c5) t1 L).H) (cells5 (((q.tellV (.slice a4 N c4) t1 L).tellV (.slice a5 N c5) t1 L).Ls (((q.tellV (.slice a4 N c4) t1 L).tellV (.slice a5 N c5) t1 L).m + 1))) := by
    show w6.ownsRow q.B 59 5 (.slice a3 N c3) (q.W * q.H) (cells5 (if q.m + 1 = q.n + 1 then L else if q.m + 1 = q.n then L else q.Ls (q.m + 1)))
    rw [if_pos (by omega), HNN.out.1]
    exact run.own_mono hu6 (by have := HBW.out; omega)
  have HT := run.hid (fun t2 X h1 h2 h3 => tell2W_done (w10 := X) (t1 := t2) (u := .slice a3 N c3) hP1 hmm (run.below_one w6 (.cells #[.slice a3 N c3, .slice a3 N c3] 35)).drew h1 h2 h3 hrow hrow2)
  have hmle : q.m ≤ 134217728 := by omega
  have HM := run.hid hm
  clear hm hmm
  go_upto_region 5 with fail
  go_cut [38] (fun _ X => Hid (∃ t2, PB ((((q.tellV (.slice a4 N c4) t1 L).tellV (.slice a5 N c5) t1 L).tellW (.slice a3 N c3) t2).tellW (.slice a3 N c3) t2) L L X ∧ KeptC (fun k => k = q.pb ∨ q.vw.ownBlock = some k) w6 X ∧ ∀ k, t2.ownBlock = some k → q.vw.ownBlock = some k ∨ w6.heap.size ≤ k))
  case first =>
    refine run.alone (by assumption) (by assumption) ?_
    go_light
    intro _ _ _ _
    obtain ⟨d1, g1, m1, p1⟩ := HB.out _ (Below.drew (Below.refl _ w6))
    obtain ⟨d2, g2, m2, p2⟩ := HB.out _ (run.below_one w6 (.cells #[.slice a3 N c3, .slice a3 N c3] 35)).drew
    have oA := HO.out _ (run.below_one w6 (.cells #[.slice a3 N c3, .slice a3 N c3] 35)).drew
    go_region_law
      (first
        | (refine run.step_append_any (by rfl) _ _ 49 (by rfl) q.B 35 it (.slice none 0 0) 1 24 Tryz.underlying49 hi0 hi1 hi2 hi3 rfl (by decide) _ _ _ (by rfl) oA _ 2 [.slice a3 N c3, .slice a3 N c3] (by rfl) (run.readsN_new w6 [.slice a3 N c3, .slice a3 N c3] 2 1 _ rfl) (by intro u hu; simp only [List.mem_cons, List.not_mem_nil, or_false] at hu; rcases hu with rfl | rfl <;> rfl) (by unfold maxLen; omega) (by omega) (Nat.le_trans HBB.out (by show _ ≤ (World.alloc _ _).heap.size; rw [World.size_alloc]; exact Nat.le_succ _)) ?_; intro v10 w10 hown hgrow hold hstep; obtain ⟨ta, tc, rfl⟩ := run.own_value hown; obtain ⟨d3, g3⟩ := HD.out _ hgrow))
    all_goals
      have HX := run.hid (HT.out _ _ hown hgrow hstep)
      go_wp2
      go_meet
      case rel => exact run.hid ⟨_, HX.out⟩
  obtain ⟨t2, hP2, hk2, hn2⟩ := hcut.out
  clear hcut HT HD HO HB HBB hrow hrow2
  generalize wc = w7 at *
  have hm := HM.out
  have hns2 : ∀ k, n ≤ k → ¬ (k = q.pb ∨ q.vw.ownBlock = some k) := fun k hk hs => by
    rcases hs with e | e
    · have := HLT.out k (.inl e)
      omega
    · have := HLT.out k (.inr (.inr (.inr (.inr (.inr (.inr (.inl e)))))))
      omega
  have hx3e := (hk2.block k4 (by omega) (hns2 k4 (by omega))).trans hx3d
  have hx2e := (hk2.block k3 (by omega) (hns2 k3 (by omega))).trans hx2d
  have hu7 := own_keptC hu6 hk2 (fun k e => hns2 k (by have := (hu6.lt k e).1; omega))
  have hv6 := own_keptC hv4a hk1 (fun k e => hns k (by have := (hv4a.lt k e).1; omega))
  have hv7 := own_keptC hv6 hk2 (fun k e => hns2 k (by have := (hv6.lt k e).1; omega))
  have hlN : L.length = N := HNN.out.2.trans HNN.out.1
  have HBX := run.hid (fun X (hb : Below w7.heap.size w7 X) => (BX.mk hP2.box hP2.buf hP2.rb hx2e hx3e : BX ((((q.tellV (.slice a4 N c4) t1 L).tellV (.slice a5 N c5) t1 L).tellW (.slice a3 N c3) t2).tellW (.slice a3 N c3) t2) L L k3 k4 #[.int .i64 WW, .int .i64 HH, .slice a3 N c3, .int .i64 0, .int .i64 0, .bool false] #[.int .i64 WW, .int .i64 HH, .slice a4 N c4, .int .i64 0, .int .i64 0, .bool false] w7).below hb)
  have HC1 := run.hid (fun X (hb : Below w7.heap.size w7 X) => HSC.out a4 a3 c4 c3 X (by
    have h1 : Reads5 X (.slice a4 L.length c4) L := reads5_own (by rw [hlN]; exact run.own_below hv7 hb)
    rw [← hlN]
    exact h1) (by
    have h1 : Reads5 X (.slice a3 L.length c3) L := reads5_own (by rw [hlN]; exact run.own_below hu7 hb)
    rw [← hlN]
    exact h1))
  have HKB := run.hid (((KeptC.of_below (S := q.blk) (by rw [hn]; exact hB4.out)).trans hk1 (fun k _ hs => hs.elim (fun e => .inl e) (fun e => .inr (.inr (.inr (.inr (.inr (.inl e)))))))).trans hk2 (fun k _ hs => hs.elim (fun e => .inl e) (fun e => .inr (.inr (.inr (.inr (.inr (.inr (.inl e)))))))))
  have HBL := run.hid (tell2_blk (Lc := L) (n := n) (fun k e => (hn1 k e).imp id (fun h => by omega)) (fun k e => (hn2 k e).imp id (fun h => by omega)) (fun k e => by have := (hv4a.lt k e).1; omega) (fun k e => by have := (hz4a.lt k e).1; omega) (fun k e => by have := (hu4a.lt k e).1; omega))
  obtain ⟨M, hM⟩ : ∃ M, q.n + 1 + 1 = M := ⟨_, rfl⟩
  have hMb : M ≤ 134217730 := by omega
  have hM0 : 0 < M := by omega
  have htold : w7.ownsRow q.B 35 1 t1 M (vals ((((q.tellV (.slice a4 N c4) t1 L).tellV (.slice a5 N c5) t1 L).tellW (.slice a3 N c3) t2).tellW (.slice a3 N c3) t2).V M) := by rw [← hM]; exact hP2.told
  have hwant : w7.ownsRow q.B 35 1 t2 M (vals ((((q.tellV (.slice a4 N c4) t1 L).tellV (.slice a5 N c5) t1 L).tellW (.slice a3 N c3) t2).tellW (.slice a3 N c3) t2).U M) := by rw [← hM]; have := hP2.want; rw [show ((((q.tellV (.slice a4 N c4) t1 L).tellV (.slice a5 N c5) t1 L).tellW (.slice a3 N c3) t2).tellW (.slice a3 N c3) t2).m = q.n + 1 + 1 by show q.m + 1 + 1 = _; rw [hm]] at this; exact this
  have hPB7 := run.hid (fun X (hb : Below w7.heap.size w7 X) => hP2.below hb)
  have hpn : ((((q.tellV (.slice a4 N c4) t1 L).tellV (.slice a5 N c5) t1 L).tellW (.slice a3 N c3) t2).tellW (.slice a3 N c3) t2).n = M := hM
  have hpm : ((((q.tellV (.slice a4 N c4) t1 L).tellV (.slice a5 N c5) t1 L).tellW (.slice a3 N c3) t2).tellW (.slice a3 N c3) t2).m = M := by show q.m + 1 + 1 = M; omega
  obtain ⟨gt, lt, ct, e1, hgt, hot, hct⟩ := told_cells htold hM0
  obtain ⟨gw, lw, cw, e2, hgw, how, hcw⟩ := told_cells hwant hM0
  have HV7 := run.hid (fun i (hi : i < M) => show ∃ ai ci bi di, ∀ X, Below w7.heap.size w7 X → X.cell? ⟨gt, lt + i, none⟩ = some (.slice ai N ci) ∧ X.cell? ⟨gw, lw + i, none⟩ = some (.slice bi N di) ∧ Calls Tryz.prog 28 #[.slice ai N ci, .slice bi N di] X (fun e w' => e = .returned (.bool true) ∧ Below X.heap.size X w') from by
    have h1 := hP2.tr i (by rw [hpn]; exact hi)
    have h2 := hP2.ur i (by rw [hpm]; exact hi)
    have h3 := hP2.ll i (.inl (by rw [hpn]; exact hi))
    have hWH : ((((q.tellV (.slice a4 N c4) t1 L).tellV (.slice a5 N c5) t1 L).tellW (.slice a3 N c3) t2).tellW (.slice a3 N c3) t2).W * ((((q.tellV (.slice a4 N c4) t1 L).tellV (.slice a5 N c5) t1 L).tellW (.slice a3 N c3) t2).tellW (.slice a3 N c3) t2).H = N := HNN.out.1
    obtain ⟨ai, ci, ea⟩ := run.own_value h1
    obtain ⟨bi, di, eb⟩ := run.own_value h2
    rw [hWH] at ea eb h1 h2 h3
    refine ⟨ai, ci, bi, di, fun X hb => ⟨?_, ?_, ?_⟩⟩
    · rw [← ea]
      exact (hb.cell (p := ⟨gt, lt + i, none⟩) hgt).trans (hct i hi)
    · rw [← eb]
      exact (hb.cell (p := ⟨gw, lw + i, none⟩) hgw).trans (hcw i hi)
    · have r1 : Reads5 X (.slice ai N ci) (((((q.tellV (.slice a4 N c4) t1 L).tellV (.slice a5 N c5) t1 L).tellW (.slice a3 N c3) t2).tellW (.slice a3 N c3) t2).Ls i) := by
        have := reads5_own (L := ((((q.tellV (.slice a4 N c4) t1 L).tellV (.slice a5 N c5) t1 L).tellW (.slice a3 N c3) t2).tellW (.slice a3 N c3) t2).Ls i) (v := ((((q.tellV (.slice a4 N c4) t1 L).tellV (.slice a5 N c5) t1 L).tellW (.slice a3 N c3) t2).tellW (.slice a3 N c3) t2).V i) (by rw [h3]; exact run.own_below h1 hb)
        rw [ea] at this
        exact this
      have r2 : Reads5 X (.slice bi N di) (((((q.tellV (.slice a4 N c4) t1 L).tellV (.slice a5 N c5) t1 L).tellW (.slice a3 N c3) t2).tellW (.slice a3 N c3) t2).Ls i) := by
        have := reads5_own (L := ((((q.tellV (.slice a4 N c4) t1 L).tellV (.slice a5 N c5) t1 L).tellW (.slice a3 N c3) t2).tellW (.slice a3 N c3) t2).Ls i) (v := ((((q.tellV (.slice a4 N c4) t1 L).tellV (.slice a5 N c5) t1 L).tellW (.slice a3 N c3) t2).tellW (.slice a3 N c3) t2).U i) (by rw [h3]; exact run.own_below h2 hb)
        rw [eb] at this
        exact this
      have h4 := same_any ai bi ci di (((((q.tellV (.slice a4 N c4) t1 L).tellV (.slice a5 N c5) t1 L).tellW (.slice a3 N c3) t2).tellW (.slice a3 N c3) t2).Ls i) (((((q.tellV (.slice a4 N c4) t1 L).tellV (.slice a5 N c5) t1 L).tellW (.slice a3 N c3) t2).tellW (.slice a3 N c3) t2).Ls i) X (by rw [h3]; exact r1) (by rw [h3]; exact r2) (by rw [h3]; have := HNZ.out; omega)
      rw [decide_eq_true rfl, h3] at h4
      exact h4)
  have HT7 := run.hid (fun X (hb : Below w7.heap.size w7 X) => show X.cell? ⟨q.pb, 2, none⟩ = some (.slice (some ⟨gt, lt, none⟩) M ct) ∧ X.cell? ⟨q.pb, 3, none⟩ = some (.slice (some ⟨gw, lw, none⟩) M cw) from by
    rw [← e1, ← e2]
    exact ⟨blk_cell (hP2.below hb).box 2, blk_cell (hP2.below hb).box 3⟩)
  have HMM := run.hid (And.intro hpn e1)
  have HCT := run.hid (And.intro hgt hct)
  have HK := run.hid (fun X (hx : BX ((((q.tellV (.slice a4 N c4) t1 L).tellV (.slice a5 N c5) t1 L).tellW (.slice a3 N c3) t2).tellW (.slice a3 N c3) t2) L L k3 k4 #[.int .i64 WW, .int .i64 HH, .slice a3 N c3, .int .i64 0, .int .i64 0, .bool false] #[.int .i64 WW, .int .i64 HH, .slice a4 N c4, .int .i64 0, .int .i64 0, .bool false] X) => show X.cell? ⟨q.pb, 0, none⟩ = some (.pointer (some ⟨q.b, 0, none⟩)) ∧ X.cell? ⟨q.pb, 1, none⟩ = some (.pointer (some ⟨q.r, 0, none⟩)) ∧ X.cell? ⟨q.pb, 2, none⟩ = some (.slice (some ⟨gt, lt, none⟩) M ct) ∧ X.cell? ⟨k4, 0, none⟩ = some (.int .i64 WW) ∧ X.cell? ⟨k4, 1, none⟩ = some (.int .i64 HH) ∧ X.cell? ⟨k4, 2, none⟩ = some (.slice a4 N c4) ∧ X.cell? ⟨k4, 3, none⟩ = some (.int .i64 0) ∧ X.cell? ⟨k4, 4, none⟩ = some (.int .i64 0) ∧ X.cell? ⟨k4, 5, none⟩ = some (.bool false) ∧ X.cell? ⟨k3, 0, none⟩ = some (.int .i64 WW) ∧ X.cell? ⟨k3, 1, none⟩ = some (.int .i64 HH) ∧ X.cell? ⟨k3, 2, none⟩ = some (.slice a3 N c3) ∧ X.cell? ⟨k3, 3, none⟩ = some (.int .i64 0) ∧ X.cell? ⟨k3, 4, none⟩ = some (.int .i64 0) ∧ X.cell? ⟨k3, 5, none⟩ = some (.bool false) from
    ⟨blk_cell hx.box 0, blk_cell hx.box 1, (by rw [← e1]; exact blk_cell hx.box 2), blk_cell hx.x4 0, blk_cell hx.x4 1, blk_cell hx.x4 2, blk_cell hx.x4 3, blk_cell hx.x4 4, blk_cell hx.x4 5, blk_cell hx.x3 0, blk_cell hx.x3 1, blk_cell hx.x3 2, blk_cell hx.x3 3, blk_cell hx.x3 4, blk_cell hx.x3 5⟩)
  have HSP := run.hid (fun X (hb : Below w7.heap.size w7 X) => show Calls Tryz.prog 29 #[.slice (some ⟨gt, lt, none⟩) M ct] X (fun e w' => e = .returned (.bool true) ∧ Spt ((((q.tellV (.slice a4 N c4) t1 L).tellV (.slice a5 N c5) t1 L).tellW (.slice a3 N c3) t2).tellW (.slice a3 N c3) t2).B ((((q.tellV (.slice a4 N c4) t1 L).tellV (.slice a5 N c5) t1 L).tellW (.slice a3 N c3) t2).tellW (.slice a3 N c3) t2).n ((((q.tellV (.slice a4 N c4) t1 L).tellV (.slice a5 N c5) t1 L).tellW (.slice a3 N c3) t2).tellW (.slice a3 N c3) t2).V X w') from by
    rw [hpn]
    have hPX := hP2.below hb
    refine spoil_keeps q.B M ((((q.tellV (.slice a4 N c4) t1 L).tellV (.slice a5 N c5) t1 L).tellW (.slice a3 N c3) t2).tellW (.slice a3 N c3) t2).V (fun _ => q.W * q.H) (fun j => cells5 (((((q.tellV (.slice a4 N c4) t1 L).tellV (.slice a5 N c5) t1 L).tellW (.slice a3 N c3) t2).tellW (.slice a3 N c3) t2).Ls j)) gt lt ct X (fun j hj => hPX.tr j (by rw [hpn]; exact hj)) (fun i j hi hj => hPX.ap i j (by rw [hpn]; exact hi) (by rw [hpn]; exact hj)) (by omega) (fun j hj => by rw [HNN.out.1]; have := HNZ.out; omega) (fun j hj => (hb.cell (p := ⟨gt, lt + j, none⟩) hgt).trans (hct j hj)) (fun j hj k e ek => ?_) (Nat.lt_of_lt_of_le hgt hb.size) hPX.Bw
    subst ek
    exact run.own_apart (hPX.tr j (by rw [hpn]; exact hj)) hPX.told (by decide) k e hot)
  have HSX := run.hid (fun X X' (hb : Below w7.heap.size w7 X) (hs : Spt ((((q.tellV (.slice a4 N c4) t1 L).tellV (.slice a5 N c5) t1 L).tellW (.slice a3 N c3) t2).tellW (.slice a3 N c3) t2).B ((((q.tellV (.slice a4 N c4) t1 L).tellV (.slice a5 N c5) t1 L).tellW (.slice a3 N c3) t2).tellW (.slice a3 N c3) t2).n ((((q.tellV (.slice a4 N c4) t1 L).tellV (.slice a5 N c5) t1 L).tellW (.slice a3 N c3) t2).tellW (.slice a3 N c3) t2).V X X') => (HBX.out X hb).spoil (hP2.below hb) hs)
  have HFN := run.hid (fun X1 X2 X3 (h1 : Below w7.heap.size w7 X1) (hs : Spt ((((q.tellV (.slice a4 N c4) t1 L).tellV (.slice a5 N c5) t1 L).tellW (.slice a3 N c3) t2).tellW (.slice a3 N c3) t2).B ((((q.tellV (.slice a4 N c4) t1 L).tellV (.slice a5 N c5) t1 L).tellW (.slice a3 N c3) t2).tellW (.slice a3 N c3) t2).n ((((q.tellV (.slice a4 N c4) t1 L).tellV (.slice a5 N c5) t1 L).tellW (.slice a3 N c3) t2).tellW (.slice a3 N c3) t2).V X1 X2) (h2 : Below X2.heap.size X2 X3) => show KeptC q.blk w X3 from
    ((HKB.out.trans (KeptC.of_below (S := fun _ => False) h1) (fun _ _ h => h.elim)).trans (spt_kept hs) (fun k hk h3 => (HBL.out k h3).elim id (fun h4 => by omega))).trans (KeptC.of_below (S := fun _ => False) h2) (fun _ _ h => h.elim))
  have HRD := run.hid (fun a c B X (h : World.ownsRow X B 59 5 (.slice a N c) N (cells5 L)) => show Reads5 X (.slice a N c) L from by
    have h1 : Reads5 X (.slice a L.length c) L := reads5_own (by rw [hlN]; exact h)
    rw [hlN] at h1
    exact h1)
  clear hP1 hP2 hk1 hk2 hn1 hn2 hx3b hx2c hx4 hx3d hx2d hx3e hx2e hu4a hu6 hu7 hv4a hv6 hv7 hz4a hvlt hns hns2 hA4 hB4 htold hwant hpn hpm e1 e2 hct hcw hM hot how hm hlN
  go_wp2
  go_loopw [6] (fun vi wr => ∃ i : Nat, i ≤ M ∧ vi = .int .i64 i ∧ Hid (Below w7.heap.size w7 wr)) (fun vi _ => ((M : Int) - intOf vi).toNat)
  case atStart => exact ⟨0, by omega, rfl, Below.refl _ _⟩
  case round =>
    obtain ⟨i, hi, rfl, HBr⟩ := hrel
    obtain ⟨x2c, x3c⟩ := HT7.out wr HBr.out
    by_cases hlt : i < M
    · obtain ⟨ai, ci, bi, di, hxi⟩ := HV7.out i hlt
      have hlt' : (i : Int) < (M : Int) := by omega
      go_upto_region 9 with fail
      have hbD : Below w7.heap.size w7 wr.drew := Below.drew HBr.out
      obtain ⟨j1, j2, j3⟩ := hxi _ hbD
      obtain ⟨j4, j5⟩ := HT7.out _ hbD
      have kd : wr.drew.cell? ⟨q.pb, 2, none⟩ = some (.slice (some ⟨gt, lt, none⟩) M ct) ∧ wr.drew.cell? ⟨q.pb, 3, none⟩ = some (.slice (some ⟨gw, lw, none⟩) M cw) ∧ wr.drew.cell? ⟨gt, lt + i, none⟩ = some (.slice ai N ci) ∧ wr.drew.cell? ⟨gw, lw + i, none⟩ = some (.slice bi N di) := ⟨j4, j5, j1, j2⟩
      go_region_held3 (fun X => X.cell? ⟨q.pb, 2, none⟩ = some (.slice (some ⟨gt, lt, none⟩) M ct) ∧ X.cell? ⟨q.pb, 3, none⟩ = some (.slice (some ⟨gw, lw, none⟩) M cw) ∧ X.cell? ⟨gt, lt + i, none⟩ = some (.slice ai N ci) ∧ X.cell? ⟨gw, lw + i, none⟩ = some (.slice bi N di))
        (first
          | with_reducible assumption
          | (trace_state; fail))
        (first
          | (go_at_call 28; refine j3.mono ?_; rintro e w8 ⟨rfl, hb8⟩; have hb8b : Below w7.heap.size w7 w8 := hbD.trans (hb8.mono hbD.size); have k8 : w8.cell? ⟨q.pb, 2, none⟩ = some (.slice (some ⟨gt, lt, none⟩) M ct) ∧ w8.cell? ⟨q.pb, 3, none⟩ = some (.slice (some ⟨gw, lw, none⟩) M cw) ∧ w8.cell? ⟨gt, lt + i, none⟩ = some (.slice ai N ci) ∧ w8.cell? ⟨gw, lw + i, none⟩ = some (.slice bi N di) := ⟨(HT7.out _ hb8b).1, (HT7.out _ hb8b).2, (hxi _ hb8b).1, (hxi _ hb8b).2.1⟩))
      all_goals
        have HX := run.hid hb8b
        clear hb8 hb8b k8 kd j1 j2 j3 j4 j5
        go_wp2
        go_roundw
        case rel => exact ⟨i + 1, by omega, by go_num, HX⟩
        case measure => simp [intOf]; omega
    · obtain rfl : M = i := by omega
      go_upto_region 11 with fail
      have hbD : Below w7.heap.size w7 wr.drew := Below.drew HBr.out
      have kd := HK.out _ (HBX.out _ hbD)
      clear x2c x3c
      go_region_held3 (fun X => X.cell? ⟨q.pb, 0, none⟩ = some (.pointer (some ⟨q.b, 0, none⟩)) ∧ X.cell? ⟨q.pb, 1, none⟩ = some (.pointer (some ⟨q.r, 0, none⟩)) ∧ X.cell? ⟨q.pb, 2, none⟩ = some (.slice (some ⟨gt, lt, none⟩) M ct) ∧ X.cell? ⟨k4, 0, none⟩ = some (.int .i64 WW) ∧ X.cell? ⟨k4, 1, none⟩ = some (.int .i64 HH) ∧ X.cell? ⟨k4, 2, none⟩ = some (.slice a4 N c4) ∧ X.cell? ⟨k4, 3, none⟩ = some (.int .i64 0) ∧ X.cell? ⟨k4, 4, none⟩ = some (.int .i64 0) ∧ X.cell? ⟨k4, 5, none⟩ = some (.bool false) ∧ X.cell? ⟨k3, 0, none⟩ = some (.int .i64 WW) ∧ X.cell? ⟨k3, 1, none⟩ = some (.int .i64 HH) ∧ X.cell? ⟨k3, 2, none⟩ = some (.slice a3 N c3) ∧ X.cell? ⟨k3, 3, none⟩ = some (.int .i64 0) ∧ X.cell? ⟨k3, 4, none⟩ = some (.int .i64 0) ∧ X.cell? ⟨k3, 5, none⟩ = some (.bool false))
        (first
          | with_reducible assumption
          | (trace_state; fail))
        (first
          | (go_at_call 26; first
              | (refine (HSC.out _ _ _ _ _ (HRD.out _ _ _ _ hv10) (HRD.out _ _ _ _ hu10)).mono ?_; rintro e w11 ⟨rfl, hb11⟩; have k11 := HK.out _ (hX10.below hb11))
              | (refine (HC1.out _ hbD).mono ?_; rintro e w8 ⟨rfl, hb8⟩; have hb8b : Below w7.heap.size w7 w8 := hbD.trans (hb8.mono hbD.size); have k8 := HK.out _ (HBX.out _ hb8b)))
          | (go_at_call 29; refine (HSP.out _ hb8b).mono ?_; rintro e w9 ⟨rfl, hs9⟩; have hX9 := HSX.out _ _ hb8b hs9; have k9 := HK.out _ hX9)
          | (go_at_call 24; refine (HP.out _ hX9.buf).mono ?_; rintro e wa ⟨va, rfl, hva, hba⟩; obtain ⟨aa, ca, rfl⟩ := run.own_value hva; have hXa := hX9.below hba; have ka := HK.out _ hXa)
          | (go_at_call 25; refine (HR.out _ hXa.rb).mono ?_; rintro e w10 ⟨vb, rfl, hu10, hbb⟩; obtain ⟨ab, cb, rfl⟩ := run.own_value hu10; have hv10 := run.own_below hva hbb; have hX10 := hXa.below hbb; have k10 := HK.out _ hX10))
      all_goals
        have HX := run.hid (HFN.out _ _ _ hb8b hs9 ((hba.trans (hbb.mono hba.size)).trans (hb11.mono (Nat.le_trans hba.size hbb.size))))
        clear kd k8 k9 ka k10 k11 hX9 hXa hX10 hv10 hu10 hva hba hbb hb11 hb8 hb8b hs9
        go_wp2
        go_ret
        exact ⟨rfl, HX.out⟩
end Go.Proofs.YtdgcfmfjgidbjaaGreat.cel
