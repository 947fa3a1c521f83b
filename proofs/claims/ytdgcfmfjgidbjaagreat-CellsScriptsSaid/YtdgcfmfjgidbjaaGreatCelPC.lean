/-
  The walk of a pair's step: Cell. (Printed by gen_celpc.py.)
-/
import Derived.Test.YtdgcfmfjgidbjaaGreatCelPall
namespace Go.Proofs.YtdgcfmfjgidbjaaGreat.cel
open Go Go.RowKit Go.Proofs
set_option linter.unusedVariables false
set_option maxRecDepth 100000 in
set_option maxHeartbeats 8000000 in
theorem pst_cell (q : PR) (L : List CV) (w : World) (h : PB q L L w) (hS : Strong q.W q.H L) (hm : q.m = q.n) (x y : Int) (v3 v4 v5 v6 v7 v8 v9 v10 v11 v12 : Value) :
    Calls Tryz.prog 6 #[.pointer (some ⟨q.pb, 0, none⟩), .agg #[.int .i64 5, .int .i64 x, .int .i64 y, v3, v4, v5, v6, v7, v8, v9, v10, v11, v12]] w fun e w' => e = .returned (.bool true) ∧ After q w w' := by
  have hC := CX.start h #[.int .i64 5, .int .i64 x, .int .i64 y, v3, v4, v5, v6, v7, v8, v9, v10, v11, v12]
  have s0 := hC.c 0
  obtain ⟨c, ok, hP, hR⟩ := cell_both (b := q.b) (g := q.g) (r := q.r) (W := q.W) (H := q.H) (B := q.r + 1) (v := q.vr) (L := L) x y
  obtain ⟨ct, cw, ⟨cf, cb, ca⟩⟩ := c
  change ∀ X, _ → Calls _ _ _ _ fun e w' => e = .returned (.tuple #[.agg #[.string ct, .int .i8 cw, .int .i32 cf, .int .i32 cb, .int .u8 ca], .bool ok]) ∧ _ at hP
  change ∀ X, _ → Calls _ _ _ _ fun e w' => e = .returned (.tuple #[.agg #[.string ct, .int .i8 cw, .int .i32 cf, .int .i32 cb, .int .u8 ca], .bool ok]) ∧ _ at hR
  have HP := run.hid (fun X (hc : CX q w.heap.size #[.int .i64 5, .int .i64 x, .int .i64 y, v3, v4, v5, v6, v7, v8, v9, v10, v11, v12] L L w X) => hP X hc.pb.buf)
  have HR := run.hid (fun X (hc : CX q w.heap.size #[.int .i64 5, .int .i64 x, .int .i64 y, v3, v4, v5, v6, v7, v8, v9, v10, v11, v12] L L w X) => hR X hc.pb.rb)
  have HK := run.hid (fun X (hc : CX q w.heap.size #[.int .i64 5, .int .i64 x, .int .i64 y, v3, v4, v5, v6, v7, v8, v9, v10, v11, v12] L L w X) =>
    (⟨hc.p0, hc.p1, hc.c 1, hc.c 2⟩ : X.cell? ⟨q.pb, 0, none⟩ = some (.pointer (some ⟨q.b, 0, none⟩)) ∧ X.cell? ⟨q.pb, 1, none⟩ = some (.pointer (some ⟨q.r, 0, none⟩)) ∧ X.cell? ⟨w.heap.size, 1, none⟩ = some (.int .i64 x) ∧ X.cell? ⟨w.heap.size, 2, none⟩ = some (.int .i64 y)))
  have HSS := run.hid hS
  clear h hS hP hR
  go_enter Tryz.func6, Tryz.ntmps6
  go_upto_region 1 with fail
  generalize w.alloc (.cells #[.int .i64 5, .int .i64 x, .int .i64 y, v3, v4, v5, v6, v7, v8, v9, v10, v11, v12] 37) = w1 at *
  generalize hn : w.heap.size = n at *
  change w1.cell? _ = some (.int .i64 5) at s0
  have HC := run.hid hC
  clear hC
  go_upto_region 21 with fail
  go_cut [10, 11] (fun c d wx => ∃ k, c = .pointer (some ⟨k, 0, none⟩) ∧ d = .bool ok ∧ w1.heap.size ≤ k ∧ wx.heap[k]? = some (.cells #[.string ct, .int .i8 cw, .int .i32 cf, .int .i32 cb, .int .u8 ca] 59 (0, 0)) ∧ Hid (Below w1.heap.size w1 wx))
  case first =>
    refine run.alone (by assumption) (by assumption) ?_
    go_light
    intro _ _ _ _
    have hbd : Below w1.heap.size w1 w1.drew := (Below.refl _ _).drew
    have hCd := HC.out.below hbd
    have hbA : Below w1.heap.size w1 (w1.alloc (.cells #[.string ⟨#[]⟩, .int .i8 0, .int .i32 0, .int .i32 0, .int .u8 0] 59)).drew := (run.below_one w1 (.cells #[.string ⟨#[]⟩, .int .i8 0, .int .i32 0, .int .i32 0, .int .u8 0] 59)).drew
    have hCa := HC.out.below hbA
    have k0 := HK.out _ HC.out
    have kd := HK.out _ hCd
    have ka := HK.out _ hCa
    go_region_held3 (fun X => (X).cell? ⟨q.pb, 0, none⟩ = some (.pointer (some ⟨q.b, 0, none⟩)) ∧ (X).cell? ⟨q.pb, 1, none⟩ = some (.pointer (some ⟨q.r, 0, none⟩)) ∧ (X).cell? ⟨n, 1, none⟩ = some (.int .i64 x) ∧ (X).cell? ⟨n, 2, none⟩ = some (.int .i64 y))
      (first
        | with_reducible assumption
        | (trace_state; fail))
      (first
        | (go_at_call 22; refine (HP.out _ hCd).mono ?_; rintro e w7 ⟨rfl, hb7⟩; have hb7 : Below w1.heap.size w1.drew w7 := hb7; have k7 := HK.out _ (hCd.below hb7); have hfin1 : Below w1.heap.size w1 (w7.alloc (.cells #[.string ct, .int .i8 cw, .int .i32 cf, .int .i32 cb, .int .u8 ca] 59)) := ((hbd.trans (hb7.mono (Nat.le_refl _))).alloc (Nat.le_trans (Nat.le_refl _) hb7.size) (.cells #[.string ct, .int .i8 cw, .int .i32 cf, .int .i32 cb, .int .u8 ca] 59)); have k7a : (w7.alloc (.cells #[.string ⟨#[]⟩, .int .i8 0, .int .i32 0, .int .i32 0, .int .u8 0] 59)).cell? ⟨q.pb, 0, none⟩ = some (.pointer (some ⟨q.b, 0, none⟩)) ∧ (w7.alloc (.cells #[.string ⟨#[]⟩, .int .i8 0, .int .i32 0, .int .i32 0, .int .u8 0] 59)).cell? ⟨q.pb, 1, none⟩ = some (.pointer (some ⟨q.r, 0, none⟩)) ∧ (w7.alloc (.cells #[.string ⟨#[]⟩, .int .i8 0, .int .i32 0, .int .i32 0, .int .u8 0] 59)).cell? ⟨n, 1, none⟩ = some (.int .i64 x) ∧ (w7.alloc (.cells #[.string ⟨#[]⟩, .int .i8 0, .int .i32 0, .int .i32 0, .int .u8 0] 59)).cell? ⟨n, 2, none⟩ = some (.int .i64 y) := HK.out _ ((hCd.below hb7).below (run.below_one w7 (.cells #[.string ⟨#[]⟩, .int .i8 0, .int .i32 0, .int .i32 0, .int .u8 0] 59))); have k7s : (w7.alloc (.cells #[.string ct, .int .i8 cw, .int .i32 cf, .int .i32 cb, .int .u8 ca] 59)).cell? ⟨q.pb, 0, none⟩ = some (.pointer (some ⟨q.b, 0, none⟩)) ∧ (w7.alloc (.cells #[.string ct, .int .i8 cw, .int .i32 cf, .int .i32 cb, .int .u8 ca] 59)).cell? ⟨q.pb, 1, none⟩ = some (.pointer (some ⟨q.r, 0, none⟩)) ∧ (w7.alloc (.cells #[.string ct, .int .i8 cw, .int .i32 cf, .int .i32 cb, .int .u8 ca] 59)).cell? ⟨n, 1, none⟩ = some (.int .i64 x) ∧ (w7.alloc (.cells #[.string ct, .int .i8 cw, .int .i32 cf, .int .i32 cb, .int .u8 ca] 59)).cell? ⟨n, 2, none⟩ = some (.int .i64 y) := HK.out _ ((hCd.below hb7).below (run.below_one w7 (.cells #[.string ct, .int .i8 cw, .int .i32 cf, .int .i32 cb, .int .u8 ca] 59))))
        | (go_at_call 22; refine (HP.out _ hCa).mono ?_; rintro e w7 ⟨rfl, hb7⟩; have hb7 : Below (w1.alloc (.cells #[.string ⟨#[]⟩, .int .i8 0, .int .i32 0, .int .i32 0, .int .u8 0] 59)).drew.heap.size (w1.alloc (.cells #[.string ⟨#[]⟩, .int .i8 0, .int .i32 0, .int .i32 0, .int .u8 0] 59)).drew w7 := hb7; have hba : Below w1.heap.size w1 w7 := hbA.trans (hb7.mono hbA.size); have hk7 : w7.heap[w1.heap.size]? = some (.cells #[.string ⟨#[]⟩, .int .i8 0, .int .i32 0, .int .i32 0, .int .u8 0] 59 (0, 0)) := (hb7.block w1.heap.size (by show _ < (w1.alloc (.cells #[.string ⟨#[]⟩, .int .i8 0, .int .i32 0, .int .i32 0, .int .u8 0] 59)).heap.size; rw [World.size_alloc]; exact Nat.lt_succ_self _)).trans (run.heap_new w1 _); obtain ⟨⟨e0, e1, e2, e3, e4⟩, f0, f1, f2, f3, f4⟩ := blk5 hk7; have k7 := HK.out _ (hCa.below hb7); have hfin2 : Below w1.heap.size w1 ((((((w7).setCell ⟨w1.heap.size, 0, none⟩ (.string ct)).setCell ⟨w1.heap.size, 1, none⟩ (.int .i8 cw)).setCell ⟨w1.heap.size, 2, none⟩ (.int .i32 cf)).setCell ⟨w1.heap.size, 3, none⟩ (.int .i32 cb)).setCell ⟨w1.heap.size, 4, none⟩ (.int .u8 ca)) := below5 (.string ct) (.int .i8 cw) (.int .i32 cf) (.int .i32 cb) (.int .u8 ca) hba (Nat.le_refl _); have k7s : (((((((w7).setCell ⟨w1.heap.size, 0, none⟩ (.string ct)).setCell ⟨w1.heap.size, 1, none⟩ (.int .i8 cw)).setCell ⟨w1.heap.size, 2, none⟩ (.int .i32 cf)).setCell ⟨w1.heap.size, 3, none⟩ (.int .i32 cb)).setCell ⟨w1.heap.size, 4, none⟩ (.int .u8 ca))).cell? ⟨q.pb, 0, none⟩ = some (.pointer (some ⟨q.b, 0, none⟩)) ∧ (((((((w7).setCell ⟨w1.heap.size, 0, none⟩ (.string ct)).setCell ⟨w1.heap.size, 1, none⟩ (.int .i8 cw)).setCell ⟨w1.heap.size, 2, none⟩ (.int .i32 cf)).setCell ⟨w1.heap.size, 3, none⟩ (.int .i32 cb)).setCell ⟨w1.heap.size, 4, none⟩ (.int .u8 ca))).cell? ⟨q.pb, 1, none⟩ = some (.pointer (some ⟨q.r, 0, none⟩)) ∧ (((((((w7).setCell ⟨w1.heap.size, 0, none⟩ (.string ct)).setCell ⟨w1.heap.size, 1, none⟩ (.int .i8 cw)).setCell ⟨w1.heap.size, 2, none⟩ (.int .i32 cf)).setCell ⟨w1.heap.size, 3, none⟩ (.int .i32 cb)).setCell ⟨w1.heap.size, 4, none⟩ (.int .u8 ca))).cell? ⟨n, 1, none⟩ = some (.int .i64 x) ∧ (((((((w7).setCell ⟨w1.heap.size, 0, none⟩ (.string ct)).setCell ⟨w1.heap.size, 1, none⟩ (.int .i8 cw)).setCell ⟨w1.heap.size, 2, none⟩ (.int .i32 cf)).setCell ⟨w1.heap.size, 3, none⟩ (.int .i32 cb)).setCell ⟨w1.heap.size, 4, none⟩ (.int .u8 ca))).cell? ⟨n, 2, none⟩ = some (.int .i64 y) := HK.out _ (HC.out.below hfin2); have b7s : ((((((w7).setCell ⟨w1.heap.size, 0, none⟩ (.string ct)).setCell ⟨w1.heap.size, 1, none⟩ (.int .i8 cw)).setCell ⟨w1.heap.size, 2, none⟩ (.int .i32 cf)).setCell ⟨w1.heap.size, 3, none⟩ (.int .i32 cb)).setCell ⟨w1.heap.size, 4, none⟩ (.int .u8 ca)).heap[w1.heap.size]? = some (.cells #[.string ct, .int .i8 cw, .int .i32 cf, .int .i32 cb, .int .u8 ca] 59 (0, 0)) := set5 hk7))
    all_goals
      go_wp2
      go_meet
      case rel => first | exact ⟨_, rfl, rfl, hb7.size, run.heap_new w7 _, run.hid hfin1⟩ | exact ⟨_, rfl, rfl, Nat.le_refl _, b7s, run.hid hfin2⟩
  obtain ⟨k1, rfl, rfl, hk1, hb1, HBc⟩ := hcut
  have HC2 := run.hid (HC.out.below HBc.out)
  clear HC HBc hk1 s0
  generalize wc = w2 at *
  go_upto_region 22 with fail
  go_cut [12, 13] (fun c d wx => ∃ k, c = .pointer (some ⟨k, 0, none⟩) ∧ d = .bool ok ∧ w2.heap.size ≤ k ∧ wx.heap[k]? = some (.cells #[.string ct, .int .i8 cw, .int .i32 cf, .int .i32 cb, .int .u8 ca] 59 (0, 0)) ∧ Hid (Below w2.heap.size w2 wx))
  case first =>
    refine run.alone (by assumption) (by assumption) ?_
    go_light
    intro _ _ _ _
    have hbd : Below w2.heap.size w2 w2.drew := (Below.refl _ _).drew
    have hCd := HC2.out.below hbd
    have hbA : Below w2.heap.size w2 (w2.alloc (.cells #[.string ⟨#[]⟩, .int .i8 0, .int .i32 0, .int .i32 0, .int .u8 0] 59)).drew := (run.below_one w2 (.cells #[.string ⟨#[]⟩, .int .i8 0, .int .i32 0, .int .i32 0, .int .u8 0] 59)).drew
    have hCa := HC2.out.below hbA
    have k0 := HK.out _ HC2.out
    have kd := HK.out _ hCd
    have ka := HK.out _ hCa
    go_region_held3 (fun X => (X).cell? ⟨q.pb, 0, none⟩ = some (.pointer (some ⟨q.b, 0, none⟩)) ∧ (X).cell? ⟨q.pb, 1, none⟩ = some (.pointer (some ⟨q.r, 0, none⟩)) ∧ (X).cell? ⟨n, 1, none⟩ = some (.int .i64 x) ∧ (X).cell? ⟨n, 2, none⟩ = some (.int .i64 y))
      (first
        | with_reducible assumption
        | (trace_state; fail))
      (first
        | (go_at_call 23; refine (HR.out _ hCd).mono ?_; rintro e w7 ⟨rfl, hb7⟩; have hb7 : Below w2.heap.size w2.drew w7 := hb7; have k7 := HK.out _ (hCd.below hb7); have hfin1 : Below w2.heap.size w2 (w7.alloc (.cells #[.string ct, .int .i8 cw, .int .i32 cf, .int .i32 cb, .int .u8 ca] 59)) := ((hbd.trans (hb7.mono (Nat.le_refl _))).alloc (Nat.le_trans (Nat.le_refl _) hb7.size) (.cells #[.string ct, .int .i8 cw, .int .i32 cf, .int .i32 cb, .int .u8 ca] 59)); have k7a : (w7.alloc (.cells #[.string ⟨#[]⟩, .int .i8 0, .int .i32 0, .int .i32 0, .int .u8 0] 59)).cell? ⟨q.pb, 0, none⟩ = some (.pointer (some ⟨q.b, 0, none⟩)) ∧ (w7.alloc (.cells #[.string ⟨#[]⟩, .int .i8 0, .int .i32 0, .int .i32 0, .int .u8 0] 59)).cell? ⟨q.pb, 1, none⟩ = some (.pointer (some ⟨q.r, 0, none⟩)) ∧ (w7.alloc (.cells #[.string ⟨#[]⟩, .int .i8 0, .int .i32 0, .int .i32 0, .int .u8 0] 59)).cell? ⟨n, 1, none⟩ = some (.int .i64 x) ∧ (w7.alloc (.cells #[.string ⟨#[]⟩, .int .i8 0, .int .i32 0, .int .i32 0, .int .u8 0] 59)).cell? ⟨n, 2, none⟩ = some (.int .i64 y) := HK.out _ ((hCd.below hb7).below (run.below_one w7 (.cells #[.string ⟨#[]⟩, .int .i8 0, .int .i32 0, .int .i32 0, .int .u8 0] 59))); have k7s : (w7.alloc (.cells #[.string ct, .int .i8 cw, .int .i32 cf, .int .i32 cb, .int .u8 ca] 59)).cell? ⟨q.pb, 0, none⟩ = some (.pointer (some ⟨q.b, 0, none⟩)) ∧ (w7.alloc (.cells #[.string ct, .int .i8 cw, .int .i32 cf, .int .i32 cb, .int .u8 ca] 59)).cell? ⟨q.pb, 1, none⟩ = some (.pointer (some ⟨q.r, 0, none⟩)) ∧ (w7.alloc (.cells #[.string ct, .int .i8 cw, .int .i32 cf, .int .i32 cb, .int .u8 ca] 59)).cell? ⟨n, 1, none⟩ = some (.int .i64 x) ∧ (w7.alloc (.cells #[.string ct, .int .i8 cw, .int .i32 cf, .int .i32 cb, .int .u8 ca] 59)).cell? ⟨n, 2, none⟩ = some (.int .i64 y) := HK.out _ ((hCd.below hb7).below (run.below_one w7 (.cells #[.string ct, .int .i8 cw, .int .i32 cf, .int .i32 cb, .int .u8 ca] 59))))
        | (go_at_call 23; refine (HR.out _ hCa).mono ?_; rintro e w7 ⟨rfl, hb7⟩; have hb7 : Below (w2.alloc (.cells #[.string ⟨#[]⟩, .int .i8 0, .int .i32 0, .int .i32 0, .int .u8 0] 59)).drew.heap.size (w2.alloc (.cells #[.string ⟨#[]⟩, .int .i8 0, .int .i32 0, .int .i32 0, .int .u8 0] 59)).drew w7 := hb7; have hba : Below w2.heap.size w2 w7 := hbA.trans (hb7.mono hbA.size); have hk7 : w7.heap[w2.heap.size]? = some (.cells #[.string ⟨#[]⟩, .int .i8 0, .int .i32 0, .int .i32 0, .int .u8 0] 59 (0, 0)) := (hb7.block w2.heap.size (by show _ < (w2.alloc (.cells #[.string ⟨#[]⟩, .int .i8 0, .int .i32 0, .int .i32 0, .int .u8 0] 59)).heap.size; rw [World.size_alloc]; exact Nat.lt_succ_self _)).trans (run.heap_new w2 _); obtain ⟨⟨e0, e1, e2, e3, e4⟩, f0, f1, f2, f3, f4⟩ := blk5 hk7; have k7 := HK.out _ (hCa.below hb7); have hfin2 : Below w2.heap.size w2 ((((((w7).setCell ⟨w2.heap.size, 0, none⟩ (.string ct)).setCell ⟨w2.heap.size, 1, none⟩ (.int .i8 cw)).setCell ⟨w2.heap.size, 2, none⟩ (.int .i32 cf)).setCell ⟨w2.heap.size, 3, none⟩ (.int .i32 cb)).setCell ⟨w2.heap.size, 4, none⟩ (.int .u8 ca)) := below5 (.string ct) (.int .i8 cw) (.int .i32 cf) (.int .i32 cb) (.int .u8 ca) hba (Nat.le_refl _); have k7s : (((((((w7).setCell ⟨w2.heap.size, 0, none⟩ (.string ct)).setCell ⟨w2.heap.size, 1, none⟩ (.int .i8 cw)).setCell ⟨w2.heap.size, 2, none⟩ (.int .i32 cf)).setCell ⟨w2.heap.size, 3, none⟩ (.int .i32 cb)).setCell ⟨w2.heap.size, 4, none⟩ (.int .u8 ca))).cell? ⟨q.pb, 0, none⟩ = some (.pointer (some ⟨q.b, 0, none⟩)) ∧ (((((((w7).setCell ⟨w2.heap.size, 0, none⟩ (.string ct)).setCell ⟨w2.heap.size, 1, none⟩ (.int .i8 cw)).setCell ⟨w2.heap.size, 2, none⟩ (.int .i32 cf)).setCell ⟨w2.heap.size, 3, none⟩ (.int .i32 cb)).setCell ⟨w2.heap.size, 4, none⟩ (.int .u8 ca))).cell? ⟨q.pb, 1, none⟩ = some (.pointer (some ⟨q.r, 0, none⟩)) ∧ (((((((w7).setCell ⟨w2.heap.size, 0, none⟩ (.string ct)).setCell ⟨w2.heap.size, 1, none⟩ (.int .i8 cw)).setCell ⟨w2.heap.size, 2, none⟩ (.int .i32 cf)).setCell ⟨w2.heap.size, 3, none⟩ (.int .i32 cb)).setCell ⟨w2.heap.size, 4, none⟩ (.int .u8 ca))).cell? ⟨n, 1, none⟩ = some (.int .i64 x) ∧ (((((((w7).setCell ⟨w2.heap.size, 0, none⟩ (.string ct)).setCell ⟨w2.heap.size, 1, none⟩ (.int .i8 cw)).setCell ⟨w2.heap.size, 2, none⟩ (.int .i32 cf)).setCell ⟨w2.heap.size, 3, none⟩ (.int .i32 cb)).setCell ⟨w2.heap.size, 4, none⟩ (.int .u8 ca))).cell? ⟨n, 2, none⟩ = some (.int .i64 y) := HK.out _ (HC2.out.below hfin2); have b7s : ((((((w7).setCell ⟨w2.heap.size, 0, none⟩ (.string ct)).setCell ⟨w2.heap.size, 1, none⟩ (.int .i8 cw)).setCell ⟨w2.heap.size, 2, none⟩ (.int .i32 cf)).setCell ⟨w2.heap.size, 3, none⟩ (.int .i32 cb)).setCell ⟨w2.heap.size, 4, none⟩ (.int .u8 ca)).heap[w2.heap.size]? = some (.cells #[.string ct, .int .i8 cw, .int .i32 cf, .int .i32 cb, .int .u8 ca] 59 (0, 0)) := set5 hk7))
    all_goals
      go_wp2
      go_meet
      case rel => first | exact ⟨_, rfl, rfl, hb7.size, run.heap_new w7 _, run.hid hfin1⟩ | exact ⟨_, rfl, rfl, Nat.le_refl _, b7s, run.hid hfin2⟩
  obtain ⟨k2, rfl, rfl, hk2, hb2, HBc⟩ := hcut
  have HF := run.hid ((HC2.out.below HBc.out).after HSS.out hm)
  obtain ⟨⟨d0, d1, d2, d3, d4⟩, -⟩ := blk5 ((HBc.out.block k1 (Array.getElem?_eq_some_iff.1 hb1).1).trans hb1)
  obtain ⟨⟨e0, e1, e2, e3, e4⟩, -⟩ := blk5 hb2
  clear hb1 hb2 HBc HC2 HP HR HK HSS hk2
  go_wp2

  go_ret
  exact ⟨rfl, HF.out⟩
end Go.Proofs.YtdgcfmfjgidbjaaGreat.cel
