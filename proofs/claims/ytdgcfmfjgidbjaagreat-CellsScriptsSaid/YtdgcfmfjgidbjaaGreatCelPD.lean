/-
  The walk of a pair's step: Screen. (Printed by gen_celpd.py.)
-/
import Derived.Test.YtdgcfmfjgidbjaaGreatCelPC
import Derived.Test.YtdgcfmfjgidbjaaGreatCelPT
import Derived.Test.YtdgcfmfjgidbjaaGreatCelRack2
import Derived.Deep.RegionLaw
import Derived.BigQuiet
namespace Go.Proofs.YtdgcfmfjgidbjaaGreat.cel
open Go Go.RowKit Go.Proofs
set_option linter.unusedVariables false
theorem tellV_done {q : PR} {L R : List CV} {w9 wA w10 : World} {v t1 : Value} {Lc : List CV} (h : PB q L R w9) (hm : q.m = q.n) (hA : Below w9.heap.size w9 wA)
    (hown : w10.ownsRow q.B 35 1 t1 (q.n + 1) (vals q.V q.n ++ [v])) (hg : wA.grownBy w10 q.vt.ownBlock) (hst : run.Step wA q.vt q.n t1 (q.n + 1)) (hv : w9.ownsRow q.B 59 5 v (q.W * q.H) (cells5 Lc)) (hvn : ∀ k, v.ownBlock = some k → ¬ q.blk k) (hlc : Lc.length = q.W * q.H) :
    PB (q.tellV v t1 Lc) L R (w10.setCell ⟨q.pb, 2, none⟩ t1) ∧ KeptC (fun k => k = q.pb ∨ q.vt.ownBlock = some k) w9 (w10.setCell ⟨q.pb, 2, none⟩ t1) ∧ ∀ k, t1.ownBlock = some k → q.vt.ownBlock = some k ∨ w9.heap.size ≤ k := by
  have hpB := h.pB
  have hbA := (hA.block q.pb (h.lt (.inl rfl))).trans h.box
  have hb10 : w10.heap[q.pb]? = _ := (hg.block q.pb (Array.getElem?_eq_some_iff.1 hbA).1 (fun e => by have := (h.told.lt q.pb e.symm).1; omega)).trans hbA
  have hk : KeptC (fun k => k = q.pb ∨ q.vt.ownBlock = some k) w9 (w10.setCell ⟨q.pb, 2, none⟩ t1) :=
    ((KeptC.of_below (S := fun k => k = q.pb ∨ q.vt.ownBlock = some k) hA).trans (KeptC.of_grown (S := fun k => k = q.pb ∨ q.vt.ownBlock = some k) hg (fun k e => .inr e)) (fun _ _ h => h)).trans (KeptC.of_grown (S := fun k => k = q.pb ∨ q.vt.ownBlock = some k) (run.setCell_grown w10 q.pb 2 t1) (fun k e => .inl (by simp only [Option.some.injEq] at e; exact e.symm))) (fun _ _ h => h)
  have hst2 : run.Step w9 q.vt q.n t1 (q.n + 1) := hst.imp id (fun h2 k e => Nat.le_trans hA.size (h2 k e))
  have hown2 := run.own_kept hown (run.setCell_grown w10 q.pb 2 t1) (fun k hk e => by
    have := (hown.lt k hk).1
    simp only [Option.some.injEq] at e
    omega)
  refine ⟨h.tellV hm hk (fun _ h => h) (blk_set hb10) hown2 hst2 hv hvn hlc, hk, fun k e => ?_⟩
  rcases hst2 with ⟨g, cap, e1, e2⟩ | h2
  · rw [e2] at e
    rw [e1]
    exact .inl e
  · exact .inr (h2 k e)
theorem tellW_done {q : PR} {L R : List CV} {w9 wA w10 : World} {v t1 : Value} (h : PB q L R w9) (hm : q.n = q.m + 1) (hA : Below w9.heap.size w9 wA)
    (hown : w10.ownsRow q.B 35 1 t1 (q.m + 1) (vals q.U q.m ++ [v])) (hg : wA.grownBy w10 q.vw.ownBlock) (hst : run.Step wA q.vw q.m t1 (q.m + 1)) (hv : w9.ownsRow q.B 59 5 v (q.W * q.H) (cells5 (q.Ls q.m))) :
    PB (q.tellW v t1) L R (w10.setCell ⟨q.pb, 3, none⟩ t1) ∧ KeptC (fun k => k = q.pb ∨ q.vw.ownBlock = some k) w9 (w10.setCell ⟨q.pb, 3, none⟩ t1) ∧ ∀ k, t1.ownBlock = some k → q.vw.ownBlock = some k ∨ w9.heap.size ≤ k := by
  have hpB := h.pB
  have hbA := (hA.block q.pb (h.lt (.inl rfl))).trans h.box
  have hb10 : w10.heap[q.pb]? = _ := (hg.block q.pb (Array.getElem?_eq_some_iff.1 hbA).1 (fun e => by have := (h.want.lt q.pb e.symm).1; omega)).trans hbA
  have hk : KeptC (fun k => k = q.pb ∨ q.vw.ownBlock = some k) w9 (w10.setCell ⟨q.pb, 3, none⟩ t1) :=
    ((KeptC.of_below (S := fun k => k = q.pb ∨ q.vw.ownBlock = some k) hA).trans (KeptC.of_grown (S := fun k => k = q.pb ∨ q.vw.ownBlock = some k) hg (fun k e => .inr e)) (fun _ _ h => h)).trans (KeptC.of_grown (S := fun k => k = q.pb ∨ q.vw.ownBlock = some k) (run.setCell_grown w10 q.pb 3 t1) (fun k e => .inl (by simp only [Option.some.injEq] at e; exact e.symm))) (fun _ _ h => h)
  have hst2 : run.Step w9 q.vw q.m t1 (q.m + 1) := hst.imp id (fun h2 k e => Nat.le_trans hA.size (h2 k e))
  have hown2 := run.own_kept hown (run.setCell_grown w10 q.pb 3 t1) (fun k hk e => by
    have := (hown.lt k hk).1
    simp only [Option.some.injEq] at e
    omega)
  refine ⟨h.tellW hm hk (fun _ h => h) (blk_set hb10) hown2 hst2 hv, hk, fun k e => ?_⟩
  rcases hst2 with ⟨g, cap, e1, e2⟩ | h2
  · rw [e2] at e
    rw [e1]
    exact .inl e
  · exact .inr (h2 k e)
theorem tell_blk {q : PR} {v u t1 t2 : Value} {Lc : List CV} {n : Nat} (h1 : ∀ k, t1.ownBlock = some k → q.vt.ownBlock = some k ∨ n ≤ k) (h2 : ∀ k, t2.ownBlock = some k → q.vw.ownBlock = some k ∨ n ≤ k) (hv : ∀ k, v.ownBlock = some k → n ≤ k) (hu : ∀ k, u.ownBlock = some k → n ≤ k) :
    ∀ k, ((q.tellV v t1 Lc).tellW u t2).blk k → q.blk k ∨ n ≤ k := by
  intro k hk
  rcases hk with h | h | h | h | h | h | h | ⟨j, hj, h⟩ | ⟨j, hj, h⟩
  · exact .inl (.inl h)
  · exact .inl (.inr (.inl h))
  · exact .inl (.inr (.inr (.inl h)))
  · exact .inl (.inr (.inr (.inr (.inl h))))
  · exact .inl (.inr (.inr (.inr (.inr (.inl h)))))
  · exact (h1 k h).imp (fun e => .inr (.inr (.inr (.inr (.inr (.inl e)))))) id
  · exact (h2 k h).imp (fun e => .inr (.inr (.inr (.inr (.inr (.inr (.inl e))))))) id
  · replace hj : j < q.n + 1 := hj
    replace h : (if j = q.n then v else q.V j).ownBlock = some k := h
    by_cases e : j = q.n
    · rw [if_pos e] at h
      exact .inr (hv k h)
    · rw [if_neg e] at h
      exact .inl (.inr (.inr (.inr (.inr (.inr (.inr (.inr (.inl ⟨j, by omega, h⟩))))))))
  · replace hj : j < q.m + 1 := hj
    replace h : (if j = q.m then u else q.U j).ownBlock = some k := h
    by_cases e : j = q.m
    · rw [if_pos e] at h
      exact .inr (hu k h)
    · rw [if_neg e] at h
      exact .inl (.inr (.inr (.inr (.inr (.inr (.inr (.inr (.inr ⟨j, by omega, h⟩))))))))
set_option maxRecDepth 100000 in
set_option maxHeartbeats 8000000 in
theorem pst_screen (q : PR) (L : List CV) (w : World) (h : PB q L L w) (hS : Strong q.W q.H L) (hm : q.m = q.n) (hN27 : q.n ≤ 134217728) (v1 v2 v3 v4 v5 v6 v7 v8 v9 v10 v11 v12 : Value) :
    Calls Tryz.prog 6 #[.pointer (some ⟨q.pb, 0, none⟩), .agg #[.int .i64 6, v1, v2, v3, v4, v5, v6, v7, v8, v9, v10, v11, v12]] w fun e w' => e = .returned (.bool true) ∧ After q w w' := by
  obtain ⟨it, hi0, hi1, hi2, hi3⟩ := info_parts info_srspoil
  have hC := CX.start h #[.int .i64 6, v1, v2, v3, v4, v5, v6, v7, v8, v9, v10, v11, v12]
  have s0 := hC.c 0
  have HP := run.hid (fun X (hc : CX q w.heap.size #[.int .i64 6, v1, v2, v3, v4, v5, v6, v7, v8, v9, v10, v11, v12] L L w X) => screen_any q.b q.g q.W q.H L X hc.pb.buf)
  have HR := run.hid (fun X (hc : CX q w.heap.size #[.int .i64 6, v1, v2, v3, v4, v5, v6, v7, v8, v9, v10, v11, v12] L L w X) => rscreen_any (q.r + 1) q.r q.W q.H q.vr L X hc.pb.rb)
  have HSS := run.hid hS
  have hp1 := hC.p0
  have hlen : L.length = q.W * q.H := h.buf.len
  have hsz : L.length ≤ 140737488355328 := by have := h.rb.size; omega
  have hsm := run.hid (fun X (hx : Reads5 X (.slice none 0 0) L) => hx)
  have HLT := run.hid (fun k (hk : q.blk k) => h.lt hk)
  have HBW := run.hid h.Bw
  have HSC := run.hid (fun a1 a2 c1 c2 X (h1 : Reads5 X (.slice a1 L.length c1) L) (h2 : Reads5 X (.slice a2 L.length c2) L) => samescr_any q.W q.H a1 a2 c1 c2 L X h1 h2 hsz)
  clear h hS hsm
  unfold scrV at HP HR
  unfold scrA at HSC
  obtain ⟨N, hN⟩ : ∃ N, q.W * q.H = N := ⟨_, rfl⟩
  rw [hN] at HP HR
  have HNN := run.hid (And.intro hN hlen)
  rw [hlen, hN] at HSC
  clear hN hlen hsz
  generalize hWW : ((q.W : Nat) : Int) = WW at HP HR HSC
  generalize hHH : ((q.H : Nat) : Int) = HH at HP HR HSC
  clear hWW hHH
  go_enter Tryz.func6, Tryz.ntmps6
  go_upto_region 1 with fail
  have hs1 : w.heap.size < (w.alloc (.cells #[.int .i64 6, v1, v2, v3, v4, v5, v6, v7, v8, v9, v10, v11, v12] 37)).heap.size := by rw [World.size_alloc]; exact Nat.lt_succ_self _
  generalize w.alloc (.cells #[.int .i64 6, v1, v2, v3, v4, v5, v6, v7, v8, v9, v10, v11, v12] 37) = w1 at *
  generalize hn : w.heap.size = n at *
  change w1.cell? _ = some (.int .i64 6) at s0
  go_upto_region 25 with fail
  clear s0
  go_wp2_with fail
  refine (HP.out _ hC).mono ?_
  rintro e w7 ⟨v, rfl, hv7, hb7⟩
  obtain ⟨a7, c7, rfl⟩ := run.own_value hv7
  have hC7 := hC.below hb7
  have hA7 := hC7.below (run.below_one w7 (.cells #[.int .i64 WW, .int .i64 HH, .slice a7 N c7, .int .i64 0, .int .i64 0, .bool false] 64))
  have p7 := hA7.p1
  have hs7 := hb7.size
  have hx7 := run.heap_new w7 (.cells #[.int .i64 WW, .int .i64 HH, .slice a7 N c7, .int .i64 0, .int .i64 0, .bool false] 64)
  have hz7 : (w7.alloc (.cells #[.int .i64 WW, .int .i64 HH, .slice a7 N c7, .int .i64 0, .int .i64 0, .bool false] 64)).heap.size = w7.heap.size + 1 := World.size_alloc _ _
  have hv7a := hv7.alloc (.cells #[.int .i64 WW, .int .i64 HH, .slice a7 N c7, .int .i64 0, .int .i64 0, .bool false] 64)
  clear hp1
  go_upto_region 26 with fail
  go_wp2_with fail
  refine (HR.out _ hA7).mono ?_
  rintro e w8 ⟨u, rfl, hu8, hb8⟩
  obtain ⟨a8, c8, rfl⟩ := run.own_value hu8
  have hC9 := (hA7.below hb8).below (run.below_one w8 (.cells #[.int .i64 WW, .int .i64 HH, .slice a8 N c8, .int .i64 0, .int .i64 0, .bool false] 64))
  have hx8 := run.heap_new w8 (.cells #[.int .i64 WW, .int .i64 HH, .slice a8 N c8, .int .i64 0, .int .i64 0, .bool false] 64)
  have hx7b : (w8.alloc (.cells #[.int .i64 WW, .int .i64 HH, .slice a8 N c8, .int .i64 0, .int .i64 0, .bool false] 64)).heap[w7.heap.size]? = some (.cells #[.int .i64 WW, .int .i64 HH, .slice a7 N c7, .int .i64 0, .int .i64 0, .bool false] 64) :=
    (run.heap_old w8 _ (by have := hb8.size; omega)).trans ((hb8.block w7.heap.size (by omega)).trans hx7)
  have hv9 := (run.own_below hv7a hb8).alloc (.cells #[.int .i64 WW, .int .i64 HH, .slice a8 N c8, .int .i64 0, .int .i64 0, .bool false] 64)
  have hu9 := hu8.alloc (.cells #[.int .i64 WW, .int .i64 HH, .slice a8 N c8, .int .i64 0, .int .i64 0, .bool false] 64)
  have hs8 := hb8.size
  rw [hz7] at hs8 hu9
  have hk9 : w8.heap.size < (w8.alloc (.cells #[.int .i64 WW, .int .i64 HH, .slice a8 N c8, .int .i64 0, .int .i64 0, .bool false] 64)).heap.size := by rw [World.size_alloc]; exact Nat.lt_succ_self _
  go_upto_region 27 with fail
  clear p7 hv7 hv7a hu8 hb8 hb7 hx7 hz7 hC7 hA7 HP HR hC
  generalize w8.alloc (.cells #[.int .i64 WW, .int .i64 HH, .slice a8 N c8, .int .i64 0, .int .i64 0, .bool false] 64) = w9 at *
  generalize w7.heap.size = k7 at *
  generalize w8.heap.size = k8 at *
  have HB := run.hid (fun X (hb : Below w9.heap.size w9 X) => (⟨blk_cell (hC9.below hb).pb.box 2, blk_free (hC9.below hb).pb.box 2, blk_cell ((hb.block k7 (by omega)).trans hx7b) 2⟩ : X.cell? ⟨q.pb, 2, none⟩ = some q.vt ∧ X.frozen? ⟨q.pb, 2, none⟩ = false ∧ X.cell? ⟨k7, 2, none⟩ = some (.slice a7 N c7)))
  have HO := run.hid (fun X (hb : Below w9.heap.size w9 X) => (hC9.below hb).pb.told)
  have HBB := run.hid hC9.pb.Bw
  have HD := run.hid (fun X (hg : (w9.alloc (.cells #[.slice a7 N c7] 35)).drew.grownBy X q.vt.ownBlock) => by
    have hbx := (hC9.below (run.below_one w9 (.cells #[.slice a7 N c7] 35)).drew).pb.box
    have h1 := (hg.block q.pb (Array.getElem?_eq_some_iff.1 hbx).1 (fun e => by have := (hC9.pb.told.lt q.pb e.symm).1; have := hC9.pb.pB; omega)).trans hbx
    exact (⟨blk_cell h1 2, blk_free h1 2⟩ : X.cell? ⟨q.pb, 2, none⟩ = some q.vt ∧ X.frozen? ⟨q.pb, 2, none⟩ = false))
  have HT := run.hid (fun t1 X h1 h2 h3 => tellV_done (w10 := X) (t1 := t1) (Lc := L) (v := .slice a7 N c7) hC9.pb hm (run.below_one w9 (.cells #[.slice a7 N c7] 35)).drew h1 h2 h3 (by rw [HNN.out.1]; exact run.own_mono hv9 (by have := HBW.out; omega)) (fun k e hk => by have := HLT.out k hk; have := (hv9.lt k e).1; omega) HNN.out.2)
  go_cut [198] (fun _ X => Hid (∃ t1, PB (q.tellV (.slice a7 N c7) t1 L) L L X ∧ KeptC (fun k => k = q.pb ∨ q.vt.ownBlock = some k) w9 X ∧ ∀ k, t1.ownBlock = some k → q.vt.ownBlock = some k ∨ w9.heap.size ≤ k))
  case first =>
    refine run.alone (by assumption) (by assumption) ?_
    go_light
    intro _ _ _ _
    obtain ⟨d1, g1, m1⟩ := HB.out _ (Below.drew (Below.refl _ w9))
    obtain ⟨d2, g2, m2⟩ := HB.out _ (run.below_one w9 (.cells #[.slice a7 N c7] 35)).drew
    have oA := HO.out _ (run.below_one w9 (.cells #[.slice a7 N c7] 35)).drew
    go_region_law
      (first
        | (refine run.step_append_any (by rfl) _ _ 49 (by rfl) q.B 35 it (.slice none 0 0) 1 24 Tryz.underlying49 hi0 hi1 hi2 hi3 rfl (by decide) _ _ _ (by rfl) oA _ 1 [.slice a7 N c7] (by rfl) (run.readsN_new w9 [.slice a7 N c7] 1 1 _ rfl) (by intro u hu; simp only [List.mem_singleton] at hu; subst hu; rfl) (by unfold maxLen; omega) (by omega) (Nat.le_trans HBB.out (by show _ ≤ (World.alloc _ _).heap.size; rw [World.size_alloc]; exact Nat.le_succ _)) ?_; intro v10 w10 hown hgrow hold hstep; obtain ⟨ta, tc, rfl⟩ := run.own_value hown; obtain ⟨d3, g3⟩ := HD.out _ hgrow))
    all_goals
      have HX := run.hid (HT.out _ _ hown hgrow hstep)
      go_wp2
      go_meet
      case rel => exact run.hid ⟨_, HX.out⟩
  obtain ⟨t1, hP1, hk1, hn1⟩ := hcut.out
  clear hcut HT HD HO HB HBB
  generalize wc = w11 at *
  have hns : ∀ k, n ≤ k → ¬ (k = q.pb ∨ q.vt.ownBlock = some k) := fun k hk hs => by
    rcases hs with e | e
    · have := HLT.out k (.inl e)
      omega
    · have := HLT.out k (.inr (.inr (.inr (.inr (.inr (.inl e))))))
      omega
  have hx7d := (hk1.block k7 (by omega) (hns k7 (by omega))).trans hx7b
  have hx8d := (hk1.block k8 (by omega) (hns k8 (by omega))).trans hx8
  have hv11 := own_keptC hv9 hk1 (fun k e => hns k (by have := (hv9.lt k e).1; omega))
  have hu11 := own_keptC hu9 hk1 (fun k e => hns k (by have := (hu9.lt k e).1; omega))
  have hs11 := hk1.size
  have HB := run.hid (fun X (hb : Below w11.heap.size w11 X) => (⟨blk_cell (hP1.below hb).box 3, blk_free (hP1.below hb).box 3, blk_cell ((hb.block k8 (by omega)).trans hx8d) 2⟩ : X.cell? ⟨q.pb, 3, none⟩ = some q.vw ∧ X.frozen? ⟨q.pb, 3, none⟩ = false ∧ X.cell? ⟨k8, 2, none⟩ = some (.slice a8 N c8)))
  have HO := run.hid (fun X (hb : Below w11.heap.size w11 X) => (show X.ownsRow q.B 35 1 q.vw q.m (vals q.U q.m) from (hP1.below hb).want))
  have HBB := run.hid (show q.B ≤ w11.heap.size from hP1.Bw)
  have HD := run.hid (fun X (hg : (w11.alloc (.cells #[.slice a8 N c8] 35)).drew.grownBy X q.vw.ownBlock) => by
    have hbx := (hP1.below (run.below_one w11 (.cells #[.slice a8 N c8] 35)).drew).box
    have h1 := (hg.block q.pb (Array.getElem?_eq_some_iff.1 hbx).1 (fun e => by have h5 : q.B ≤ q.pb := (hP1.want.lt q.pb e.symm).1; have h6 : q.pb < q.B := hP1.pB; omega)).trans hbx
    exact (⟨blk_cell h1 3, blk_free h1 3⟩ : X.cell? ⟨q.pb, 3, none⟩ = some q.vw ∧ X.frozen? ⟨q.pb, 3, none⟩ = false))
  have hmm : (q.tellV (.slice a7 N c7) t1 L).n = (q.tellV (.slice a7 N c7) t1 L).m + 1 := by
    show q.n + 1 = q.m + 1
    rw [hm]
  have hrow : w11.ownsRow (q.tellV (.slice a7 N c7) t1 L).B 59 5 (.slice a8 N c8) ((q.tellV (.slice a7 N c7) t1 L).W * (q.tellV (.slice a7 N c7) t1 L).H) (cells5 ((q.tellV (.slice a7 N c7) t1 L).Ls (q.tellV (.slice a7 N c7) t1 L).m)) := by
    show w11.ownsRow q.B 59 5 (.slice a8 N c8) (q.W * q.H) (cells5 (if q.m = q.n then L else q.Ls q.m))
    rw [if_pos hm, HNN.out.1]
    exact run.own_mono hu11 (by have := HBW.out; omega)
  have HT := run.hid (fun t2 X h1 h2 h3 => tellW_done (w10 := X) (t1 := t2) (v := .slice a8 N c8) hP1 hmm (run.below_one w11 (.cells #[.slice a8 N c8] 35)).drew h1 h2 h3 hrow)
  have hmle : q.m ≤ 134217728 := by omega
  have HM := run.hid hm
  clear hm hmm
  go_upto_region 28 with fail
  go_cut [209] (fun _ X => Hid (∃ t2, PB ((q.tellV (.slice a7 N c7) t1 L).tellW (.slice a8 N c8) t2) L L X ∧ KeptC (fun k => k = q.pb ∨ q.vw.ownBlock = some k) w11 X ∧ ∀ k, t2.ownBlock = some k → q.vw.ownBlock = some k ∨ w11.heap.size ≤ k))
  case first =>
    refine run.alone (by assumption) (by assumption) ?_
    go_light
    intro _ _ _ _
    obtain ⟨d1, g1, m1⟩ := HB.out _ (Below.drew (Below.refl _ w11))
    obtain ⟨d2, g2, m2⟩ := HB.out _ (run.below_one w11 (.cells #[.slice a8 N c8] 35)).drew
    have oA := HO.out _ (run.below_one w11 (.cells #[.slice a8 N c8] 35)).drew
    go_region_law
      (first
        | (refine run.step_append_any (by rfl) _ _ 49 (by rfl) q.B 35 it (.slice none 0 0) 1 24 Tryz.underlying49 hi0 hi1 hi2 hi3 rfl (by decide) _ _ _ (by rfl) oA _ 1 [.slice a8 N c8] (by rfl) (run.readsN_new w11 [.slice a8 N c8] 1 1 _ rfl) (by intro u hu; simp only [List.mem_singleton] at hu; subst hu; rfl) (by unfold maxLen; omega) (by omega) (Nat.le_trans HBB.out (by show _ ≤ (World.alloc _ _).heap.size; rw [World.size_alloc]; exact Nat.le_succ _)) ?_; intro v10 w10 hown hgrow hold hstep; obtain ⟨ta, tc, rfl⟩ := run.own_value hown; obtain ⟨d3, g3⟩ := HD.out _ hgrow))
    all_goals
      have HX := run.hid (HT.out _ _ hown hgrow hstep)
      go_wp2
      go_meet
      case rel => exact run.hid ⟨_, HX.out⟩
  have hm := HM.out
  obtain ⟨t2, hP2, hk2, hn2⟩ := hcut.out
  clear hcut HT HD HO HB HBB hrow
  generalize wc = w12 at *
  have hns2 : ∀ k, n ≤ k → ¬ (k = q.pb ∨ q.vw.ownBlock = some k) := fun k hk hs => by
    rcases hs with e | e
    · have := HLT.out k (.inl e)
      omega
    · have := HLT.out k (.inr (.inr (.inr (.inr (.inr (.inr (.inl e)))))))
      omega
  have hx7e := (hk2.block k7 (by omega) (hns2 k7 (by omega))).trans hx7d
  have hx8e := (hk2.block k8 (by omega) (hns2 k8 (by omega))).trans hx8d
  have hv12 := own_keptC hv11 hk2 (fun k e => hns2 k (by have := (hv11.lt k e).1; omega))
  have hu12 := own_keptC hu11 hk2 (fun k e => hns2 k (by have := (hu11.lt k e).1; omega))
  have hlN : L.length = N := HNN.out.2.trans HNN.out.1
  have HCALL := run.hid (HSC.out a7 a8 c7 c8 w12 (by
    have h1 : Reads5 w12 (.slice a7 L.length c7) L := by
      rw [hlN]
      exact reads5_own (by rw [hlN]; exact hv12)
    rw [← hlN]
    exact h1) (by
    have h1 : Reads5 w12 (.slice a8 L.length c8) L := by
      rw [hlN]
      exact reads5_own (by rw [hlN]; exact hu12)
    rw [← hlN]
    exact h1))
  have HF := run.hid (fun X (hb : Below w12.heap.size w12 X) => (⟨_, L, hP2.below hb, HSS.out, rfl, Nat.le_refl _, (by show q.m + 1 = q.n + 1; rw [hm]), (by rw [hn]; exact tell_blk (fun k e => (hn1 k e).imp id (fun h => by omega)) (fun k e => (hn2 k e).imp id (fun h => by omega)) (fun k e => by have := (hv9.lt k e).1; omega) (fun k e => by have := (hu9.lt k e).1; omega)),
    ((hC9.kp.trans hk1 (fun k _ hs => hs.elim .inl (fun e => .inr (.inr (.inr (.inl e)))))).trans hk2 (fun k _ hs => hs.elim .inl (fun e => .inr (.inr (.inr (.inr e)))))).trans (KeptC.of_below (S := fun _ => False) hb) (fun _ _ h => h.elim)⟩ : After q w X))
  obtain ⟨⟨d0, d1, d2, d3, d4, d5⟩, -⟩ := blk6 hx7e
  obtain ⟨⟨e0, e1, e2, e3, e4, e5⟩, -⟩ := blk6 hx8e
  clear hx7e hx8e hx7d hx8d hx7b hx8 hv12 hu12 hv11 hu11 hv9 hu9 hP1 hP2 hk1 hk2 hn1 hn2 hC9 HSC HSS HNN hlN HLT HBW hns hns2 hs11 hm
  go_wp2_with fail
  refine HCALL.out.mono ?_
  rintro e w13 ⟨rfl, hb13⟩
  have HE := run.hid (HF.out w13 hb13)
  clear hb13 HF HCALL d0 d1 d2 d3 d4 d5 e0 e1 e2 e3 e4 e5
  go_wp2
  go_ret
  exact ⟨rfl, HE.out⟩
end Go.Proofs.YtdgcfmfjgidbjaaGreat.cel
