/-
  The walk of the law CellsRight.
-/
import Derived.Test.YtinnggiohalifaaCelRight
import Derived.Test.YtinnggiohalifaaCelWakes
namespace Go.Proofs.Ytinnggiohalifaa.cel
open Go Go.RowKit Go.Proofs
set_option linter.unusedVariables false

theorem run_eqbool {o : Oper} {ρ : Operand → Value} {w : World} {p q : Operand} {b : Bool} (ho : o.op = .binOp .eql 4 p q 4) (hx : ρ p = .bool b) (hy : ρ q = .bool b) : (execOp ρ o).run Try.prog w = .ok (.value (.bool true)) w := by
  unfold execOp
  simp only [ho, hx, hy]
  simp [eqGuard, binOp, go_sem, Op.equal, Op.maxDepth, run_equalIn_bool' w 9999 _ _ _ Try.underlying4]
theorem lent_len (L : List CV) : (lentT L).length = L.length + 2 := by unfold lentT; simp
theorem reads5_lent {w : World} {a : Option Addr} {cap : Nat} {L : List CV} (h : Reads5 w (.slice a (L.length + 2) cap) (lentT L)) : Reads5 w (.slice a L.length cap) L := by
  refine ⟨a, cap, rfl, fun i hi => ?_⟩
  rw [← lent_len] at h
  obtain ⟨b, off, rfl, hb, h0, h1, h2, h3, h4⟩ := reads_cell h (i := i) (by rw [lent_len]; omega)
  have e : (lentT L).getD i z0 = L.getD i z0 := by
    unfold lentT
    simp only [List.getD_eq_getElem?_getD]
    rw [List.getElem?_append_left hi]
  rw [e] at h0 h1 h2 h3 h4
  exact ⟨b, off, rfl, hb, h0, h1, h2, h3, h4⟩
/-- what the bound of the document gives -/
theorem fit_of {L : List CV} (hL : ∀ c ∈ L, c.fine) (h : (longT L 0).2 = false) : (∀ c ∈ L, Fit c ∧ c.sty.wf) ∧ L.length ≤ 134217728 := by
  obtain ⟨h1, h2, -⟩ := longT_fits L 0 h (by omega)
  exact ⟨fun c hc => ⟨⟨by have := h2 c hc; omega, (hL c hc).2.1⟩, (hL c hc).2.2.1⟩, by omega⟩

set_option maxRecDepth 100000 in
set_option maxHeartbeats 8000000 in
theorem lawRight_any (s : ScrI) (L : List CV) (w : World) (hn : s.n = L.length) (hR : Reads5 w (.slice s.a s.n s.c) L) (h0 : s.a = none → s.c = 0) (hcap : s.n ≤ s.c) (hby : s.c * 32 ≤ 140737488351232) (hL : ∀ c ∈ L, c.fine) :
    Calls Try.prog 7 #[.agg s.cells] w fun e w' => e = .returned (.bool true) ∧ Below w.heap.size w w' := by
  have hb1 := run.below_one w (.cells s.cells 49)
  have k1 := heap_alloc_new w (.cells s.cells 49)
  have HLONG := run.hid (fun X (h : Below w.heap.size w X) => long_any s.a s.c L 0 X (by rw [← hn]; exact hR.below h) (by omega) (fun c hc => (hL c hc).1) (by omega))
  have HFIT := run.hid (fun h => fit_of hL h)
  have HLENT := run.hid (fun X (h : Below w.heap.size w X) => lent_any s.a s.c L X (by rw [← hn]; exact hR.below h) h0 (by omega))
  have HRD := run.hid (fun X (h : Below w.heap.size w X) => show Reads5 X (.slice s.a L.length s.c) L from by rw [← hn]; exact hR.below h)
  have HSTY := run.hid (fun X (h : Below w.heap.size w X) g cap (hf : Reads5 X (.slice (some ⟨g, 0, none⟩) (lentT L).length cap) (lentT L)) => show Calls _ _ _ X fun e w' => e = .returned (.bool true) ∧ _ from by
    have h := stays_any (some ⟨g, 0, none⟩) s.a cap s.c (lentT L) L X hf (by rw [← hn]; exact hR.below h) h0 (by omega) (by rw [lent_len]; omega)
    rw [decide_eq_true (rfl : lentT L = lentT L)] at h
    exact h)
  have HW := run.hid (fun w => wakes_any w)
  obtain ⟨sw, sh, a, n, c, x, y, shown⟩ := s
  dsimp only at *
  subst hn
  unfold ScrI.cells at *
  dsimp only at *
  have HLL := run.hid (lent_len L)
  have HRL := run.hid (fun X g cap (h : Reads5 X (.slice (some ⟨g, 0, none⟩) (L.length + 2) cap) (lentT L)) => reads5_lent h)
  have HRT := run.hid (fun X g cap (hf : (∀ c ∈ L, Fit c ∧ c.sty.wf)) (h : Reads5 X (.slice (some ⟨g, 0, none⟩) L.length cap) L) (hc : L.length ≤ cap) => show Calls _ _ _ X fun e w' => e = .returned (.bool (rightT ⟨sw, sh, a, L.length, c, x, y, shown⟩ L)) ∧ _ from scrright_any ⟨sw, sh, some ⟨g, 0, none⟩, L.length, cap, x, y, shown⟩ L X rfl h hc hf)
  have HRF := run.hid (fun X (hf : (∀ c ∈ L, Fit c ∧ c.sty.wf)) (h : Reads5 X (.slice a L.length c) L) => refright19_any ⟨sw, sh, a, L.length, c, x, y, shown⟩ L X rfl h hcap hf)
  generalize rightT ⟨sw, sh, a, L.length, c, x, y, shown⟩ L = rt at *
  clear hR hL h0
  obtain ⟨N, hN⟩ : ∃ N, N = L.length := ⟨_, rfl⟩
  rw [← hN] at HLONG HLENT HRD HLL HRL HRT HRF hb1 k1 hcap ⊢
  have HN := run.hid hN
  clear hN
  have KK := run.hid (And.intro hb1 k1)
  obtain ⟨c0, c1, c2, c3, c4, c5⟩ := (blk6 k1).1
  clear hb1 k1
  cases hlo : (longT L 0).2 with
  | true =>
    have HLO := run.hid (HLONG.out _ KK.out.1)
    rw [hlo] at HLO
    clear HFIT HLENT HRD HSTY HRL HRT HRF HLONG hlo
    generalize (longT L 0).1 = lm at *
    go_enter Try.func7, Try.ntmps7
    go_wp2_with fail
    refine HLO.out.mono ?_
    rintro e w1 ⟨rfl, hb1⟩
    have hB := KK.out.1.trans (hb1.mono KK.out.1.size)
    clear hb1 KK HLO
    go_wp2
    go_ret
    exact ⟨rfl, hB⟩
  | false =>
    have HLO := run.hid (HLONG.out _ KK.out.1)
    rw [hlo] at HLO
    obtain ⟨hfit, hbig⟩ := HFIT.out hlo
    rw [← HN.out] at hbig
    replace HFIT := run.hid hfit
    clear hlo hfit HLONG
    generalize (longT L 0).1 = lm at *
    go_enter Try.func7, Try.ntmps7
    go_wp2_with fail
    refine HLO.out.mono ?_
    rintro e w1 ⟨rfl, hb1⟩
    have hB1 := KK.out.1.trans (hb1.mono KK.out.1.size)
    have hs1 := hb1.size
    simp only [World.size_alloc] at hs1
    have KP1 := run.hid ((hb1.block w.heap.size (by simp)).trans KK.out.2)
    have HLE := run.hid (HLENT.out w1 hB1)
    clear hb1 KK HLO HLENT c0 c1 c2 c3 c4 c5
    obtain ⟨⟨c0, c1, c2, c3, c4, c5⟩, -⟩ := blk6 KP1.out
    go_wp2_with fail
    refine HLE.out.mono ?_
    rintro e w2 ⟨v, rfl, hown, hb2⟩
    have hB2 := hB1.trans (hb2.mono hB1.size)
    have hs2 := hb2.size
    have KP2 := run.hid ((hb2.block w.heap.size (by omega)).trans KP1.out)
    obtain ⟨g, cap, cur, rfl, hgb, -, hgc, -⟩ : ∃ g cap cur, v = .slice (some ⟨g, 0, none⟩) (N + 2) cap ∧ w1.heap.size ≤ g ∧ w2.heap[g]? = some (.cells cur 44 (0, 0)) ∧ N + 2 ≤ cap ∧ cap ≤ maxLen := by
      rcases hown.2 with ⟨-, h⟩ | ⟨g, cap, cur, h1, h2, h3, h4, h5, -⟩
      · omega
      · exact ⟨g, cap, cur, h1, h2, h3, h4, h5⟩
    have hrd : Reads5 w2 (.slice (some ⟨g, 0, none⟩) (N + 2) cap) (lentT L) := reads5_own (by rw [HLL.out]; exact hown)
    have HRD2 := run.hid hrd
    have hBa := hB2.alloc hB2.size (.cells #[.int .i64 sw, .int .i64 sh, .slice (some ⟨g, 0, none⟩) N cap, .int .i64 x, .int .i64 y, .bool shown] 49)
    have hb3 := run.below_one w2 (.cells #[.int .i64 sw, .int .i64 sh, .slice (some ⟨g, 0, none⟩) N cap, .int .i64 x, .int .i64 y, .bool shown] 49)
    have hs3 : (w2.alloc (.cells #[.int .i64 sw, .int .i64 sh, .slice (some ⟨g, 0, none⟩) N cap, .int .i64 x, .int .i64 y, .bool shown] 49)).heap.size = w2.heap.size + 1 := by simp
    have KPa := run.hid (And.intro ((hb3.block w.heap.size (by omega)).trans KP2.out) (show w.heap.size < w2.heap.size + 1 by omega))
    have KPb := run.hid (And.intro (heap_alloc_new w2 (.cells #[.int .i64 sw, .int .i64 sh, .slice (some ⟨g, 0, none⟩) N cap, .int .i64 x, .int .i64 y, .bool shown] 49)) (show w2.heap.size < w2.heap.size + 1 by omega))
    have HBA := run.hid hBa
    have HRD3 := run.hid (hrd.below hb3)
    have HS3 := run.hid hs3
    have hle : w.heap.size ≤ w2.heap.size + 1 := by omega
    obtain ⟨⟨e0, e1, e2, e3, e4, e5⟩, -⟩ := blk6 KP2.out
    obtain ⟨⟨d0, d1, d2, d3, d4, d5⟩, -⟩ := blk6 ((blk_old (.cells #[.int .i64 sw, .int .i64 sh, .slice a N c, .int .i64 x, .int .i64 y, .bool shown] 49) (show w.heap.size < w2.heap.size by omega)).trans KP2.out)
    clear hown hrd hBa hb3 hb2 HLE c0 c1 c2 c3 c4 c5 HRD2 KP1 hB1 hB2 hs3
    go_upto_region 7 with fail
    clear d0 d1 d2 d3 d4 d5 e0 e1 e2 e3 e4 e5
    generalize w2.alloc (.cells #[.int .i64 sw, .int .i64 sh, .slice (some ⟨g, 0, none⟩) N cap, .int .i64 x, .int .i64 y, .bool shown] 49) = w3 at *
    generalize hp : w.heap.size = p at *
    generalize hp2 : w2.heap.size = p2 at *
    have hs3' := HS3.out
    have KP := run.hid KPa.out
    replace KP2 := run.hid KPb.out
    have HR1 := run.hid (fun X (hC : Below (p2 + 1) w3 X) => HRT.out X g cap HFIT.out (HRL.out X g cap (HRD3.out.below (hC.mono (by rw [HS3.out]; exact Nat.le_refl _)))) (by omega))
    have HR2 := run.hid (fun X (hC : Below (p2 + 1) w3 X) => HRF.out X HFIT.out (HRD.out X (HBA.out.trans (hC.mono hle))))
    have HST := run.hid (fun X (hC : Below (p2 + 1) w3 X) => HSTY.out X (HBA.out.trans (hC.mono hle)) g cap (by rw [HLL.out]; exact HRD3.out.below (hC.mono (by rw [HS3.out]; exact Nat.le_refl _))))
    rw [HLL.out, ← HN.out] at HST
    clear HRT HRF HSTY HRL HRD KPa KPb HLL
    refine lx.region (fun D X => Below (p2 + 1) w3 X) (by kernel_rfl) (by kernel_rfl) (by kernel_rfl) (drewB (Below.refl _ _)) ?_
    refine lx.begin 38 rfl ?_
    refine lx.o_pure (.agg #[.int .i64 sw, .int .i64 sh, .slice (some ⟨g, 0, none⟩) N cap, .int .i64 x, .int .i64 y, .bool shown]) (fun D X hC => run_loadrow rfl rfl (hC.b4 KP2.out) Try.underlying49 rfl (by kernel_rfl)) ?_
    refine lx.o_call (.bool rt) 27 #[.agg #[.int .i64 sw, .int .i64 sh, .slice (some ⟨g, 0, none⟩) N cap, .int .i64 x, .int .i64 y, .bool shown]] (fun _ _ _ => lx.run_fn rfl rfl rfl (enters_of Try.func27 (by kernel_rfl) rfl)) (fun D X hC => (HR1.out X hC).mono fun e w2 ⟨he, hw⟩ => ⟨he, hC.trans (hw.mono (by have := hC.size; omega))⟩) ?_
    refine lx.o_pure (.agg #[.int .i64 sw, .int .i64 sh, .slice a N c, .int .i64 x, .int .i64 y, .bool shown]) (fun D X hC => run_loadrow rfl rfl (hC.b4 KP.out) Try.underlying49 rfl (by kernel_rfl)) ?_
    refine lx.o_call (.bool rt) 28 #[.agg #[.int .i64 sw, .int .i64 sh, .slice a N c, .int .i64 x, .int .i64 y, .bool shown]] (fun _ _ _ => lx.run_fn rfl rfl rfl (enters_of Try.func28 (by kernel_rfl) rfl)) (fun D X hC => (HR2.out X hC).mono fun e w2 ⟨he, hw⟩ => ⟨he, hC.trans (hw.mono (by have := hC.size; omega))⟩) ?_
    refine lx.o_pure (.bool true) (fun D X hC => run_eqbool rfl rfl rfl) ?_
    refine lx.o_pure (.bool true) (fun _ _ h => by first | rfl | kernel_rfl) ?_
    refine lx.o_pure (.slice (some ⟨g, 0, none⟩) (N + 2) cap) (fun _ _ h => by first | rfl | kernel_rfl) ?_
    refine lx.o_pure (.pointer (some ⟨p, 2, none⟩)) (fun _ _ h => by first | rfl | kernel_rfl) ?_
    refine lx.o_pure (.slice a N c) (fun D X hC => lx.run_load rfl rfl Try.underlying35 rfl (blk_cell (hC.b4 KP.out) 2)) ?_
    refine lx.o_call (.bool true) 22 #[.slice (some ⟨g, 0, none⟩) (N + 2) cap, .slice a N c] (fun _ _ _ => lx.run_fn rfl rfl rfl (enters_of Try.func22 (by kernel_rfl) rfl)) (fun D X hC => (HST.out X hC).mono fun e w2 ⟨he, hw⟩ => ⟨he, hC.trans (hw.mono (by have := hC.size; omega))⟩) ?_
    refine lx.o_pure (.bool true) (fun _ _ h => by first | rfl | kernel_rfl) ?_
    refine lx.o_pure (.bool true) (fun _ _ h => by first | rfl | kernel_rfl) ?_
    refine lx.o_call (.bool true) 13 #[] (fun _ _ _ => lx.run_fn rfl rfl rfl (enters_of Try.func13 (by kernel_rfl) rfl)) (fun D X hC => (HW.out X).mono fun e w2 ⟨he, hw⟩ => ⟨he, hC.trans (hw.mono (by have := hC.size; omega))⟩) ?_
    refine lx.o_pure (.bool true) (fun _ _ h => by first | rfl | kernel_rfl) ?_
    refine lx.o_pure (.bool true) (fun _ _ h => by first | rfl | kernel_rfl) ?_
    refine lx.o_end ?_
    simp only [lx.ov]
    rintro X d hd hC
    have HF := run.hid (HBA.out.trans (hC.mono hle))
    clear hC hd HR1 HR2 HST HW HBA KP KP2 HRD3 HFIT
    go_simp
    go_wp2
    go_ret
    exact ⟨rfl, by first | exact HF.out | (rw [hp]; exact HF.out)⟩
end Go.Proofs.Ytinnggiohalifaa.cel
