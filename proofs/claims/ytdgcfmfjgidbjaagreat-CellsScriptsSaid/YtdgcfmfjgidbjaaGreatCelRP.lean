/-
  The document's buffer: Put.
-/
import Derived.Test.YtdgcfmfjgidbjaaGreatCelRS
import Derived.Test.YtdgcfmfjgidbjaaGreatWrpRefAll
namespace Go.Proofs.YtdgcfmfjgidbjaaGreat.cel
open Go Go.RowKit Go.Proofs
open Go.Proofs.YtdgcfmfjgidbjaaGreat.wrp (TV t0 flow nl sp flow_len)
open Go.Proofs.YtdgcfmfjgidbjaaGreat.clu (cells2 cells2_get)
set_option linter.unusedVariables false
/-- the document's buffer, whatever its row, and boxes beside it -/
structure RV (w0 : World) (B r : Nat) (v : Value) (W H : Nat) (ks : List (Nat × Array Value × TypeId)) (L : List CV) (w : World) : Prop where
  rb : RB w B r v W H L
  bx : ∀ x ∈ ks, w.heap[x.1]? = some (.cells x.2.1 x.2.2 (0, 0)) ∧ v.ownBlock ≠ some x.1
  grown : w0.grownBy w v.ownBlock
section
variable {w0 w w' : World} {B r W H k : Nat} {v : Value} {ks : List (Nat × Array Value × TypeId)} {L L' : List CV}
theorem RV.start (h : RB w B r v W H L) : RV w B r v W H [] L w := ⟨h, (fun x hx => by cases hx), World.grownBy.refl w _⟩
theorem RV.below (h : RV w0 B r v W H ks L w) (hb : Below w.heap.size w w') : RV w0 B r v W H ks L w' :=
  ⟨h.rb.below hb, fun x hx => ⟨(hb.block _ (Array.getElem?_eq_some_iff.1 (h.bx x hx).1).1).trans (h.bx x hx).1, (h.bx x hx).2⟩, run.grown_trans h.grown (grown_all hb _) (.inl rfl)⟩
theorem RV.drew (h : RV w0 B r v W H ks L w) : RV w0 B r v W H ks L w.drew := h.below (Below.refl _ _).drew
theorem RV.step (h : RV w0 B r v W H ks L w) (hb : RB w' B r v W H L') (hg : w.grownBy w' v.ownBlock) : RV w0 B r v W H ks L' w' :=
  ⟨hb, fun x hx => ⟨(hg.block _ (Array.getElem?_eq_some_iff.1 (h.bx x hx).1).1 (fun e => (h.bx x hx).2 e.symm)).trans (h.bx x hx).1, (h.bx x hx).2⟩, run.grown_trans h.grown hg (.inl rfl)⟩
theorem RV.box (h : RV w0 B r v W H ks L w) (cs : Array Value) (t : TypeId) : RV w0 B r v W H ((w.heap.size, cs, t) :: ks) L (w.alloc (.cells cs t)) := by
  have h1 := h.below (run.below_one w (.cells cs t))
  refine ⟨h1.rb, fun x hx => ?_, h1.grown⟩
  rcases List.mem_cons.1 hx with rfl | hx
  · exact ⟨run.heap_new w _, fun e => Nat.lt_irrefl _ (h.rb.row.lt _ e).2⟩
  · exact h1.bx x hx
theorem RV.c0 (h : RV w0 B r v W H ks L w) : w.cell? ⟨r, 0, none⟩ = some (.int .i64 W) := (blk3 h.rb.box).1.1
theorem RV.c1 (h : RV w0 B r v W H ks L w) : w.cell? ⟨r, 1, none⟩ = some (.int .i64 H) := (blk3 h.rb.box).1.2.1
end
theorem run_narrow8 {o : Oper} {ρ : Operand → Value} {w : World} {p : Operand} {t t' : TypeId} {x : Int} (ho : o.op = .convert t t' p) (hx : ρ p = .int .i64 x) (ht : Tryz.prog.underlying t = some (.int .i64)) (ht' : Tryz.prog.underlying t' = some (.int .i8)) (h : x = 1 ∨ x = 2) : (execOp ρ o).run Tryz.prog w = .ok (.value (.int .i8 x)) w := by
  have hw : IntKind.i8.wrap x = x := by rcases h with rfl | rfl <;> decide
  unfold execOp
  simp only [ho, hx]
  simp [go_sem, convert, run_underlying ht, run_underlying ht', hw]
theorem own_sl {w : World} {B e sz n : Nat} {v : Value} {xs : List Value} (h : w.ownsRow B e sz v n xs) (hn : 0 < n) : ∃ g cap, v = .slice (some ⟨g, 0, none⟩) n cap := by
  rcases h.2 with ⟨-, h0⟩ | ⟨g, cap, cur, h0, -⟩
  · omega
  · exact ⟨g, cap, h0⟩
def farR (x : Int) : Int := max (-2199023255552) (min x 2199023255552)
theorem line_at (t : ByteArray) {k : Nat} (h : k < (flow t).length) : (wrp.lineT t).getD k t0 = shownQ ((flow t).getD k t0) := by
  unfold wrp.lineT
  generalize flow t = F at *
  rw [List.getD_eq_getElem?_getD, List.getElem?_map, List.getD_eq_getElem?_getD, List.getElem?_eq_getElem h]
  generalize F[k] = q
  show wrp.nlsp q = shownQ q
  unfold wrp.nlsp shownQ
  rfl
/-- what is written, cluster by cluster -/
theorem put_plan (W H : Nat) (L : List CV) (x y : Int) (t : ByteArray) (st : SV) (lt : RT) (hS : Strong W H L) (hin : ∀ x y, hasT lt x y = true → 0 ≤ x ∧ x < W ∧ 0 ≤ y ∧ y < H) (ht : t.size ≤ 134217728) (hx : -2199023255552 ≤ x ∧ x ≤ 2199023255552) :
    ∃ (PT : Nat → List CV) (PN : Nat → Nat) (N : Nat) (qt : Nat → ByteArray) (qw : Nat → Int) (X : List Value), N ≤ 536870912 ∧ (wrp.lineT t).length = N ∧ cells2 (wrp.lineT t) = X ∧ PT 0 = L ∧ PN 0 = 0 ∧ PT N = (putT W lt y (overS st) x L (flow t)).2 ∧ PN N = putW (flow t) ∧ (∀ k, k ≤ N → Strong W H (PT k) ∧ PN k ≤ 2 * k) ∧
      ∀ k, k < N → X[k * 2]? = some (.string (qt k)) ∧ X[k * 2 + 1]? = some (.int .i64 (qw k)) ∧ (qw k = 1 ∨ qw k = 2) ∧ ((PN (k + 1) : Nat) : Int) = PN k + qw k ∧
        PT (k + 1) = layT W (PT k) (x + (PN k : Nat)) y ⟨qt k, qw k, overS st⟩ (hasT lt (x + (PN k : Nat)) y) (hasT lt (x + (PN k : Nat) + 1) y) := by
  have hll : (wrp.lineT t).length = (flow t).length := by unfold wrp.lineT; rw [List.length_map]
  have hNb := flow_len t
  refine ⟨fun k => (putT W lt y (overS st) x L ((flow t).take k)).2, fun k => putW ((flow t).take k), (flow t).length, fun k => (shownQ ((flow t).getD k t0)).1, fun k => ((shownQ ((flow t).getD k t0)).2 : Nat), _, by omega, hll, rfl, rfl, rfl, by dsimp only; rw [List.take_of_length_le (Nat.le_refl _)], by dsimp only; rw [List.take_of_length_le (Nat.le_refl _)], fun k hk => ⟨?_, ?_⟩, fun k hk => ⟨?_, ?_, ?_, ?_, ?_⟩⟩
  · exact (nice_put (r := lt) (y := y) (s := overS st) (inR := fun _ => True) hin (fun _ _ => trivial) (F := flow t) (fun k hk => flow_one (by
      rw [List.getD_eq_getElem?_getD, List.getElem?_eq_getElem hk]
      exact List.getElem_mem _) st) (x := x) (hS.nice (fun _ => True)) k hk).strong
  · exact putW_le (F := flow t) (fun k hk => by have := flow_at t hk; omega) k hk
  · have h1 := (cells2_get (wrp.lineT t) k (by rw [hll]; exact hk)).1
    have hl := line_at t hk
    unfold t0 at hl
    rw [hl] at h1
    exact h1
  · have h1 := (cells2_get (wrp.lineT t) k (by rw [hll]; exact hk)).2
    have hl := line_at t hk
    unfold t0 at hl
    rw [hl] at h1
    exact h1
  · have := flow_at t hk
    dsimp only
    omega
  · dsimp only
    rw [putW_snoc hk]
    push_cast
    rfl
  · dsimp only
    rw [putT_snoc W _ y _ _ L hk]
    unfold putStep
    rw [putT_x]
    simp only [cellQ]
set_option maxRecDepth 100000 in
set_option maxHeartbeats 8000000 in
theorem rput_any (B r W H : Nat) (v : Value) (L : List CV) (x y : Int) (t : ByteArray) (s : SV) (clip : RT) (w : World) (h : RB w B r v W H L) (hS : Strong W H L) (hs : s.wf) (hclip : clip.wf) (ht : t.size ≤ 134217728) :
    Calls Tryz.prog 13 #[.pointer (some ⟨r, 0, none⟩), .int .i64 x, .int .i64 y, .string t, s.val, clip.val] w fun e w' => e = .returned (.int .i64 (putW (flow t) : Nat)) ∧ (RB w' B r v W H (putT W (letIn clip W H) y (overS s) (farR x) L (flow t)).2 ∧ Strong W H (putT W (letIn clip W H) y (overS s) (farR x) L (flow t)).2) ∧ w.grownBy w' v.ownBlock := by
  obtain ⟨itc, hic, -, hzc, -⟩ := info_parts clu.info_clu
  have HLI := run.hid (fun w => wrp.refLine_own t w (by omega))
  have HFAR := run.hid (fun w => far_any x w)
  change Hid (∀ w, Calls _ _ _ _ fun e w' => e = .returned (.int .i64 (farR x)) ∧ _) at HFAR
  have HCT := run.hid (fun w => refcounts_any s hs w)
  have HWR := run.hid (fun (w : World) (L : List CV) (x : Int) (c : CV) h hS hc hcs hx => rwrite_any B r W H v L x y c clip w h (Strong.nice hS (fun _ => False)).good (strong_wf hS) hc hcs hclip hx)
  have hst := over_wf s
  have hfx : -2199023255552 ≤ farR x ∧ farR x ≤ 2199023255552 := by unfold farR; omega
  obtain ⟨PT, PN, N, qt, qw, XX, hN, e1, e2, e3, e4, e5, e6, hP, hQ⟩ := put_plan W H L (farR x) y t s (letIn clip W H) hS (let_in clip W H h.wide h.high).2 ht hfx
  rw [← e5, ← e6]
  rw [e1, e2] at HLI
  have HP := run.hid hP
  have HQ := run.hid hQ
  have hPN0 := e4
  generalize farR x = x0 at *
  have HL0 := run.hid e3
  clear e1 e2 e3 e4 e5 e6 hP hQ hS ht
  generalize hsv : overS s = sv at *
  clear hsv
  obtain ⟨sf, sb, sa⟩ := s
  obtain ⟨tf, tb, ta⟩ := sv
  obtain ⟨r1, r2, r3, r4⟩ := clip
  change Hid (∀ w, Calls _ _ #[.agg #[.int .i32 sf, .int .i32 sb, .int .u8 sa]] _ fun e w' => e = .returned (.agg #[.int .i32 tf, .int .i32 tb, .int .u8 ta]) ∧ _) at HCT
  show Calls _ _ #[_, _, _, _, .agg #[.int .i32 sf, .int .i32 sb, .int .u8 sa], .agg #[.int .i64 r1, .int .i64 r2, .int .i64 r3, .int .i64 r4]] _ _
  have hR1 := ((RV.start h).box #[.int .i32 sf, .int .i32 sb, .int .u8 sa] 32).box #[.int .i64 r1, .int .i64 r2, .int .i64 r3, .int .i64 r4] 34
  rw [show (w.alloc (.cells #[.int .i32 sf, .int .i32 sb, .int .u8 sa] 32)).heap.size = w.heap.size + 1 by simp] at hR1
  clear h hs hclip
  go_enter Tryz.func13, Tryz.ntmps13
  go_upto_region 3 with fail
  generalize (w.alloc (.cells #[.int .i32 sf, .int .i32 sb, .int .u8 sa] 32)).alloc (.cells #[.int .i64 r1, .int .i64 r2, .int .i64 r3, .int .i64 r4] 34) = w1 at *
  generalize w.heap.size + 1 = m at *
  generalize w.heap.size = n at *
  go_wp2_with fail
  refine (HLI.out _).mono ?_
  rintro e w2 ⟨vl, rfl, ho2, hb2⟩
  have HV2 := run.hid (hR1.below hb2)
  have HO2 := run.hid ho2
  clear HLI hR1 ho2 hb2
  generalize w1.heap.size = B1 at *
  obtain ⟨la, lc, rfl⟩ := run.own_value HO2.out
  go_wp2_with fail
  refine (HFAR.out _).mono ?_
  rintro e w3 ⟨rfl, rfl⟩
  clear HFAR
  go_wp2
  go_loopw [14, 15] (fun vn vi wr => ∃ k : Nat, k ≤ N ∧ vi = .int .i64 k ∧ vn = .int .i64 (PN k : Nat) ∧ Hid (RV w B r v W H [(m, #[.int .i64 r1, .int .i64 r2, .int .i64 r3, .int .i64 r4], 34), (n, #[.int .i32 sf, .int .i32 sb, .int .u8 sa], 32)] (PT k) wr) ∧ Hid (wr.ownsRow B1 83 2 (.slice la N lc) N XX)) (fun _ vi _ => ((N : Int) - intOf vi).toNat)
  case atStart => exact ⟨0, Nat.zero_le _, rfl, by rw [hPN0]; rfl, by show RV _ _ _ _ _ _ _ _ _; rw [HL0.out]; exact HV2.out, HO2⟩
  case round =>
    clear HV2 HO2
    obtain ⟨k, hk, rfl, rfl, HV, HO⟩ := hrel
    by_cases hlt : k < N
    · obtain ⟨gl, gc, e9⟩ := own_sl HO.out (by omega)
      simp only [Value.slice.injEq, true_and] at e9
      obtain ⟨rfl, rfl⟩ := e9
      obtain ⟨q1, q2, q3, q4, q5⟩ := HQ.out k hlt
      obtain ⟨q6, q7⟩ := HP.out k hk
      have HS := run.hid q6
      have HST := run.hid q5
      have hp1 : ((PN (k + 1) : Nat) : Int) ≤ 1073741825 := by
        have := (HP.out (k + 1) hlt).2
        omega
      have HPN1 := run.hid q4
      have hp0 : ((PN k : Nat) : Int) ≤ 1073741824 := by omega
      generalize hP1 : PN (k + 1) = p1 at *
      have HP1E := run.hid hP1
      clear hP1
      generalize PN k = p0 at *
      generalize hL1 : PT (k + 1) = L1 at *
      have HL1E := run.hid hL1
      clear hL1
      generalize PT k = L0 at *
      generalize qt k = ct at *
      have hw12 := q3
      generalize qw k = cw at *
      have HAP : Hid (∀ (L' : List CV) (w' w'' : World), RV w B r v W H [(m, #[.int .i64 r1, .int .i64 r2, .int .i64 r3, .int .i64 r4], 34), (n, #[.int .i32 sf, .int .i32 sb, .int .u8 sa], 32)] L' w' → w'.ownsRow B1 83 2 (.slice (some ⟨gl, 0, none⟩) N lc) N XX → w'.grownBy w'' v.ownBlock → w''.ownsRow B1 83 2 (.slice (some ⟨gl, 0, none⟩) N lc) N XX) :=
        fun L' w' w'' hv ho hg => run.own_kept ho hg (fun q hq e => run.own_apart hv.rb.row ho (by decide) q e hq)
      have HC0 := run.hid (fun (w' : World) (ho : w'.ownsRow B1 83 2 (.slice (some ⟨gl, 0, none⟩) N lc) N XX) => (show w'.cell? ⟨gl, 0 + k * 2, none⟩ = some (.string ct) by rw [Nat.zero_add]; exact (ho.cellAt (k * 2) (by omega)).trans q1))
      have HC1 := run.hid (fun (w' : World) (ho : w'.ownsRow B1 83 2 (.slice (some ⟨gl, 0, none⟩) N lc) N XX) => (show w'.cell? ⟨gl, 0 + k * 2 + 1, none⟩ = some (.int .i64 cw) by rw [Nat.zero_add]; exact (ho.cellAt (k * 2 + 1) (by omega)).trans q2))
      clear q1 q2 q3 q4 q5 q6 q7 HP HQ
      have hkI : (k : Int) < (N : Int) := by omega
      go_upto_region 9 with fail
      rcases hw12 with hc1 | hc2
      · subst hc1
        refine lx.region (fun D X => ∃ L2, RV w B r v W H [(m, #[.int .i64 r1, .int .i64 r2, .int .i64 r3, .int .i64 r4], 34), (n, #[.int .i32 sf, .int .i32 sb, .int .u8 sa], 32)] L2 X ∧ X.ownsRow B1 83 2 (.slice (some ⟨gl, 0, none⟩) N lc) N XX ∧ (D 20 = false → L2 = L0) ∧ (D 20 = true → L2 = (layT W L0 (x0 + (p0 : Nat)) y ⟨ct, 1, ⟨tf, tb, ta⟩⟩ (hasT (letIn ⟨r1, r2, r3, r4⟩ W H) (x0 + (p0 : Nat)) y) (hasT (letIn ⟨r1, r2, r3, r4⟩ W H) (x0 + (p0 : Nat) + 1) y)))) (by kernel_rfl) (by kernel_rfl) (by kernel_rfl) ⟨L0, HV.out.drew, HO.out.drew, fun _ => rfl, fun h => (by cases h)⟩ ?_
        refine lx.begin 57 rfl ?_
        refine lx.o_pure (.pointer (some ⟨r, 0, none⟩)) (fun _ _ h => by first | rfl | kernel_rfl) ?_
        refine lx.o_pure (.int .i64 x0) (fun _ _ h => by first | rfl | kernel_rfl) ?_
        refine lx.o_pure (.int .i64 (p0 : Nat)) (fun _ _ h => by first | rfl | kernel_rfl) ?_
        refine lx.o_pure (.int .i64 (x0 + (p0 : Nat))) (fun _ _ _ => lx.run_add rfl rfl rfl (by omega) rfl) ?_
        refine lx.o_pure (.int .i64 y) (fun _ _ h => by first | rfl | kernel_rfl) ?_
        refine lx.o_pure (.slice (some ⟨gl, 0, none⟩) N lc) (fun _ _ h => by first | rfl | kernel_rfl) ?_
        refine lx.o_pure (.int .i64 (k : Nat)) (fun _ _ h => by first | rfl | kernel_rfl) ?_
        refine lx.o_pure (.pointer (some ⟨gl, 0 + k * 2, none⟩)) (fun D X hC => lx.run_at rfl rfl rfl hlt Tryz.underlying80 hic hzc) ?_
        refine lx.o_pure (.pointer (some ⟨gl, 0 + k * 2, none⟩)) (fun _ _ h => by first | rfl | kernel_rfl) ?_
        refine lx.o_pure (.string ct) (fun D X hC => lx.run_load rfl rfl Tryz.underlying9 rfl (HC0.out X hC.choose_spec.2.1)) ?_
        refine lx.o_pure (.slice (some ⟨gl, 0, none⟩) N lc) (fun _ _ h => by first | rfl | kernel_rfl) ?_
        refine lx.o_pure (.int .i64 (k : Nat)) (fun _ _ h => by first | rfl | kernel_rfl) ?_
        refine lx.o_pure (.pointer (some ⟨gl, 0 + k * 2, none⟩)) (fun D X hC => lx.run_at rfl rfl rfl hlt Tryz.underlying80 hic hzc) ?_
        refine lx.o_pure (.pointer (some ⟨gl, 0 + k * 2 + 1, none⟩)) (fun _ _ h => by first | rfl | kernel_rfl) ?_
        refine lx.o_pure (.int .i64 1) (fun D X hC => lx.run_load rfl rfl Tryz.underlying3 rfl (HC1.out X hC.choose_spec.2.1)) ?_
        refine lx.o_pure (.int .i8 1) (fun D X hC => run_narrow8 rfl rfl Tryz.underlying3 Tryz.underlying57 (by decide)) ?_
        refine lx.o_pure (.agg #[.int .i32 sf, .int .i32 sb, .int .u8 sa]) (fun D X hC => run_loadrow rfl rfl (hC.choose_spec.1.bx _ (.tail _ (.head _))).1 Tryz.underlying32 rfl (by kernel_rfl)) ?_
        refine lx.o_call (.agg #[.int .i32 tf, .int .i32 tb, .int .u8 ta]) 42 #[.agg #[.int .i32 sf, .int .i32 sb, .int .u8 sa]] (fun _ _ _ => lx.run_fn rfl rfl rfl (enters_of Tryz.func42 (by kernel_rfl) rfl)) (fun D X hC => (HCT.out X).mono fun e w2 ⟨he, hw⟩ => ⟨he, by obtain ⟨L2, h1, ho, h2⟩ := hC; exact ⟨L2, h1.below hw, run.own_below ho hw, h2⟩⟩) ?_
        refine lx.o_pure (CV.val ⟨ct, 1, ⟨tf, tb, ta⟩⟩) (fun _ _ h => by first | rfl | kernel_rfl) ?_
        refine lx.o_pure (.agg #[.int .i64 r1, .int .i64 r2, .int .i64 r3, .int .i64 r4]) (fun D X hC => run_loadrow rfl rfl (hC.choose_spec.1.bx _ (.head _)).1 Tryz.underlying34 rfl (by kernel_rfl)) ?_
        refine lx.o_callD (.tuple #[]) 41 #[.pointer (some ⟨r, 0, none⟩), .int .i64 (x0 + (p0 : Nat)), .int .i64 y, CV.val ⟨ct, 1, ⟨tf, tb, ta⟩⟩, .agg #[.int .i64 r1, .int .i64 r2, .int .i64 r3, .int .i64 r4]] (fun _ _ _ => lx.run_fn rfl rfl rfl (enters_of Tryz.func41 (by kernel_rfl) rfl)) (fun D X h0 hdep hC => ?_) ?_
        · obtain ⟨L2, hV, ho, h1, -⟩ := hC
          obtain rfl := h1 h0
          refine (HWR.out X _ (x0 + (p0 : Nat)) ⟨ct, 1, ⟨tf, tb, ta⟩⟩ hV.rb HS.out (.inl rfl) hst (by omega)).mono ?_
          rintro e X2 ⟨rfl, hb8, hg8⟩
          exact ⟨rfl, _, hV.step hb8 hg8, HAP.out _ _ _ hV ho hg8, (fun h => by cases h), fun _ => rfl⟩
        refine lx.o_end ?_
        simp only [lx.ov]
        rintro X d hd ⟨L2, hS2, ho2, -, h2⟩
        obtain rfl := h2 (hd 20 (by decide))
        rw [← HST.out] at hS2
        have HV9 := run.hid hS2
        have HO9 := run.hid ho2
        have c9 := HC1.out X ho2
        rw [Nat.zero_add] at c9
        clear hS2 ho2 h2 hd HV HO
        go_simp
        go_wp2
        go_roundw
        case rel => exact ⟨k + 1, by omega, by go_num, by show Value.int _ _ = Value.int _ _; rw [HP1E.out, HPN1.out], by show RV _ _ _ _ _ _ _ _ _; rw [HL1E.out]; exact HV9.out, HO9⟩
        case measure => simp [intOf]; omega
      · subst hc2
        refine lx.region (fun D X => ∃ L2, RV w B r v W H [(m, #[.int .i64 r1, .int .i64 r2, .int .i64 r3, .int .i64 r4], 34), (n, #[.int .i32 sf, .int .i32 sb, .int .u8 sa], 32)] L2 X ∧ X.ownsRow B1 83 2 (.slice (some ⟨gl, 0, none⟩) N lc) N XX ∧ (D 20 = false → L2 = L0) ∧ (D 20 = true → L2 = (layT W L0 (x0 + (p0 : Nat)) y ⟨ct, 2, ⟨tf, tb, ta⟩⟩ (hasT (letIn ⟨r1, r2, r3, r4⟩ W H) (x0 + (p0 : Nat)) y) (hasT (letIn ⟨r1, r2, r3, r4⟩ W H) (x0 + (p0 : Nat) + 1) y)))) (by kernel_rfl) (by kernel_rfl) (by kernel_rfl) ⟨L0, HV.out.drew, HO.out.drew, fun _ => rfl, fun h => (by cases h)⟩ ?_
        refine lx.begin 57 rfl ?_
        refine lx.o_pure (.pointer (some ⟨r, 0, none⟩)) (fun _ _ h => by first | rfl | kernel_rfl) ?_
        refine lx.o_pure (.int .i64 x0) (fun _ _ h => by first | rfl | kernel_rfl) ?_
        refine lx.o_pure (.int .i64 (p0 : Nat)) (fun _ _ h => by first | rfl | kernel_rfl) ?_
        refine lx.o_pure (.int .i64 (x0 + (p0 : Nat))) (fun _ _ _ => lx.run_add rfl rfl rfl (by omega) rfl) ?_
        refine lx.o_pure (.int .i64 y) (fun _ _ h => by first | rfl | kernel_rfl) ?_
        refine lx.o_pure (.slice (some ⟨gl, 0, none⟩) N lc) (fun _ _ h => by first | rfl | kernel_rfl) ?_
        refine lx.o_pure (.int .i64 (k : Nat)) (fun _ _ h => by first | rfl | kernel_rfl) ?_
        refine lx.o_pure (.pointer (some ⟨gl, 0 + k * 2, none⟩)) (fun D X hC => lx.run_at rfl rfl rfl hlt Tryz.underlying80 hic hzc) ?_
        refine lx.o_pure (.pointer (some ⟨gl, 0 + k * 2, none⟩)) (fun _ _ h => by first | rfl | kernel_rfl) ?_
        refine lx.o_pure (.string ct) (fun D X hC => lx.run_load rfl rfl Tryz.underlying9 rfl (HC0.out X hC.choose_spec.2.1)) ?_
        refine lx.o_pure (.slice (some ⟨gl, 0, none⟩) N lc) (fun _ _ h => by first | rfl | kernel_rfl) ?_
        refine lx.o_pure (.int .i64 (k : Nat)) (fun _ _ h => by first | rfl | kernel_rfl) ?_
        refine lx.o_pure (.pointer (some ⟨gl, 0 + k * 2, none⟩)) (fun D X hC => lx.run_at rfl rfl rfl hlt Tryz.underlying80 hic hzc) ?_
        refine lx.o_pure (.pointer (some ⟨gl, 0 + k * 2 + 1, none⟩)) (fun _ _ h => by first | rfl | kernel_rfl) ?_
        refine lx.o_pure (.int .i64 2) (fun D X hC => lx.run_load rfl rfl Tryz.underlying3 rfl (HC1.out X hC.choose_spec.2.1)) ?_
        refine lx.o_pure (.int .i8 2) (fun D X hC => run_narrow8 rfl rfl Tryz.underlying3 Tryz.underlying57 (by decide)) ?_
        refine lx.o_pure (.agg #[.int .i32 sf, .int .i32 sb, .int .u8 sa]) (fun D X hC => run_loadrow rfl rfl (hC.choose_spec.1.bx _ (.tail _ (.head _))).1 Tryz.underlying32 rfl (by kernel_rfl)) ?_
        refine lx.o_call (.agg #[.int .i32 tf, .int .i32 tb, .int .u8 ta]) 42 #[.agg #[.int .i32 sf, .int .i32 sb, .int .u8 sa]] (fun _ _ _ => lx.run_fn rfl rfl rfl (enters_of Tryz.func42 (by kernel_rfl) rfl)) (fun D X hC => (HCT.out X).mono fun e w2 ⟨he, hw⟩ => ⟨he, by obtain ⟨L2, h1, ho, h2⟩ := hC; exact ⟨L2, h1.below hw, run.own_below ho hw, h2⟩⟩) ?_
        refine lx.o_pure (CV.val ⟨ct, 2, ⟨tf, tb, ta⟩⟩) (fun _ _ h => by first | rfl | kernel_rfl) ?_
        refine lx.o_pure (.agg #[.int .i64 r1, .int .i64 r2, .int .i64 r3, .int .i64 r4]) (fun D X hC => run_loadrow rfl rfl (hC.choose_spec.1.bx _ (.head _)).1 Tryz.underlying34 rfl (by kernel_rfl)) ?_
        refine lx.o_callD (.tuple #[]) 41 #[.pointer (some ⟨r, 0, none⟩), .int .i64 (x0 + (p0 : Nat)), .int .i64 y, CV.val ⟨ct, 2, ⟨tf, tb, ta⟩⟩, .agg #[.int .i64 r1, .int .i64 r2, .int .i64 r3, .int .i64 r4]] (fun _ _ _ => lx.run_fn rfl rfl rfl (enters_of Tryz.func41 (by kernel_rfl) rfl)) (fun D X h0 hdep hC => ?_) ?_
        · obtain ⟨L2, hV, ho, h1, -⟩ := hC
          obtain rfl := h1 h0
          refine (HWR.out X _ (x0 + (p0 : Nat)) ⟨ct, 2, ⟨tf, tb, ta⟩⟩ hV.rb HS.out (.inr rfl) hst (by omega)).mono ?_
          rintro e X2 ⟨rfl, hb8, hg8⟩
          exact ⟨rfl, _, hV.step hb8 hg8, HAP.out _ _ _ hV ho hg8, (fun h => by cases h), fun _ => rfl⟩
        refine lx.o_end ?_
        simp only [lx.ov]
        rintro X d hd ⟨L2, hS2, ho2, -, h2⟩
        obtain rfl := h2 (hd 20 (by decide))
        rw [← HST.out] at hS2
        have HV9 := run.hid hS2
        have HO9 := run.hid ho2
        have c9 := HC1.out X ho2
        rw [Nat.zero_add] at c9
        clear hS2 ho2 h2 hd HV HO
        go_simp
        go_wp2
        go_roundw
        case rel => exact ⟨k + 1, by omega, by go_num, by show Value.int _ _ = Value.int _ _; rw [HP1E.out, HPN1.out], by show RV _ _ _ _ _ _ _ _ _; rw [HL1E.out]; exact HV9.out, HO9⟩
        case measure => simp [intOf]; omega
    · obtain rfl : k = N := by omega
      have HE := run.hid (And.intro HV.out.rb (And.intro (HP.out k (Nat.le_refl _)).1 HV.out.grown))
      clear HV HO HP HQ
      go_wp2
      go_ret
      exact ⟨rfl, ⟨HE.out.1, HE.out.2.1⟩, HE.out.2.2⟩
end Go.Proofs.YtdgcfmfjgidbjaaGreat.cel
