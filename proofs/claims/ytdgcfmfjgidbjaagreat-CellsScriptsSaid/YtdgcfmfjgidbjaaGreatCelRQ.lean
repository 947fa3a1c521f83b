/-
  The document's buffer: Paste. (Its region printed by gen_celrq.py.)
-/
import Derived.Test.YtdgcfmfjgidbjaaGreatCelRP
namespace Go.Proofs.YtdgcfmfjgidbjaaGreat.cel
open Go Go.RowKit Go.Proofs
set_option linter.unusedVariables false
theorem drop_at {R : List CV} {i : Nat} (hi : i < R.length) : R.drop i = R.getD i z0 :: R.drop (i + 1) := by
  rw [List.drop_eq_getElem_cons hi]
  simp [List.getD_eq_getElem?_getD, hi]
/-- the cells of a right row -/
theorem whole_each : ∀ (n : Nat) (L : List CV), L.length ≤ n → wholeT L = true → ∀ c ∈ L, c.wide = 0 ∨ unit1 c = 1 ∨ unit1 c = 2
  | _, [], _, _, c, hc => by cases hc
  | 0, c :: t, hn, _, _, _ => by simp at hn
  | n + 1, c :: t, hn, hw, d, hd => by
    simp only [List.length_cons] at hn
    rw [wholeT_cons, Bool.and_eq_true, decide_eq_true_eq] at hw
    obtain ⟨h0, hw⟩ := hw
    rcases unit_cases c t with h1 | ⟨h1, h2⟩ | ⟨h1, h2, t', rfl⟩
    · omega
    · rw [h1] at hw
      rcases List.mem_cons.1 hd with rfl | hd
      · exact .inr (.inl h2)
      · exact whole_each n t (by omega) hw d hd
    · rw [h1] at hw
      rcases List.mem_cons.1 hd with rfl | hd
      · exact .inr (.inr h2)
      · rcases List.mem_cons.1 hd with rfl | hd
        · exact .inl rfl
        · exact whole_each n t' (by simp only [List.length_cons] at hn; omega) hw d hd
/-- one cell of a row, as the document writes it -/
def pasStep (W : Nat) (r : RT) (y x : Int) (R : List CV) (i : Nat) (G : List CV) : List CV := if 0 < (R.getD i z0).wide then layT W G (x + (i : Nat)) y (R.getD i z0) (hasT r (x + (i : Nat)) y) (hasT r (x + (i : Nat) + 1) y) else G
def pasR (W : Nat) (r : RT) (y x : Int) (R : List CV) : Nat → List CV → List CV
  | 0, G => G
  | k + 1, G => pasStep W r y x R k (pasR W r y x R k G)
def tailR (W : Nat) (r : RT) (y x : Int) (R : List CV) : Nat → Nat → List CV → List CV
  | 0, _, G => G
  | f + 1, i, G => tailR W r y x R f (i + 1) (pasStep W r y x R i G)
theorem tail_pas (W : Nat) (r : RT) (y x : Int) (R L : List CV) : ∀ f i, tailR W r y x R f i (pasR W r y x R i L) = pasR W r y x R (i + f) L
  | 0, i => rfl
  | f + 1, i => by
    have := tail_pas W r y x R L f (i + 1)
    rw [show i + (f + 1) = i + 1 + f by omega, ← this]
    rfl
theorem tail_paste (W : Nat) (r : RT) (y x : Int) (R : List CV) : ∀ (n i f : Nat) (G : List CV), i + n = R.length → n ≤ f → wholeT (R.drop i) = true → tailR W r y x R n i G = pasteF W r y x R f i G := by
  intro n
  induction n using Nat.strongRecOn with
  | _ n ih =>
    intro i f G hn hf hw
    match n, f with
    | 0, 0 => rfl
    | 0, f + 1 =>
      unfold pasteF
      rw [if_neg (by omega)]
      rfl
    | n + 1, 0 => omega
    | n + 1, f + 1 =>
      have hi : i < R.length := by omega
      have hd := drop_at hi
      rw [wholeT_step hi, Bool.and_eq_true, decide_eq_true_eq] at hw
      obtain ⟨h0, hw⟩ := hw
      unfold pasteF
      rw [if_pos hi]
      rw [hd] at h0 hw ⊢
      rcases unit_cases (R.getD i z0) (R.drop (i + 1)) with h1 | ⟨h1, h2⟩ | ⟨h1, h2, t', h3⟩
      · omega
      · rw [h1] at hw ⊢
        have e : pasStep W r y x R i G = layT W G (x + (i : Nat)) y (R.getD i z0) (hasT r (x + (i : Nat)) y) (hasT r (x + (i : Nat) + 1) y) := by
          unfold pasStep
          rw [if_pos (by rw [unit1_w1 h2]; decide)]
        show tailR W r y x R n (i + 1) (pasStep W r y x R i G) = _
        rw [e]
        exact ih n (by omega) (i + 1) f _ (by omega) (by omega) hw
      · rw [h1] at hw ⊢
        have hi1 : i + 1 < R.length := by
          rcases Nat.lt_or_ge (i + 1) R.length with h | h
          · exact h
          · rw [List.drop_eq_nil_of_le h] at h3; cases h3
        have hr : R.getD (i + 1) z0 = restT (R.getD i z0).sty := by
          rw [drop_at hi1] at h3
          exact (List.cons.inj h3).1
        have e : pasStep W r y x R i G = layT W G (x + (i : Nat)) y (R.getD i z0) (hasT r (x + (i : Nat)) y) (hasT r (x + (i : Nat) + 1) y) := by
          unfold pasStep
          rw [if_pos (by rw [unit1_w2 h2]; decide)]
        match n with
        | 0 => omega
        | n + 1 =>
          have e2 : ∀ G', pasStep W r y x R (i + 1) G' = G' := by
            intro G'
            unfold pasStep
            rw [hr, if_neg (by show ¬ (0 : Int) < 0; omega)]
          show tailR W r y x R n (i + 1 + 1) (pasStep W r y x R (i + 1) (pasStep W r y x R i G)) = _
          rw [e2, e]
          exact ih n (by omega) (i + 2) f _ (by omega) (by omega) hw
theorem paste_plan (W H : Nat) (L R : List CV) (x y : Int) (lt : RT) (hS : Strong W H L) (hin : ∀ x y, hasT lt x y = true → 0 ≤ x ∧ x < W ∧ 0 ≤ y ∧ y < H) (hw : wholeT R = true) :
    pasR W lt y x R R.length L = pasteT W lt y x R L ∧ ∀ k, k ≤ R.length → Strong W H (pasR W lt y x R k L) := by
  refine ⟨?_, fun k => ?_⟩
  · have h1 := tail_pas W lt y x R L R.length 0
    rw [Nat.zero_add] at h1
    rw [← h1]
    exact tail_paste W lt y x R R.length 0 R.length L (by omega) (Nat.le_refl _) (by rw [List.drop_zero]; exact hw)
  · induction k with
    | zero => intro _; exact hS
    | succ k ih =>
      intro hk
      have h1 := ih (by omega)
      show Strong W H (pasStep W lt y x R k (pasR W lt y x R k L))
      unfold pasStep
      split
      · rename_i h0
        have hm : R.getD k z0 ∈ R := by
          rw [List.getD_eq_getElem?_getD, List.getElem?_eq_getElem (show k < R.length by omega)]
          exact List.getElem_mem _
        rcases whole_each _ R (Nat.le_refl _) hw _ hm with h2 | h2
        · omega
        · exact ((h1.nice (fun _ => True)).lay h2 (hin _ _) (hin _ _) (fun _ => trivial) (fun _ => trivial)).strong
      · exact h1
theorem Reads5.grownV {w w' : World} {a : Option Addr} {cap : Nat} {o : Option Nat} {L : List CV} (h : Reads5 w (.slice a L.length cap) L) (hg : w.grownBy w' o) (hne : ∀ b off, 0 < L.length → a = some ⟨b, off, none⟩ → o ≠ some b) : Reads5 w' (.slice a L.length cap) L := by
  refine ⟨a, cap, rfl, fun i hi => ?_⟩
  obtain ⟨b, off, rfl, hlt, h0, h1, h2, h3, h4⟩ := reads_cell h hi
  have hbb := hg.block b hlt (fun e => hne b off (by omega) rfl e.symm)
  exact ⟨b, off, rfl, Nat.lt_of_lt_of_le hlt hg.size, (World.cell?_of_block (a := ⟨b, _, none⟩) hbb).trans h0, (World.cell?_of_block (a := ⟨b, _, none⟩) hbb).trans h1, (World.cell?_of_block (a := ⟨b, _, none⟩) hbb).trans h2, (World.cell?_of_block (a := ⟨b, _, none⟩) hbb).trans h3, (World.cell?_of_block (a := ⟨b, _, none⟩) hbb).trans h4⟩
set_option maxRecDepth 100000 in
set_option maxHeartbeats 8000000 in
theorem rpaste_any (B r W H : Nat) (v : Value) (L : List CV) (x y : Int) (a : Option Addr) (cap : Nat) (R : List CV) (clip : RT) (w : World) (h : RB w B r v W H L) (hS : Strong W H L) (hclip : clip.wf) (hR : Reads5 w (.slice a R.length cap) R) (hN : R.length ≤ 134217728) (hL : ∀ c ∈ R, Fit c ∧ c.sty.wf) (hfar : ∀ b off, 0 < R.length → a = some ⟨b, off, none⟩ → v.ownBlock ≠ some b) :
    Calls Tryz.prog 18 #[.pointer (some ⟨r, 0, none⟩), .int .i64 x, .int .i64 y, .slice a R.length cap, clip.val] w fun e w' => e = .returned (.int .i64 (if wholeT R = true then 0 else 180)) ∧ (RB w' B r v W H (if wholeT R = true then pasteT W (letIn clip W H) y (farR x) R L else L) ∧ Strong W H (if wholeT R = true then pasteT W (letIn clip W H) y (farR x) R L else L)) ∧ w.grownBy w' v.ownBlock := by
  obtain ⟨it, hinf, -, hsz, -⟩ := info_parts info_cell
  have HRW := run.hid (fun (w' : World) (hr : Reads5 w' (.slice a R.length cap) R) => refrow_any a cap R w' hr (by omega) hL)
  have HFAR := run.hid (fun w => far_any x w)
  change Hid (∀ w, Calls _ _ _ _ fun e w' => e = .returned (.int .i64 (farR x)) ∧ _) at HFAR
  have HWR := run.hid (fun (w : World) (L : List CV) (x : Int) (c : CV) h hS hc hcs hx => rwrite_any B r W H v L x y c clip w h (Strong.nice hS (fun _ => False)).good (strong_wf hS) hc hcs hclip hx)
  have hfx : -2199023255552 ≤ farR x ∧ farR x ≤ 2199023255552 := by unfold farR; omega
  have HRD := run.hid (fun (w' : World) (hg : w.grownBy w' v.ownBlock) => hR.grownV hg hfar)
  have hin := (let_in clip W H h.wide h.high).2
  have HPL := run.hid (fun (hw : wholeT R = true) => paste_plan W H L R (farR x) y (letIn clip W H) hS hin hw)
  have HEA := run.hid (fun (hw : wholeT R = true) => whole_each _ R (Nat.le_refl _) hw)
  have HFT := run.hid hL
  have HSS := run.hid hS
  clear hL hfar hR hS hin
  generalize farR x = x0 at *
  obtain ⟨N, hNN⟩ : ∃ N, N = R.length := ⟨_, rfl⟩
  have HN := run.hid hNN
  rw [← hNN] at hN HRW HRD HPL ⊢
  clear hNN
  obtain ⟨r1, r2, r3, r4⟩ := clip
  show Calls _ _ #[_, _, _, _, .agg #[.int .i64 r1, .int .i64 r2, .int .i64 r3, .int .i64 r4]] _ _
  have hR1 := (RV.start h).box #[.int .i64 r1, .int .i64 r2, .int .i64 r3, .int .i64 r4] 34
  clear h hclip
  cases hwh : wholeT R
  · have hno : ¬ (false = true) := by decide
    simp only [if_neg hno]
    go_enter Tryz.func18, Tryz.ntmps18
    go_upto_region 3 with fail
    generalize w.alloc (.cells #[.int .i64 r1, .int .i64 r2, .int .i64 r3, .int .i64 r4] 34) = w1 at *
    generalize w.heap.size = m at *
    have HRow := run.hid (HRW.out w1 (HRD.out _ hR1.grown))
    clear HRW
    go_wp2_with fail
    rw [hwh] at HRow
    refine HRow.out.mono ?_
    rintro e w2 ⟨rfl, hb2⟩
    have HV2 := run.hid (hR1.below hb2)
    clear hR1 hb2 HRow HPL HEA HRD HWR HFAR
    have HE := run.hid (And.intro HV2.out.rb HV2.out.grown)
    clear HV2
    go_wp2
    go_ret
    exact ⟨rfl, ⟨HE.out.1, HSS.out⟩, HE.out.2⟩
  · simp only [if_true]
    obtain ⟨hp1, hp2⟩ := HPL.out hwh
    rw [← hp1]
    have HST := run.hid hp2
    have HEA := run.hid (HEA.out hwh)
    clear hp1 hp2 HPL HSS
    go_enter Tryz.func18, Tryz.ntmps18
    go_upto_region 3 with fail
    generalize w.alloc (.cells #[.int .i64 r1, .int .i64 r2, .int .i64 r3, .int .i64 r4] 34) = w1 at *
    generalize w.heap.size = m at *
    have HRow := run.hid (HRW.out w1 (HRD.out _ hR1.grown))
    clear HRW
    go_wp2_with fail
    rw [hwh] at HRow
    refine HRow.out.mono ?_
    rintro e w2 ⟨rfl, hb2⟩
    have HV2 := run.hid (hR1.below hb2)
    clear hR1 hb2 HRow
    go_wp2_with fail
    refine (HFAR.out _).mono ?_
    rintro e w3 ⟨rfl, rfl⟩
    clear HFAR
    go_wp2
    go_loopw [11] (fun vi wr => ∃ k : Nat, k ≤ N ∧ vi = .int .i64 k ∧ Hid (RV w B r v W H [(m, #[.int .i64 r1, .int .i64 r2, .int .i64 r3, .int .i64 r4], 34)] (pasR W (letIn ⟨r1, r2, r3, r4⟩ W H) y x0 R k L) wr)) (fun vi _ => ((N : Int) - intOf vi).toNat)
    case atStart => exact ⟨0, Nat.zero_le _, rfl, HV2⟩
    case round =>
      clear HV2
      obtain ⟨k, hk, rfl, HV⟩ := hrel
      by_cases hlt : k < N
      · have HNX := run.hid (show pasR W (letIn ⟨r1, r2, r3, r4⟩ W H) y x0 R (k + 1) L = pasStep W (letIn ⟨r1, r2, r3, r4⟩ W H) y x0 R k (pasR W (letIn ⟨r1, r2, r3, r4⟩ W H) y x0 R k L) from rfl)
        have HS0 := run.hid (HST.out k hk)
        have hkl : k < R.length := by rw [← HN.out]; exact hlt
        have hm : R.getD k z0 ∈ R := by
          rw [List.getD_eq_getElem?_getD, List.getElem?_eq_getElem hkl]
          exact List.getElem_mem _
        have hea := HEA.out _ hm
        have HWF := run.hid (HFT.out _ hm).2
        have hrd := HRD.out _ HV.out.grown
        rw [HN.out] at hrd
        obtain ⟨bR, oR, rfl, hbR, hcR⟩ := reads_cell hrd hkl
        have HCR := run.hid (fun (X : World) (hg : w.grownBy X v.ownBlock) => (show Cell5 X bR (oR + k * 5) (R.getD k z0) by
          have h1 := HRD.out X hg
          rw [HN.out] at h1
          obtain ⟨b2, o2, e2, -, h2⟩ := reads_cell h1 hkl
          simp only [Option.some.injEq, Addr.mk.injEq, and_true] at e2
          obtain ⟨rfl, rfl⟩ := e2
          exact h2))
        unfold pasStep at HNX
        generalize hPR1 : pasR W (letIn ⟨r1, r2, r3, r4⟩ W H) y x0 R (k + 1) L = L1 at *
        have HL1E := run.hid hPR1
        clear hPR1
        generalize pasR W (letIn ⟨r1, r2, r3, r4⟩ W H) y x0 R k L = L0 at *
        generalize R.getD k z0 = c at *
        obtain ⟨-, k1, -⟩ := hcR
        clear hm hrd
        have hw3 : c.wide = 0 ∨ c.wide = 1 ∨ c.wide = 2 := by
          rcases hea with h | h | h
          · exact .inl h
          · exact .inr (.inl (unit1_w1 h))
          · exact .inr (.inr (unit1_w2 h))
        clear hea
        rcases hw3 with hw3 | hw3
        · rw [hw3] at k1
          have e : L1 = L0 := by rw [HNX.out, if_neg (by omega)]
          clear HCR HNX
          go_wp2
          go_roundw
          case rel => exact ⟨k + 1, by omega, by go_num, by show RV _ _ _ _ _ _ _ _ _; rw [HL1E.out, e]; exact HV.out⟩
          case measure => simp [intOf]; omega
        · have e : L1 = layT W L0 (x0 + (k : Nat)) y c (hasT (letIn ⟨r1, r2, r3, r4⟩ W H) (x0 + (k : Nat)) y) (hasT (letIn ⟨r1, r2, r3, r4⟩ W H) (x0 + (k : Nat) + 1) y) := by rw [HNX.out, if_pos (by omega)]
          have HST1 := run.hid e
          have HC12 := run.hid hw3
          have hpos : (0 : Int) < c.wide := by omega
          generalize hcw : c.wide = cw at *
          have HCW := run.hid hcw
          clear e HNX hw3 hcw
          go_upto_region 10 with fail
          clear k1
          refine lx.region (fun D X => ∃ L2, RV w B r v W H [(m, #[.int .i64 r1, .int .i64 r2, .int .i64 r3, .int .i64 r4], 34)] L2 X ∧ (D 10 = false → L2 = L0) ∧ (D 10 = true → L2 = (layT W L0 (x0 + (k : Nat)) y c (hasT (letIn ⟨r1, r2, r3, r4⟩ W H) (x0 + (k : Nat)) y) (hasT (letIn ⟨r1, r2, r3, r4⟩ W H) (x0 + (k : Nat) + 1) y)))) (by kernel_rfl) (by kernel_rfl) (by kernel_rfl) ⟨L0, HV.out.drew, fun _ => rfl, fun h => (by cases h)⟩ ?_
          refine lx.begin 42 rfl ?_
          refine lx.o_pure (.pointer (some ⟨r, 0, none⟩)) (fun _ _ h => by first | rfl | kernel_rfl) ?_
          refine lx.o_pure (.int .i64 x0) (fun _ _ h => by first | rfl | kernel_rfl) ?_
          refine lx.o_pure (.int .i64 (k : Nat)) (fun _ _ h => by first | rfl | kernel_rfl) ?_
          refine lx.o_pure (.int .i64 (x0 + (k : Nat))) (fun _ _ _ => lx.run_add rfl rfl rfl (by omega) rfl) ?_
          refine lx.o_pure (.int .i64 y) (fun _ _ h => by first | rfl | kernel_rfl) ?_
          refine lx.o_pure (.slice (some ⟨bR, oR, none⟩) N cap) (fun _ _ h => by first | rfl | kernel_rfl) ?_
          refine lx.o_pure (.int .i64 (k : Nat)) (fun _ _ h => by first | rfl | kernel_rfl) ?_
          refine lx.o_pure (.pointer (some ⟨bR, oR + k * 5, none⟩)) (fun D X hC => lx.run_at rfl rfl rfl hlt Tryz.underlying35 hinf hsz) ?_
          refine lx.o_pure c.val (fun D X hC => run_load5 rfl rfl (HCR.out X hC.choose_spec.1.grown)) ?_
          refine lx.o_pure (.agg #[.int .i64 r1, .int .i64 r2, .int .i64 r3, .int .i64 r4]) (fun D X hC => run_loadrow rfl rfl (hC.choose_spec.1.bx _ (.head _)).1 Tryz.underlying34 rfl (by kernel_rfl)) ?_
          refine lx.o_callD (.tuple #[]) 41 #[.pointer (some ⟨r, 0, none⟩), .int .i64 (x0 + (k : Nat)), .int .i64 y, c.val, .agg #[.int .i64 r1, .int .i64 r2, .int .i64 r3, .int .i64 r4]] (fun _ _ _ => lx.run_fn rfl rfl rfl (enters_of Tryz.func41 (by kernel_rfl) rfl)) (fun D X h0 hdep hC => ?_) ?_
          · obtain ⟨L2, hV, h1, -⟩ := hC
            obtain rfl := h1 h0
            refine (HWR.out X _ (x0 + (k : Nat)) c hV.rb HS0.out (by rw [HCW.out]; exact HC12.out) HWF.out (by omega)).mono ?_
            rintro e X2 ⟨rfl, hb8, hg8⟩
            exact ⟨rfl, _, hV.step hb8 hg8, (fun h => by cases h), fun _ => rfl⟩
          refine lx.o_end ?_
          simp only [lx.ov]
          rintro X d hd ⟨L2, hS2, -, h2⟩
          obtain rfl := h2 (hd 10 (by decide))
          rw [← HST1.out] at hS2
          have HV9 := run.hid hS2
          clear hS2 h2 hd HV
          go_simp
          go_wp2
          go_roundw
          case rel => exact ⟨k + 1, by omega, by go_num, by show RV _ _ _ _ _ _ _ _ _; rw [HL1E.out]; exact HV9.out⟩
          case measure => simp [intOf]; omega
      · obtain rfl : k = N := by omega
        have HE := run.hid (And.intro HV.out.rb (And.intro (HST.out k (Nat.le_refl _)) HV.out.grown))
        clear HV HST
        go_wp2
        go_ret
        exact ⟨rfl, ⟨HE.out.1, HE.out.2.1⟩, HE.out.2.2⟩
end Go.Proofs.YtdgcfmfjgidbjaaGreat.cel
