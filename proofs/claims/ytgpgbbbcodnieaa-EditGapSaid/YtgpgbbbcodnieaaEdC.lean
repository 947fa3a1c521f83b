/-
  The editor: At, past, leads, Marked, Go; slices cut out of slices; a step appended.
-/
import Derived.Test.YtgpgbbbcodnieaaEdB
import Derived.Laws.ResultCell
import Derived.BigRegion
import Derived.BigQuiet
import Derived.Deep.DeepCutAuto
import Derived.WalkKit
import Derived.Lib.MinMax
import Derived.Lib.QuietBelow
import Derived.Deep.AppendLies
namespace Go.Proofs.Ytgpgbbbcodnieaa.ed
open Go Go.RowKit Go.Proofs
set_option linter.unusedVariables false
def AtIs (F : List TV) (i : Int) (w : World) (e : Ending) (w' : World) : Prop :=
  Below w.heap.size w w' ∧ ((∃ k : Nat, i = k ∧ k < F.length ∧ e = .returned (.tuple #[.agg #[.string (F.getD k tv0).1, .int .i64 ((F.getD k tv0).2 : Nat)], .bool true])) ∨
    (¬ (0 ≤ i ∧ i < F.length) ∧ e = .returned (.tuple #[.agg #[.string ⟨#[]⟩, .int .i64 0], .bool false])))
theorem gap_at {g lb n cap f u : Nat} {A : List Value} {F : List TV} {w : World} (hG : edC.G g lb n cap f u A w) (hc : HasC (n * 2) (f * 2) (u * 2) A (cellsT F)) (hl : f + (n - u) = F.length) {k : Nat} (hk : k < F.length) :
    (k < f → w.cell? ⟨lb, k * 2, none⟩ = some (.string (F.getD k tv0).1) ∧ w.cell? ⟨lb, k * 2 + 1, none⟩ = some (.int .i64 ((F.getD k tv0).2 : Nat))) ∧
    (f ≤ k → w.cell? ⟨lb, (u + (k - f)) * 2, none⟩ = some (.string (F.getD k tv0).1) ∧ w.cell? ⟨lb, (u + (k - f)) * 2 + 1, none⟩ = some (.int .i64 ((F.getD k tv0).2 : Nat))) := by
  obtain ⟨h1, h2⟩ := cellsT_at F k hk
  have hfu := hG.fu
  have hun := hG.un
  have hnc := hG.nc
  have hsz := hG.sz
  have hg := has_get hc (by omega) (by omega) (by omega)
  rw [hg] at h1 h2
  refine ⟨fun hlt => ?_, fun hge => ?_⟩
  · rw [if_pos (by omega)] at h1 h2
    rw [blk_cell hG.hl, blk_cell hG.hl, List.getElem?_toArray, List.getElem?_toArray]
    exact ⟨h1, h2⟩
  · rw [if_neg (by omega), if_pos (by omega)] at h1 h2
    rw [blk_cell hG.hl, blk_cell hG.hl, List.getElem?_toArray, List.getElem?_toArray]
    rw [show u * 2 + (k * 2 - f * 2) = (u + (k - f)) * 2 by omega] at h1
    rw [show u * 2 + (k * 2 + 1 - f * 2) = (u + (k - f)) * 2 + 1 by omega] at h2
    exact ⟨h1, h2⟩
theorem two_put (w1 : World) (n : Nat) (a b u v : Value) (t : TypeId) (h : w1.heap[n]? = some (.cells #[a, b] t (0, 0))) :
    ((w1.setCell ⟨n, 0, none⟩ u).setCell ⟨n, 1, none⟩ v).cell? ⟨n, 0, none⟩ = some u ∧ ((w1.setCell ⟨n, 0, none⟩ u).setCell ⟨n, 1, none⟩ v).cell? ⟨n, 1, none⟩ = some v := by
  have h2 := heap_setCell_same _ _ 1 _ _ v (heap_setCell_same _ _ 0 _ _ u h)
  exact ⟨blk_cell h2 0, blk_cell h2 1⟩
theorem below_put (w w1 : World) (n : Nat) (u v : Value) (hB : Below n w w1) : Below n w ((w1.setCell ⟨n, 0, none⟩ u).setCell ⟨n, 1, none⟩ v) :=
  (hB.setCell (p := ⟨n, 0, none⟩) (Nat.le_refl _) _).setCell (p := ⟨n, 1, none⟩) (Nat.le_refl _) _
set_option maxRecDepth 100000 in
set_option maxHeartbeats 4000000 in
theorem at_any {g lb : Nat} {F : List TV} {w : World} (h : GapOf g lb F w) (i : Int) :
    Calls Try.prog 36 #[.pointer (some ⟨g, 0, none⟩), .int .i64 i] w (AtIs F i w) := by
  obtain ⟨n, cap, f, u, A, hG, hc, hn, hl⟩ := h
  have HAT := run.hid (fun k (hk : k < F.length) => gap_at hG hc hl hk)
  have HLEN := run.hid (fun (X : World) (hX : Kept (fun _ => False) w X) => edC.len_any (hG.kept hX (fun h => h) (fun h => h)) (by omega))
  rw [hl] at HLEN
  have hglt := (Array.getElem?_eq_some_iff.1 hG.hg).1
  have hllt := (Array.getElem?_eq_some_iff.1 hG.hl).1
  have hbel := run.below_one w (.cells #[.string ⟨#[]⟩, .int .i64 0] 74)
  have hnew := run.heap_new w (.cells #[.string ⟨#[]⟩, .int .i64 0] 74)
  have hkn := (Kept.refl (fun _ => False) w).alloc (.cells #[.string ⟨#[]⟩, .int .i64 0] 74)
  have HL1 := run.hid (HLEN.out _ hkn)
  have HG := run.hid hG
  have hfu := hG.fu
  have hun := hG.un
  have hnc := hG.nc
  clear hG hc HLEN
  unfold AtIs
  generalize hN : F.length = N at *
  generalize hdt : (fun k => F.getD k tv0) = dt at *
  have hdk : ∀ k, F.getD k tv0 = dt k := fun k => by rw [← hdt]
  simp only [hdk] at HAT ⊢
  clear hdt hdk hN
  by_cases h0 : i < 0
  · clear HL1 HAT HG
    go_enter Try.func36, Try.ntmps36
    go_upto_region 1 with fail
    generalize w.alloc (.cells #[.string ⟨#[]⟩, .int .i64 0] 74) = w1 at *
    have hn0 := blk_cell hnew 0
    have hn1 := blk_cell hnew 1
    change w1.cell? _ = some (.string ⟨#[]⟩) at hn0
    change w1.cell? _ = some (.int .i64 0) at hn1
    have f0 := blk_free hnew 0
    have f1 := blk_free hnew 1
    go_wp2
    have hT := two_put w1 w.heap.size _ _ (.string ⟨#[]⟩) (.int .i64 0) _ hnew
    refine bodyPost_ret (v := .tuple #[.agg #[.string ⟨#[]⟩, .int .i64 0], .bool false]) ((results_cell_tmp rfl _ _ _).trans (by simp [go_sem, hT.1, hT.2])) rfl ?_
    exact ⟨below_put w w1 _ _ _ hbel, .inr ⟨by omega, rfl⟩⟩
  · obtain ⟨k, rfl⟩ : ∃ k : Nat, i = k := ⟨i.toNat, by omega⟩
    clear h0
    go_enter Try.func36, Try.ntmps36
    go_upto_region 1 with fail
    generalize w.alloc (.cells #[.string ⟨#[]⟩, .int .i64 0] 74) = w1 at *
    go_wp2_with fail
    refine HL1.out.mono ?_
    rintro e w2 ⟨rfl, hs2⟩
    have hb2 : Below w.heap.size w w2 := ⟨hs2.os.trans hbel.os, hs2.tape.trans hbel.tape, hs2.output.trans hbel.output, by rw [hs2.heap]; exact hbel.size, fun k hk => by rw [hs2.heap]; exact hbel.block k hk⟩
    have hnew2 := hs2.blk hnew
    have hn0 := blk_cell hnew2 0
    have hn1 := blk_cell hnew2 1
    change w2.cell? _ = some (.string ⟨#[]⟩) at hn0
    change w2.cell? _ = some (.int .i64 0) at hn1
    have f0 := blk_free hnew2 0
    have f1 := blk_free hnew2 1
    have HK2 := run.hid (Same.kept hkn hs2)
    clear HL1 hbel hnew hs2 hkn
    by_cases hk : k < N
    · have hin : ¬ ((N : Nat) : Int) ≤ (k : Int) := by omega
      have hg2 := (HG.out.kept HK2.out (fun h => h) (fun h => h)).hg
      have g0 := blk_cell hg2 0
      have g1 := blk_cell hg2 1
      have g2 := blk_cell hg2 2
      change w2.cell? _ = some (.slice (some ⟨lb, 0, none⟩) n cap) at g0
      change w2.cell? _ = some (.int .i64 (f : Nat)) at g1
      change w2.cell? _ = some (.int .i64 (u : Nat)) at g2
      obtain ⟨ha, hb⟩ := HAT.out k hk
      have hcl : ∀ o v, w.cell? ⟨lb, o, none⟩ = some v → w2.cell? ⟨lb, o, none⟩ = some v := fun o v h => (hb2.cell (p := ⟨lb, o, none⟩) hllt).trans h
      by_cases hf : k < f
      · obtain ⟨a0, a1⟩ := ha hf
        have x0 := hcl _ _ a0
        have x1 := hcl _ _ a1
        have hkn : k < n := by omega
        clear ha hb hcl a0 a1 HAT HG hg2 HK2
        obtain ⟨q, hq⟩ : ∃ q, dt k = q := ⟨_, rfl⟩
        rw [hq] at x0 x1
        have HQ := run.hid hq
        clear hq
        obtain ⟨qt, qw⟩ := q
        dsimp only at x0 x1
        go_wp2
        have hT := two_put w2 w.heap.size _ _ (.string qt) (.int .i64 (qw : Nat)) _ hnew2
        refine bodyPost_ret (v := .tuple #[.agg #[.string qt, .int .i64 (qw : Nat)], .bool true]) ((results_cell_tmp rfl _ _ _).trans (by simp [go_sem, hT.1, hT.2])) rfl ?_
        exact ⟨below_put w w2 _ _ _ hb2, .inl ⟨k, rfl, hk, by rw [HQ.out]⟩⟩
      · obtain ⟨a0, a1⟩ := hb (by omega)
        have x0 := hcl _ _ a0
        have x1 := hcl _ _ a1
        obtain ⟨q0, hq0⟩ : ∃ q0, q0 = u + (k - f) := ⟨_, rfl⟩
        rw [← hq0] at x0 x1
        have hq0n : q0 < n := by omega
        have hq1 : ((u : Int) + (k : Int) - (f : Int)) = (q0 : Int) := by omega
        clear ha hb hcl a0 a1 HAT HG hg2 HK2 hq0
        obtain ⟨q, hq⟩ : ∃ q, dt k = q := ⟨_, rfl⟩
        rw [hq] at x0 x1
        have HQ := run.hid hq
        clear hq
        obtain ⟨qt, qw⟩ := q
        dsimp only at x0 x1
        go_upto_region 5 with fail
        go_region
        go_wp2
        have hT := two_put w2 w.heap.size _ _ (.string qt) (.int .i64 (qw : Nat)) _ hnew2
        refine bodyPost_ret (v := .tuple #[.agg #[.string qt, .int .i64 (qw : Nat)], .bool true]) ((results_cell_tmp rfl _ _ _).trans (by simp [go_sem, hT.1, hT.2])) rfl ?_
        exact ⟨(below_put w w2 _ _ _ hb2).drew, .inl ⟨k, rfl, hk, by rw [HQ.out]⟩⟩
    · have hin : ((N : Nat) : Int) ≤ (k : Int) := by omega
      clear HAT HG HK2
      go_wp2
      have hT := two_put w2 w.heap.size _ _ (.string ⟨#[]⟩) (.int .i64 0) _ hnew2
      refine bodyPost_ret (v := .tuple #[.agg #[.string ⟨#[]⟩, .int .i64 0], .bool false]) ((results_cell_tmp rfl _ _ _).trans (by simp [go_sem, hT.1, hT.2])) rfl ?_
      exact ⟨below_put w w2 _ _ _ hb2, .inr ⟨by omega, rfl⟩⟩
end Go.Proofs.Ytgpgbbbcodnieaa.ed
namespace Go.Proofs.Ytgpgbbbcodnieaa.ed
open Go Go.RowKit Go.Proofs
set_option linter.unusedVariables false
/-- is there a blank at a place? -/
def blankAt (F : List TV) (i : Nat) : Bool := decide ((F.getD i tv0).1 = wrp.sp)
def pastL (F : List TV) (bl : Bool) : Nat → Nat
  | 0 => 0
  | c + 1 => if blankAt F c = bl then pastL F bl c else c + 1
def pastR (F : List TV) (bl : Bool) : Nat → Nat → Nat
  | 0, c => c
  | f + 1, c => if blankAt F c = bl then pastR F bl f (c + 1) else c
theorem pastL_le (F : List TV) (bl : Bool) : ∀ c, pastL F bl c ≤ c
  | 0 => Nat.le_refl _
  | c + 1 => by
    simp only [pastL]
    split
    · have := pastL_le F bl c; omega
    · omega
theorem pastR_le (F : List TV) (bl : Bool) : ∀ f c, c ≤ pastR F bl f c ∧ pastR F bl f c ≤ c + f
  | 0, c => by simp [pastR]
  | f + 1, c => by
    simp only [pastR]
    split
    · have := pastR_le F bl f (c + 1); omega
    · omega
theorem Ed.below {b g lb : Nat} {F : List TV} {ca an : Int} {sv : Value} {dn : Int} {w w' : World} (h : Ed b g lb F ca an sv dn w) (hb : Below w.heap.size w w') : Ed b g lb F ca an sv dn w' :=
  h.kept (Kept.of_below (S := fun _ => False) hb) (fun h => h) (fun h => h) (fun h => h)
theorem toList_sp (q : ByteArray) : (q.toList == [32]) = decide (q = wrp.sp) := wrp.sp_eq q
set_option maxRecDepth 100000 in
set_option maxHeartbeats 4000000 in
theorem past_left {b g lb : Nat} {F : List TV} {ca an : Int} {sv : Value} {dn : Int} {w : World} (h : Ed b g lb F ca an sv dn w) (bl : Bool) (c : Nat) (hc : c ≤ F.length) (hF : F.length ≤ 1048576) :
    Calls Try.prog 51 #[.pointer (some ⟨b, 0, none⟩), .int .i64 (c : Nat), .int .i64 (-1), .bool bl] w fun e w' => e = .returned (.int .i64 (pastL F bl c : Nat)) ∧ Below w.heap.size w w' := by
  have HAT := run.hid (fun (X : World) (hX : Below w.heap.size w X) (i : Int) => at_any (h.below hX).gap i)
  have hblt := (Array.getElem?_eq_some_iff.1 h.box).1
  have c0 := blk_cell h.box 0
  change w.cell? _ = some (.pointer (some ⟨g, 0, none⟩)) at c0
  unfold AtIs at HAT
  have HP := run.hid (show (∀ k, pastL F bl (k + 1) = if blankAt F k = bl then pastL F bl k else k + 1) ∧ pastL F bl 0 = 0 from ⟨fun _ => rfl, rfl⟩)
  have HBL := run.hid (show ∀ k, blankAt F k = decide ((F.getD k tv0).1 = wrp.sp) from fun _ => rfl)
  clear h
  generalize hN : F.length = N at *
  generalize hdt : (fun k => F.getD k tv0) = dt at *
  have hdk : ∀ k, F.getD k tv0 = dt k := fun k => by rw [← hdt]
  simp only [hdk] at HAT HBL
  generalize pastL F bl = pl at *
  generalize blankAt F = ba at *
  clear hdt hdk hN
  go_enter Try.func51, Try.ntmps51
  go_wp2
  go_loopw [1] (fun vc wr => ∃ k : Nat, k ≤ N ∧ vc = .int .i64 k ∧ pl k = pl c ∧ Below w.heap.size w wr) (fun vc _ => (intOf vc).toNat)
  case atStart => exact ⟨c, hc, rfl, rfl, Below.refl _ _⟩
  case round =>
    obtain ⟨k, hk, rfl, hpl, hbel⟩ := hrel
    have x0 := (hbel.cell (p := ⟨b, 0, none⟩) hblt).trans c0
    cases k with
    | zero =>
      have HA := run.hid (HAT.out wr hbel (-1))
      have HB := run.hid hbel
      have HPL := run.hid (hpl.symm.trans HP.out.2)
      clear HAT HBL hbel HP hpl
      go_wp2_with fail
      refine HA.out.mono ?_
      rintro e w2 ⟨hb2, ⟨k, hk, -, -⟩ | ⟨-, rfl⟩⟩
      · omega
      · have HF := run.hid (HB.out.trans (hb2.mono HB.out.size))
        clear HA HB hb2 x0
        go_wp2
        go_ret
        exact ⟨by rw [HPL.out]; rfl, (HF.out.alloc HF.out.size _)⟩
    | succ k =>
      have HA := run.hid (HAT.out wr hbel k)
      have HB := run.hid hbel
      have hpk := HP.out.1 k
      rw [HBL.out k] at hpk
      have HPK := run.hid (hpl.symm.trans hpk)
      clear HAT HBL hbel HP hpl hpk
      go_wp2_with fail
      refine HA.out.mono ?_
      rintro e w2 ⟨hb2, ⟨k2, hk2, -, rfl⟩ | ⟨hno, -⟩⟩
      · obtain rfl : k = k2 := by omega
        have hbb := HB.out.trans (hb2.mono HB.out.size)
        have hpk := HPK.out
        clear HA HB hb2 x0 HPK hk2
        generalize dt k = q at *
        obtain ⟨qt, qw⟩ := q
        dsimp only at hpk ⊢
        have hcmp := toList_sp qt
        have hb3 := hbb.alloc hbb.size (.cells #[.string qt, .int .i64 (qw : Nat)] 74)
        by_cases hq : decide (qt = wrp.sp) = bl
        · rw [if_pos hq] at hpk
          rw [hq] at hcmp
          have HF := run.hid (And.intro hpk hb3)
          clear hpk hb3 hq hbb
          cases bl
          · go_wp2
            go_roundw
            case rel => exact ⟨k, by omega, by go_num, HF.out.1.symm, HF.out.2⟩
            case measure => simp [intOf]; omega
          · go_wp2
            go_roundw
            case rel => exact ⟨k, by omega, by go_num, HF.out.1.symm, HF.out.2⟩
            case measure => simp [intOf]; omega
        · rw [if_neg hq] at hpk
          have hq2 : decide (qt = wrp.sp) = !bl := by cases bl <;> cases h : decide (qt = wrp.sp) <;> simp_all
          rw [hq2] at hcmp
          have HF := run.hid (And.intro hpk hb3)
          clear hpk hb3 hq hbb hq2
          cases bl
          · go_wp2
            go_ret
            exact ⟨by rw [HF.out.1]; go_num, HF.out.2⟩
          · go_wp2
            go_ret
            exact ⟨by rw [HF.out.1]; go_num, HF.out.2⟩
      · omega
set_option maxRecDepth 100000 in
set_option maxHeartbeats 4000000 in
theorem past_right {b g lb : Nat} {F : List TV} {ca an : Int} {sv : Value} {dn : Int} {w : World} (h : Ed b g lb F ca an sv dn w) (bl : Bool) (c : Nat) (hc : c ≤ F.length) (hF : F.length ≤ 1048576) :
    Calls Try.prog 51 #[.pointer (some ⟨b, 0, none⟩), .int .i64 (c : Nat), .int .i64 1, .bool bl] w fun e w' => e = .returned (.int .i64 (pastR F bl (F.length - c) c : Nat)) ∧ Below w.heap.size w w' := by
  have HAT := run.hid (fun (X : World) (hX : Below w.heap.size w X) (i : Int) => at_any (h.below hX).gap i)
  have hblt := (Array.getElem?_eq_some_iff.1 h.box).1
  have c0 := blk_cell h.box 0
  change w.cell? _ = some (.pointer (some ⟨g, 0, none⟩)) at c0
  unfold AtIs at HAT
  obtain ⟨pl, hpl⟩ : ∃ pl : Nat → Nat, pl = fun k => pastR F bl (F.length - k) k := ⟨_, rfl⟩
  have HP := run.hid (show (∀ k, k < F.length → pl k = if blankAt F k = bl then pl (k + 1) else k) ∧ pl F.length = F.length from by
    rw [hpl]
    refine ⟨fun k hk => ?_, ?_⟩
    · show pastR F bl (F.length - k) k = if blankAt F k = bl then pastR F bl (F.length - (k + 1)) (k + 1) else k
      rw [show F.length - k = (F.length - (k + 1)) + 1 by omega]
      rfl
    · show pastR F bl (F.length - F.length) F.length = F.length
      rw [Nat.sub_self]
      rfl)
  rw [show pastR F bl (F.length - c) c = pl c from by rw [hpl]]
  clear hpl
  have HBL := run.hid (show ∀ k, blankAt F k = decide ((F.getD k tv0).1 = wrp.sp) from fun _ => rfl)
  clear h
  generalize hN : F.length = N at *
  generalize hdt : (fun k => F.getD k tv0) = dt at *
  have hdk : ∀ k, F.getD k tv0 = dt k := fun k => by rw [← hdt]
  simp only [hdk] at HAT HBL
  generalize blankAt F = ba at *
  clear hdt hdk hN
  go_enter Try.func51, Try.ntmps51
  go_wp2
  go_loopw [1] (fun vc wr => ∃ k : Nat, k ≤ N ∧ vc = .int .i64 k ∧ pl k = pl c ∧ Below w.heap.size w wr) (fun vc _ => ((N : Int) - intOf vc).toNat)
  case atStart => exact ⟨c, hc, rfl, rfl, Below.refl _ _⟩
  case round =>
    obtain ⟨k, hk, rfl, hpl, hbel⟩ := hrel
    have x0 := (hbel.cell (p := ⟨b, 0, none⟩) hblt).trans c0
    by_cases hkN : k < N
    · have HA := run.hid (HAT.out wr hbel k)
      have HB := run.hid hbel
      have hpk := HP.out.1 k hkN
      rw [HBL.out k] at hpk
      have HPK := run.hid (hpl.symm.trans hpk)
      clear HAT HBL hbel HP hpl hpk
      go_wp2_with fail
      refine HA.out.mono ?_
      rintro e w2 ⟨hb2, ⟨k2, hk2, -, rfl⟩ | ⟨hno, -⟩⟩
      · obtain rfl : k = k2 := by omega
        have hbb := HB.out.trans (hb2.mono HB.out.size)
        have hpk := HPK.out
        clear HA HB hb2 x0 HPK hk2
        generalize dt k = q at *
        obtain ⟨qt, qw⟩ := q
        dsimp only at hpk ⊢
        have hcmp := toList_sp qt
        have hb3 := hbb.alloc hbb.size (.cells #[.string qt, .int .i64 (qw : Nat)] 74)
        by_cases hq : decide (qt = wrp.sp) = bl
        · rw [if_pos hq] at hpk
          rw [hq] at hcmp
          have HF := run.hid (And.intro hpk hb3)
          clear hpk hb3 hq hbb
          cases bl
          · go_wp2
            go_roundw
            case rel => exact ⟨k + 1, by omega, by go_num, HF.out.1.symm, HF.out.2⟩
            case measure => simp [intOf]; omega
          · go_wp2
            go_roundw
            case rel => exact ⟨k + 1, by omega, by go_num, HF.out.1.symm, HF.out.2⟩
            case measure => simp [intOf]; omega
        · rw [if_neg hq] at hpk
          have hq2 : decide (qt = wrp.sp) = !bl := by cases bl <;> cases h : decide (qt = wrp.sp) <;> simp_all
          rw [hq2] at hcmp
          have HF := run.hid (And.intro hpk hb3)
          clear hpk hb3 hq hbb hq2
          cases bl
          · go_wp2
            go_ret
            exact ⟨by rw [HF.out.1]; go_num, HF.out.2⟩
          · go_wp2
            go_ret
            exact ⟨by rw [HF.out.1]; go_num, HF.out.2⟩
      · omega
    · obtain rfl : k = N := by omega
      have HA := run.hid (HAT.out wr hbel k)
      have HB := run.hid hbel
      have HPL := run.hid (hpl.symm.trans HP.out.2)
      clear HAT HBL hbel HP hpl
      go_wp2_with fail
      refine HA.out.mono ?_
      rintro e w2 ⟨hb2, ⟨k2, hk2, hk3, -⟩ | ⟨-, rfl⟩⟩
      · omega
      · have HF := run.hid (HB.out.trans (hb2.mono HB.out.size))
        clear HA HB hb2 x0
        go_wp2
        go_ret
        exact ⟨by rw [HPL.out]; rfl, (HF.out.alloc HF.out.size _)⟩
end Go.Proofs.Ytgpgbbbcodnieaa.ed
namespace Go.Proofs.Ytgpgbbbcodnieaa.ed
open Go Go.RowKit Go.Proofs
set_option linter.unusedVariables false
/-- where a way leads -/
def leadsT (F : List TV) (ca : Nat) (way : Int) : Option Nat :=
  if way = 0 then some (ca - 1) else if way = 1 then some (min (ca + 1) F.length)
  else if way = 2 then some (pastL F false (pastL F true ca))
  else if way = 3 then some (pastR F false (F.length - pastR F true (F.length - ca) ca) (pastR F true (F.length - ca) ca))
  else if way = 4 then some 0 else if way = 5 then some F.length else none
theorem leads_le {F : List TV} {ca : Nat} {way : Int} {tt : Nat} (h : leadsT F ca way = some tt) (hc : ca ≤ F.length) : tt ≤ F.length := by
  unfold leadsT at h
  split at h
  · simp only [Option.some.injEq] at h; omega
  · split at h
    · simp only [Option.some.injEq] at h; omega
    · split at h
      · simp only [Option.some.injEq] at h
        have := pastL_le F true ca
        have := pastL_le F false (pastL F true ca)
        omega
      · split at h
        · simp only [Option.some.injEq] at h
          have := pastR_le F true (F.length - ca) ca
          have := pastR_le F false (F.length - pastR F true (F.length - ca) ca) (pastR F true (F.length - ca) ca)
          omega
        · split at h
          · simp only [Option.some.injEq] at h; omega
          · split at h
            · simp only [Option.some.injEq] at h; omega
            · cases h
theorem gapLen_any {g lb : Nat} {F : List TV} {w : World} (h : GapOf g lb F w) : Calls Try.prog 49 #[.pointer (some ⟨g, 0, none⟩)] w fun e w' => e = .returned (.int .i64 (F.length : Nat)) ∧ Same w w' := by
  obtain ⟨n, cap, f, u, A, hG, hc, hn, hl⟩ := h
  have := edC.len_any hG (by omega)
  rw [hl] at this
  exact this
theorem Same.below {w w' : World} (h : Same w w') : Below w.heap.size w w' := ⟨h.os, h.tape, h.output, by rw [h.heap]; exact Nat.le_refl _, fun k _ => by rw [h.heap]⟩
def LeadsIs (F : List TV) (ca : Nat) (way : Int) (w : World) (e : Ending) (w' : World) : Prop :=
  Below w.heap.size w w' ∧ ((∃ tt, leadsT F ca way = some tt ∧ e = .returned (.tuple #[.int .i64 (tt : Nat), .bool true])) ∨ (leadsT F ca way = none ∧ e = .returned (.tuple #[.int .i64 0, .bool false])))
set_option maxRecDepth 100000 in
set_option maxHeartbeats 4000000 in
theorem leads_any {b g lb : Nat} {F : List TV} {ca : Nat} {an : Int} {sv : Value} {dn : Int} {w : World} (h : Ed b g lb F ca an sv dn w) (way : Int) (hc : ca ≤ F.length) (hF : F.length ≤ 1048576) :
    Calls Try.prog 41 #[.pointer (some ⟨b, 0, none⟩), .int .i64 way] w (LeadsIs F ca way w) := by
  have HLE := run.hid (fun (X : World) (hX : Below w.heap.size w X) => gapLen_any (h.below hX).gap)
  have HPL := run.hid (fun (X : World) (hX : Below w.heap.size w X) (bl : Bool) (c : Nat) (hc : c ≤ F.length) => past_left (h.below hX) bl c hc hF)
  have HPR := run.hid (fun (X : World) (hX : Below w.heap.size w X) (bl : Bool) (c : Nat) (hc : c ≤ F.length) => past_right (h.below hX) bl c hc hF)
  have hblt := (Array.getElem?_eq_some_iff.1 h.box).1
  have c0 := blk_cell h.box 0
  have c1 := blk_cell h.box 1
  change w.cell? _ = some (.pointer (some ⟨g, 0, none⟩)) at c0
  change w.cell? _ = some (.int .i64 (ca : Nat)) at c1
  have H1 := run.hid (pastL_le F true ca)
  have H2 := run.hid (pastR_le F true (F.length - ca) ca)
  have hd : ∀ v, leadsT F ca way = v → (LeadsIs F ca way w = fun e w' => Below w.heap.size w w' ∧ ((∃ tt, v = some tt ∧ e = .returned (.tuple #[.int .i64 (tt : Nat), .bool true])) ∨ (v = none ∧ e = .returned (.tuple #[.int .i64 0, .bool false])))) := by rintro v rfl; rfl
  clear h
  by_cases w0 : way = 0
  · subst w0
    rw [hd (some (ca - 1)) rfl]
    have hmx : max ((ca : Int) - 1) 0 = ((ca - 1 : Nat) : Int) := by omega
    clear hd HLE HPL HPR H1 H2
    have hcb : ca ≤ 1048576 := by omega
    generalize ca - 1 = r at *
    go_enter Try.func41, Try.ntmps41
    go_wp2
    go_ret2
    exact ⟨Below.refl _ _, .inl ⟨_, rfl, by rw [← hmx]; rfl⟩⟩
  by_cases w1 : way = 1
  · subst w1
    rw [hd (some (min (ca + 1) F.length)) rfl]
    have HLQ : ∀ d os, Calls Try.prog 49 #[.pointer (some ⟨g, 0, none⟩)] (Sort.grow (redrawn w d) os) fun e w'' => e = .returned (.int .i64 (F.length : Nat)) ∧ ∃ p : Regrown, w'' = Sort.grow (redrawn w p.d) p.os := fun d os => Calls.regrown_of ((HLE.out _ (below_regrown w d os)).mono (fun e w' h => ⟨h.1, h.2.below⟩))
    have hmx : min (IntKind.i64.wrap ((ca : Int) + 1)) (F.length : Int) = ((min (ca + 1) F.length : Nat) : Int) := by rw [IntWalk.i64_in _ (by omega)]; omega
    have hcb : ca ≤ 1048576 := by omega
    have q0 := fun d os => cell_regrown c0 d os
    have q1 := fun d os => cell_regrown c1 d os
    have HL := run.hid HLQ
    clear hd HLE HPL HPR H1 H2 HLQ
    generalize min (ca + 1) F.length = r at *
    generalize F.length = N at *
    go_enter Try.func41, Try.ntmps41
    go_upto_region 5 with fail
    refine wp_region_quiet_below (by kernel_rfl) (by kernel_rfl) ?_
    repeat (quiet_step (exact HL.out _ _))
    refine wpQuiet_nil ?_
    intro _ hw'
    obtain ⟨⟨dq, osq⟩, hw''⟩ := hw'
    subst hw''
    go_wp2
    go_ret2
    exact ⟨below_regrown _ _ _, .inl ⟨_, rfl, by rw [← hmx]; rfl⟩⟩
  by_cases w2 : way = 2
  · subst w2
    rw [hd (some (pastL F false (pastL F true ca))) rfl]
    have HA := run.hid (HPL.out w (Below.refl _ _) true ca hc)
    have HB := run.hid (fun X hX => HPL.out X hX false (pastL F true ca) (by have := H1.out; omega))
    clear hd HLE HPL HPR H1 H2
    generalize pastL F false (pastL F true ca) = r at *
    generalize pastL F true ca = r1 at *
    go_enter Try.func41, Try.ntmps41
    go_wp2_with fail
    refine HA.out.mono ?_
    rintro e w3 ⟨rfl, hb3⟩
    have HB3 := run.hid (HB.out w3 hb3)
    have HBL := run.hid hb3
    clear HA HB hb3
    go_wp2_with fail
    refine HB3.out.mono ?_
    rintro e w4 ⟨rfl, hb4⟩
    have HF := run.hid (HBL.out.trans (hb4.mono HBL.out.size))
    clear HB3 hb4
    go_wp2
    go_ret2
    exact ⟨HF.out, .inl ⟨_, rfl, rfl⟩⟩
  by_cases w3 : way = 3
  · subst w3
    rw [hd (some (pastR F false (F.length - pastR F true (F.length - ca) ca) (pastR F true (F.length - ca) ca))) rfl]
    have HA := run.hid (HPR.out w (Below.refl _ _) true ca hc)
    have HB := run.hid (fun X hX => HPR.out X hX false (pastR F true (F.length - ca) ca) (by have := H2.out; omega))
    clear hd HLE HPL HPR H1 H2
    generalize pastR F false (F.length - pastR F true (F.length - ca) ca) (pastR F true (F.length - ca) ca) = r at *
    generalize pastR F true (F.length - ca) ca = r1 at *
    go_enter Try.func41, Try.ntmps41
    go_wp2_with fail
    refine HA.out.mono ?_
    rintro e w3 ⟨rfl, hb3⟩
    have HB3 := run.hid (HB.out w3 hb3)
    have HBL := run.hid hb3
    clear HA HB hb3
    go_wp2_with fail
    refine HB3.out.mono ?_
    rintro e w4 ⟨rfl, hb4⟩
    have HF := run.hid (HBL.out.trans (hb4.mono HBL.out.size))
    clear HB3 hb4
    go_wp2
    go_ret2
    exact ⟨HF.out, .inl ⟨_, rfl, rfl⟩⟩
  by_cases w4 : way = 4
  · subst w4
    rw [hd (some 0) rfl]
    clear hd HLE HPL HPR H1 H2
    go_enter Try.func41, Try.ntmps41
    go_wp2
    go_ret2
    exact ⟨Below.refl _ _, .inl ⟨_, rfl, rfl⟩⟩
  by_cases w5 : way = 5
  · subst w5
    rw [hd (some F.length) rfl]
    have HA := run.hid (HLE.out w (Below.refl _ _))
    clear hd HLE HPL HPR H1 H2
    generalize F.length = N at *
    go_enter Try.func41, Try.ntmps41
    go_wp2_with fail
    refine HA.out.mono ?_
    rintro e w3 ⟨rfl, hs3⟩
    have HF := run.hid hs3.below
    clear HA hs3
    go_wp2
    go_ret2
    exact ⟨HF.out, .inl ⟨_, rfl, rfl⟩⟩
  · rw [hd none (by unfold leadsT; simp [w0, w1, w2, w3, w4, w5])]
    clear hd HLE HPL HPR H1 H2
    go_enter Try.func41, Try.ntmps41
    go_wp2
    go_ret2
    exact ⟨Below.refl _ _, .inr ⟨trivial, rfl⟩⟩
end Go.Proofs.Ytgpgbbbcodnieaa.ed
namespace Go.Proofs.Ytgpgbbbcodnieaa.ed
open Go Go.RowKit Go.Proofs
set_option linter.unusedVariables false
/-- what is marked -/
def mkT (an : Int) (ca : Nat) : Nat × Nat := if an < 0 then (ca, ca) else (min an.toNat ca, max an.toNat ca)
set_option maxRecDepth 100000 in
set_option maxHeartbeats 4000000 in
theorem marked_any {b g lb : Nat} {F : List TV} {ca : Nat} {an : Int} {sv : Value} {dn : Int} {w : World} (h : Ed b g lb F ca an sv dn w) :
    Calls Try.prog 14 #[.pointer (some ⟨b, 0, none⟩)] w fun e w' => e = .returned (.tuple #[.int .i64 ((mkT an ca).1 : Nat), .int .i64 ((mkT an ca).2 : Nat)]) ∧ Same w w' := by
  have c1 := blk_cell h.box 1
  have c2 := blk_cell h.box 2
  change w.cell? _ = some (.int .i64 (ca : Nat)) at c1
  change w.cell? _ = some (.int .i64 an) at c2
  clear h
  by_cases hn : an < 0
  · have e : mkT an ca = (ca, ca) := by unfold mkT; rw [if_pos hn]
    rw [e]
    clear e
    go_enter Try.func14, Try.ntmps14
    go_upto_region 4 with fail
    go_quiet (fail)
    go_wp2
    go_ret2
    exact ⟨rfl, ⟨rfl, rfl, rfl, rfl⟩⟩
  · obtain ⟨k, rfl⟩ : ∃ k : Nat, an = k := ⟨an.toNat, by omega⟩
    have e : mkT k ca = (min k ca, max k ca) := by unfold mkT; rw [if_neg hn, Int.toNat_natCast]
    rw [e]
    have hm1 : min (k : Int) (ca : Int) = ((min k ca : Nat) : Int) := by omega
    have hm2 : max (k : Int) (ca : Int) = ((max k ca : Nat) : Int) := by omega
    clear e
    generalize min k ca = p at *
    generalize max k ca = q at *
    go_enter Try.func14, Try.ntmps14
    go_upto_region 5 with fail
    go_region
    go_wp2
    go_ret2
    exact ⟨by rw [← hm1, ← hm2]; rfl, ⟨rfl, rfl, rfl, rfl⟩⟩
/-- where Go leads the anchor -/
def anT (an : Int) (ca : Nat) (m : Bool) : Int := if m then (if an < 0 then (ca : Int) else an) else -1
def goT (s : Sta) (way : Int) (m : Bool) : Bool × Sta :=
  match leadsT s.F s.ca way with
  | none => (false, s)
  | some tt => (!decide (s.ca = tt) || !decide ((mkT s.an s.ca).1 = (mkT (anT s.an s.ca m) tt).1) || !decide ((mkT s.an s.ca).2 = (mkT (anT s.an s.ca m) tt).2), ⟨s.F, tt, anT s.an s.ca m, s.L, s.dn⟩)
theorem Ed.same {b g lb : Nat} {F : List TV} {ca an : Int} {sv : Value} {dn : Int} {w w' : World} (h : Ed b g lb F ca an sv dn w) (hs : Same w w') : Ed b g lb F ca an sv dn w' := h.below hs.below
theorem bne_cast (a b : Nat) : ((a : Int) != (b : Int)) = !decide (a = b) := by
  by_cases h : a = b
  · subst h; simp
  · have h2 : (a : Int) ≠ b := by omega
    rw [decide_eq_false h, bne_iff_ne.2 h2]
    rfl
/-- the carets are put -/
theorem Ed.carets {b g lb : Nat} {F : List TV} {ca an : Int} {sv : Value} {dn : Int} {w : World} (h : Ed b g lb F ca an sv dn w) (ca' an' : Int) : Ed b g lb F ca' an' sv dn ((w.setCell ⟨b, 2, none⟩ (.int .i64 an')).setCell ⟨b, 1, none⟩ (.int .i64 ca')) ∧ Kept (fun x => x = b) w ((w.setCell ⟨b, 2, none⟩ (.int .i64 an')).setCell ⟨b, 1, none⟩ (.int .i64 ca')) := by
  obtain ⟨n, cap, f, u, A, hG, hr⟩ := h.gap
  have hkk : Kept (fun x => x = b) w ((w.setCell ⟨b, 2, none⟩ (.int .i64 an')).setCell ⟨b, 1, none⟩ (.int .i64 ca')) := Kept.setCell (b := b) (i := 1) (Kept.setCell (b := b) (i := 2) (Kept.refl (fun x => x = b) w) (.inl rfl) _) (.inl rfl) _
  exact ⟨⟨heap_setCell_same _ _ 1 _ _ _ (heap_setCell_same _ _ 2 _ _ _ h.box), ⟨n, cap, f, u, A, hG.kept hkk h.bg.symm h.bl.symm, hr⟩, h.bg, h.bl⟩, hkk⟩
theorem Ed.caret {b g lb : Nat} {F : List TV} {ca an : Int} {sv : Value} {dn : Int} {w : World} (h : Ed b g lb F ca an sv dn w) (ca' : Int) : Ed b g lb F ca' an sv dn (w.setCell ⟨b, 1, none⟩ (.int .i64 ca')) ∧ Kept (fun x => x = b) w (w.setCell ⟨b, 1, none⟩ (.int .i64 ca')) := by
  obtain ⟨n, cap, f, u, A, hG, hr⟩ := h.gap
  have hkk : Kept (fun x => x = b) w (w.setCell ⟨b, 1, none⟩ (.int .i64 ca')) := Kept.setCell (b := b) (i := 1) (Kept.refl (fun x => x = b) w) (.inl rfl) _
  exact ⟨⟨heap_setCell_same _ _ 1 _ _ _ h.box, ⟨n, cap, f, u, A, hG.kept hkk h.bg.symm h.bl.symm, hr⟩, h.bg, h.bl⟩, hkk⟩
set_option maxRecDepth 100000 in
set_option maxHeartbeats 4000000 in
theorem go_any {S : Nat → Prop} {b g lb : Nat} {s : Sta} {w : World} (h : EdS S b g lb s w) (way : Int) (m : Bool) (hc : s.ca ≤ s.F.length) (hF : s.F.length ≤ 1048576) :
    Calls Try.prog 18 #[.pointer (some ⟨b, 0, none⟩), .int .i64 way, .bool m] w fun e w' => e = .returned (.bool (goT s way m).1) ∧ After S b g lb (goT s way m).2 w w' := by
  have HST := run.hid (fun (X : World) (hX : Kept (fun _ => False) w X) => After.stay h hX)
  obtain ⟨⟨sv, hE, hS⟩, sb, sg, sl⟩ := h
  obtain ⟨F, ca, an, L, dn⟩ := s
  dsimp only at hE hS hc hF HST
  have HLD := run.hid (leads_any hE way hc hF)
  unfold LeadsIs at HLD
  have HG := run.hid (show (∀ tt, leadsT F ca way = some tt → goT ⟨F, ca, an, L, dn⟩ way m = (!decide (ca = tt) || !decide ((mkT an ca).1 = (mkT (anT an ca m) tt).1) || !decide ((mkT an ca).2 = (mkT (anT an ca m) tt).2), ⟨F, tt, anT an ca m, L, dn⟩)) ∧ (leadsT F ca way = none → goT ⟨F, ca, an, L, dn⟩ way m = (false, ⟨F, ca, an, L, dn⟩)) from by
    unfold goT
    exact ⟨fun tt h => by rw [h], fun h => by rw [h]⟩)
  have HE := run.hid (fun (X : World) (hX : Below w.heap.size w X) => hE.below hX)
  have HTU := run.hid (fun (tt : Nat) (an' : Int) (X : World) (hX : Ed b g lb F (tt : Nat) an' sv (dn : Nat) X) (hk : Kept (Own b g lb) w X) => After.turned (ca := tt) (an := an') (dn := dn) (w := w) hS sb sg sl hX (.inl rfl) hk)
  clear hE hS sb sg sl
  generalize hgo : goT ⟨F, ca, an, L, dn⟩ way m = G at *
  generalize hld : leadsT F ca way = ld at *
  clear hgo hld
  go_enter Try.func18, Try.ntmps18
  go_wp2_with fail
  refine HLD.out.mono ?_
  rintro e w1 ⟨hb1, ⟨tt, rfl, rfl⟩ | ⟨rfl, rfl⟩⟩
  · have hE1 := HE.out w1 hb1
    have HM := run.hid (marked_any hE1)
    have HE1 := run.hid (And.intro hE1 hb1)
    have HG1 := run.hid (HG.out.1 tt rfl)
    clear hE1 hb1 HLD HST HE HG
    go_wp2_with fail
    refine HM.out.mono ?_
    rintro e w2 ⟨rfl, hs2⟩
    have hE2 := HE1.out.1.same hs2
    have hb2 := HE1.out.2.trans (hs2.below.mono HE1.out.2.size)
    have c1 := blk_cell hE2.box 1
    have c2 := blk_cell hE2.box 2
    change w2.cell? _ = some (.int .i64 (ca : Nat)) at c1
    change w2.cell? _ = some (.int .i64 an) at c2
    have f1 := blk_free hE2.box 1
    have f2 := blk_free hE2.box 2
    have hg := HG1.out
    have HB2 := run.hid hb2
    clear HM HE1 HG1 hs2 hb2
    generalize mkT an ca = mk0 at *
    obtain ⟨ma, mb⟩ := mk0
    dsimp only at hg ⊢
    cases m with
    | false =>
      change G = (!decide (ca = tt) || !decide (ma = (mkT (-1) tt).1) || !decide (mb = (mkT (-1) tt).2), ⟨F, tt, -1, L, dn⟩) at hg
      obtain ⟨hE3, hk3⟩ := hE2.carets (tt : Nat) (-1)
      have HM3 := run.hid (marked_any hE3)
      have HG2 := run.hid hg
      have HE3 := run.hid (And.intro hE3 hk3)
      clear hE3 hk3 hE2 hg
      generalize mkT (-1) tt = mk1 at *
      obtain ⟨mc, md⟩ := mk1
      dsimp only at HG2 HM3
      go_wp2_with fail
      refine HM3.out.mono ?_
      rintro e w4 ⟨rfl, hs4⟩
      have hE4 := HE3.out.1.same hs4
      have hk4 := ((Kept.of_below (S := Own b g lb) HB2.out).trans (HE3.out.2.more (S' := Own b g lb) (fun k _ h => .inl h)) (fun _ _ h => h)).trans (Kept.of_below (S := Own b g lb) hs4.below) (fun _ _ h => h)
      have HF := run.hid (HTU.out tt (-1) w4 hE4 hk4)
      clear HM3 HE3 HB2 HTU hE4 hk4 hs4 c1 c2 f1 f2
      go_wp2
      all_goals
        go_ret
        rw [HG2.out]
        refine ⟨congrArg (fun x => Ending.returned (Value.bool x)) ?_, HF.out⟩
        clear HF HG2
        simp only [Int.natCast_inj] at *
        simp_all [bne_cast]
    | true =>
      by_cases hn : an < 0
      · have ha : anT an ca true = (ca : Int) := by unfold anT; rw [if_pos rfl, if_pos hn]
        rw [ha] at hg
        obtain ⟨hE3, hk3⟩ := hE2.carets (tt : Nat) (ca : Nat)
        have HM3 := run.hid (marked_any hE3)
        have HG2 := run.hid hg
        have HE3 := run.hid (And.intro hE3 hk3)
        have hnb := (blk_cell (heap_setCell_same w2 b 2 _ _ (.int .i64 (ca : Nat)) hE2.box) 1)
        clear hE3 hk3 hE2 hg ha
        generalize mkT (ca : Int) tt = mk1 at *
        obtain ⟨mc, md⟩ := mk1
        dsimp only at HG2 HM3
        go_wp2_with fail
        refine HM3.out.mono ?_
        rintro e w4 ⟨rfl, hs4⟩
        have hE4 := HE3.out.1.same hs4
        have hk4 := ((Kept.of_below (S := Own b g lb) HB2.out).trans (HE3.out.2.more (S' := Own b g lb) (fun k _ h => .inl h)) (fun _ _ h => h)).trans (Kept.of_below (S := Own b g lb) hs4.below) (fun _ _ h => h)
        have HF := run.hid (HTU.out tt (ca : Nat) w4 hE4 hk4)
        clear HM3 HE3 HB2 HTU hE4 hk4 hs4 c1 c2 f1 f2 hnb
        go_wp2
        all_goals
          go_ret
          rw [HG2.out]
          refine ⟨congrArg (fun x => Ending.returned (Value.bool x)) ?_, HF.out⟩
          clear HF HG2
          simp only [Int.natCast_inj] at *
          simp_all [bne_cast]
      · have ha : anT an ca true = an := by unfold anT; rw [if_pos rfl, if_neg hn]
        rw [ha] at hg
        obtain ⟨hE3, hk3⟩ := hE2.caret (tt : Nat)
        have HM3 := run.hid (marked_any hE3)
        have HG2 := run.hid hg
        have HE3 := run.hid (And.intro hE3 hk3)
        clear hE3 hk3 hE2 hg ha
        generalize mkT an tt = mk1 at *
        obtain ⟨mc, md⟩ := mk1
        dsimp only at HG2 HM3
        go_wp2_with fail
        refine HM3.out.mono ?_
        rintro e w4 ⟨rfl, hs4⟩
        have hE4 := HE3.out.1.same hs4
        have hk4 := ((Kept.of_below (S := Own b g lb) HB2.out).trans (HE3.out.2.more (S' := Own b g lb) (fun k _ h => .inl h)) (fun _ _ h => h)).trans (Kept.of_below (S := Own b g lb) hs4.below) (fun _ _ h => h)
        have HF := run.hid (HTU.out tt an w4 hE4 hk4)
        clear HM3 HE3 HB2 HTU hE4 hk4 hs4 c1 c2 f1 f2
        go_wp2
        all_goals
          go_ret
          rw [HG2.out]
          refine ⟨congrArg (fun x => Ending.returned (Value.bool x)) ?_, HF.out⟩
          clear HF HG2
          simp only [Int.natCast_inj] at *
          simp_all [bne_cast]
  · have HF := run.hid (HST.out w1 (Kept.of_below hb1))
    have HG1 := run.hid (HG.out.2 rfl)
    clear HLD HST HE HG HTU hb1
    go_wp2
    go_ret
    rw [HG1.out]
    exact ⟨rfl, HF.out⟩
end Go.Proofs.Ytgpgbbbcodnieaa.ed
namespace Go.Proofs.Ytgpgbbbcodnieaa.ed
open Go Go.RowKit Go.Proofs
set_option linter.unusedVariables false
/-- where a stretch of a slice begins -/
def cutAt (k : Nat) (a : Option Addr) (cap lo : Nat) : Option Addr :=
  match a with
  | none => none
  | some p => some ⟨p.block, p.off + (if cap = lo then 0 else lo * k), none⟩
/-- a slice's address -/
def Adr (a : Option Addr) (cap : Nat) : Prop := (a = none ∧ cap = 0) ∨ ∃ b off, a = some ⟨b, off, none⟩
theorem Src.adr {k : Nat} {w : World} {a : Option Addr} {m c : Nat} {cs : List Value} (h : Src k w a m c cs) : Adr a c := by
  rcases h.at' with ⟨h1, -, h2⟩ | ⟨b, off, h1, -⟩
  · exact .inl ⟨h1, h2⟩
  · exact .inr ⟨b, off, h1⟩
section
variable {P : Program} {o : Oper} {ρ : Operand → Value} {w : World} {p q q' : Operand} {a : Option Addr} {len cap i j size : Nat} {t e : TypeId} {it : TypeInfo}
theorem run_partA (ho : o.op = .slice t p (some q) (some q') none) (hx : ρ p = .slice a len cap) (hy : ρ q = .int .i64 (i : Nat)) (hy' : ρ q' = .int .i64 (j : Nat)) (ha : Adr a cap) (hi : i ≤ j) (hj : j ≤ cap) (ht : P.underlying t = some (.slice e)) (hs : P.info? e = some it) (hz : it.size = size) :
    (execOp ρ o).run P w = .ok (.value (.slice (cutAt size a cap i) (j - i) (cap - i))) w := by
  unfold execOp
  simp only [ho, hx]
  rw [show (Instr.sliceAt t (.slice a len cap) (Option.map ρ (some q)) (Option.map ρ (some q')) (Option.map ρ none)) = Instr.sliceAt t (.slice a len cap) (some (.int .i64 (i : Nat))) (some (.int .i64 (j : Nat))) none by simp [hy, hy']]
  have h1 : (0 : Int) ≤ ((j : Nat) : Int) ∧ ((j : Nat) : Int) ≤ (cap : Int) := by omega
  have h2 : (0 : Int) ≤ ((i : Nat) : Int) ∧ ((i : Nat) : Int) ≤ (j : Int) := by omega
  simp only [Instr.sliceAt, Instr.slice, Instr.sliceBounds, Instr.sliceBound, run_underlying ht, asIntOf, Sem.run_bind, Sem.run_pure, Result.andThen_ok, h1, if_true, h2, Int.toNat_natCast, and_self]
  rcases ha with ⟨rfl, rfl⟩ | ⟨b, off, rfl⟩
  · have : j = 0 := by omega
    subst this
    have : i = 0 := by omega
    subst this
    simp [sizeOf, typeInfo, hs, hz, cutAt, go_sem]
  · simp [sizeOf, typeInfo, hs, hz, cutAt, go_sem, Addr.add]
    by_cases hci : cap = i
    · rw [if_pos hci, if_pos hci]; rfl
    · rw [if_neg hci, if_neg hci]
      split
      · rename_i h0; rw [h0]; rfl
      · rfl
/-- up to a place, the room cut too -/
theorem run_headA {q3 : Operand} (ho : o.op = .slice t p none (some q) (some q3)) (hx : ρ p = .slice a len cap) (hy : ρ q = .int .i64 (j : Nat)) (hy' : ρ q3 = .int .i64 (j : Nat)) (ha : Adr a cap) (hj : j ≤ cap) (ht : P.underlying t = some (.slice e)) (hs : P.info? e = some it) (hz : it.size = size) :
    (execOp ρ o).run P w = .ok (.value (.slice a j j)) w := by
  unfold execOp
  simp only [ho, hx]
  rw [show (Instr.sliceAt t (.slice a len cap) (Option.map ρ none) (Option.map ρ (some q)) (Option.map ρ (some q3))) = Instr.sliceAt t (.slice a len cap) none (some (.int .i64 (j : Nat))) (some (.int .i64 (j : Nat))) by simp [hy, hy']]
  have h1 : (0 : Int) ≤ ((j : Nat) : Int) ∧ ((j : Nat) : Int) ≤ (cap : Int) := by omega
  simp only [Instr.sliceAt, Instr.slice, Instr.sliceBounds, Instr.sliceBound, run_underlying ht, asIntOf, Sem.run_bind, Sem.run_pure, Result.andThen_ok, h1, if_true, Int.toNat_natCast, and_self]
  rcases ha with ⟨rfl, rfl⟩ | ⟨b, off, rfl⟩
  · have : j = 0 := by omega
    subst this
    simp [sizeOf, typeInfo, hs, hz, go_sem, Addr.add]
  · simp [sizeOf, typeInfo, hs, hz, go_sem, Addr.add]
end
/-- a stretch of a row that is read -/
theorem src_cut {w : World} {a : Option Addr} {n c : Nat} {F : List TV} (h : Src 2 w a n c (cellsT F)) (hn : F.length = n) {lo hi : Nat} (h1 : lo ≤ hi) (h2 : hi ≤ n) (hnc : n ≤ c) : Src 2 w (cutAt 2 a c lo) (hi - lo) (c - lo) (cellsT ((F.drop lo).take (hi - lo))) := by
  have hlen : ((F.drop lo).take (hi - lo)).length = hi - lo := by rw [List.length_take, List.length_drop]; omega
  refine ⟨by rw [cellsT_length, hlen], cellsT_one _, ?_⟩
  rcases h.at' with ⟨rfl, h0, hc⟩ | ⟨b, off, rfl, hlt, hcell⟩
  · exact .inl ⟨rfl, by omega, by omega⟩
  · refine .inr ⟨b, off + (if c = lo then 0 else lo * 2), rfl, hlt, fun j v hj => ?_⟩
    have hjl : j < (hi - lo) * 2 := by
      have := (List.getElem?_eq_some_iff.1 hj).1
      rw [cellsT_length, hlen] at this
      exact this
    rw [if_neg (by omega), show off + lo * 2 + j = off + (lo * 2 + j) by omega]
    refine hcell _ _ ?_
    rw [← cellsT_take (F.drop lo) (hi - lo) (by rw [List.length_drop]; omega), List.getElem?_take_of_lt hjl, ← cellsT_drop F (by omega), List.getElem?_drop] at hj
    exact hj
/-- such a stretch lies where the row lies -/
theorem cutAt_blk {k : Nat} {a : Option Addr} {c lo b off : Nat} (h : cutAt k a c lo = some ⟨b, off, none⟩) : ∃ off', (a = some ⟨b, off', none⟩ ∨ ∃ x, a = some ⟨b, off', x⟩) := by
  cases a with
  | none => cases h
  | some p =>
    obtain ⟨b', off', x⟩ := p
    simp only [cutAt, Option.some.injEq, Addr.mk.injEq] at h
    obtain ⟨rfl, -, -⟩ := h
    exact ⟨off', .inr ⟨x, rfl⟩⟩
section
variable {o : Oper} {ρ : Operand → Value} {w : World} {p q r s t u : Operand}
abbrev zeroStep : Obj := .cells #[.int .i64 0, .slice none 0 0, .slice none 0 0, .int .i64 0, .int .i64 0] 94
theorem run_build5 {x1 x4 x5 : Int} {a2 a3 : Option Addr} {n2 c2 n3 c3 : Nat} (ho : o.op = .build 94 #[(0, p), (1, q), (2, r), (3, s), (4, t)]) (hp : ρ p = .int .i64 x1) (hq : ρ q = .slice a2 n2 c2) (hr : ρ r = .slice a3 n3 c3) (hs : ρ s = .int .i64 x4) (ht : ρ t = .int .i64 x5) : (execOp ρ o).run Try.prog w = .ok (.value (.agg #[.int .i64 x1, .slice a2 n2 c2, .slice a3 n3 c3, .int .i64 x4, .int .i64 x5])) w := by
  unfold execOp
  simp only [ho]
  simp [hp, hq, hr, hs, ht, go_sem]
theorem run_alloc5 (ho : o.op = .alloc 94) : (execOp ρ o).run Try.prog w = .ok (.value (.pointer (some ⟨w.heap.size, 0, none⟩))) (w.alloc zeroStep) := by
  unfold execOp
  simp only [ho]
  simp [go_sem]
theorem run_store5 {x1 x4 x5 : Int} {a2 a3 : Option Addr} {n2 c2 n3 c3 : Nat} (ho : o.op = .store 94 p q) (hp : ρ p = .pointer (some ⟨w.heap.size, 0, none⟩)) (hq : ρ q = .agg #[.int .i64 x1, .slice a2 n2 c2, .slice a3 n3 c3, .int .i64 x4, .int .i64 x5]) :
    (execOp ρ o).run Try.prog (w.alloc zeroStep) = .ok .skip (w.alloc (.cells #[.int .i64 x1, .slice a2 n2 c2, .slice a3 n3 c3, .int .i64 x4, .int .i64 x5] 94)) := by
  unfold execOp zeroStep
  simp only [ho, hp, hq]
  simp [go_sem]
end
end Go.Proofs.Ytgpgbbbcodnieaa.ed
namespace Go.Proofs.Ytgpgbbbcodnieaa.ed
open Go Go.RowKit Go.Proofs
set_option linter.unusedVariables false
theorem StepAt.cells {S : Nat → Prop} {x : St} {sb off : Nat} {w : World} (h : StepAt S x sb off w) : ∀ r, r < 5 → ∃ v, w.cell? ⟨sb, off + r, none⟩ = some v ∧ v.oneCell' = true := by
  obtain ⟨A, out, inn, Z, oa, oc, ia, ic, e1, e2, c0, c1, c2, c3, c4, r1, r2⟩ := h
  intro r hr
  match r, hr with
  | 0, _ => exact ⟨_, c0, rfl⟩
  | 1, _ => exact ⟨_, c1, rfl⟩
  | 2, _ => exact ⟨_, c2, rfl⟩
  | 3, _ => exact ⟨_, c3, rfl⟩
  | 4, _ => exact ⟨_, c4, rfl⟩
theorem StepAt.moved {S S1 S' : Nat → Prop} {x : St} {sb off kb offb : Nat} {w w' : World} (h : StepAt S x sb off w) (hc : ∀ r v, r < 5 → w.cell? ⟨sb, off + r, none⟩ = some v → w'.cell? ⟨kb, offb + r, none⟩ = some v) (hk : Kept S1 w w') (h1 : ∀ k, S1 k → S k) (h2 : ∀ k, S' k → S k ∨ w.heap.size ≤ k) : StepAt S' x kb offb w' := by
  obtain ⟨A, out, inn, Z, oa, oc, ia, ic, e1, e2, c0, c1, c2, c3, c4, r1, r2⟩ := h
  exact ⟨A, out, inn, Z, oa, oc, ia, ic, e1, e2, hc 0 _ (by omega) c0, hc 1 _ (by omega) c1, hc 2 _ (by omega) c2, hc 3 _ (by omega) c3, hc 4 _ (by omega) c4, r1.kept hk h1 h2, r2.kept hk h1 h2⟩
theorem steps_olds {S : Nat → Prop} {sb off : Nat} {L : List St} {w : World} (hat : ∀ j x, L[j]? = some x → StepAt S x sb (off + j * 5) w) : ∀ n, n ≤ L.length → ∃ olds : List Value, olds.length = n * 5 ∧ (∀ j v, olds[j]? = some v → w.cell? ⟨sb, off + j, none⟩ = some v) ∧ ∀ v ∈ olds, v.oneCell' = true
  | 0, _ => ⟨[], rfl, fun j v h => by simp at h, fun v h => by cases h⟩
  | n + 1, hn => by
    obtain ⟨olds, hl, hc, h1⟩ := steps_olds hat n (by omega)
    obtain ⟨x, hx⟩ : ∃ x, L[n]? = some x := ⟨L[n], List.getElem?_eq_getElem (by omega)⟩
    have hs := hat n x hx
    obtain ⟨v0, a0, b0⟩ := hs.cells 0 (by omega)
    obtain ⟨v1, a1, b1⟩ := hs.cells 1 (by omega)
    obtain ⟨v2, a2, b2⟩ := hs.cells 2 (by omega)
    obtain ⟨v3, a3, b3⟩ := hs.cells 3 (by omega)
    obtain ⟨v4, a4, b4⟩ := hs.cells 4 (by omega)
    refine ⟨olds ++ [v0, v1, v2, v3, v4], by rw [List.length_append, hl]; simp; omega, fun j v hj => ?_, fun v hv => ?_⟩
    · rcases Nat.lt_or_ge j olds.length with h | h
      · rw [List.getElem?_append_left h] at hj
        exact hc j v hj
      · rw [List.getElem?_append_right h, hl] at hj
        have hlt := (List.getElem?_eq_some_iff.1 hj).1
        simp only [List.length_cons, List.length_nil] at hlt
        obtain ⟨r, hr⟩ : ∃ r, r = j - n * 5 := ⟨_, rfl⟩
        rw [← hr] at hj hlt
        rw [show off + j = off + n * 5 + r by omega]
        match r, hlt with
        | 0, _ => simp only [List.getElem?_cons_zero, Option.some.injEq] at hj; subst hj; exact a0
        | 1, _ => simp only [List.getElem?_cons_succ, List.getElem?_cons_zero, Option.some.injEq] at hj; subst hj; exact a1
        | 2, _ => simp only [List.getElem?_cons_succ, List.getElem?_cons_zero, Option.some.injEq] at hj; subst hj; exact a2
        | 3, _ => simp only [List.getElem?_cons_succ, List.getElem?_cons_zero, Option.some.injEq] at hj; subst hj; exact a3
        | 4, _ => simp only [List.getElem?_cons_succ, List.getElem?_cons_zero, Option.some.injEq] at hj; subst hj; exact a4
    · rcases List.mem_append.1 hv with h | h
      · exact h1 v h
      · simp only [List.mem_cons, List.not_mem_nil, or_false] at h
        rcases h with rfl | rfl | rfl | rfl | rfl
        · exact b0
        · exact b1
        · exact b2
        · exact b3
        · exact b4
theorem info_change : (Try.prog.info? 94).map (fun i => (i.zero, i.size, i.bytes)) = some (some (.agg #[.int .i64 0, .slice none 0 0, .slice none 0 0, .int .i64 0, .int .i64 0]), 5, 72) := by kernel_rfl
/-- the append, whatever lies ahead -/
theorem steps_append {S : Nat → Prop} {sv : Value} {L : List St} {w : World} (h : StepsAt S sv L w) {dn : Nat} (hdn : dn ≤ L.length) (hsm : dn ≤ 4096) {S1 : Nat → Prop} {wq : World} (hq : Kept S1 w wq) (h1 : ∀ k, S1 k → S k)
    {kb : Nat} {x1 x4 x5 : Int} {a2 a3 : Option Addr} {n2 c2 n3 c3 : Nat} (hkb : wq.heap[kb]? = some (.cells #[.int .i64 x1, .slice a2 n2 c2, .slice a3 n3 c3, .int .i64 x4, .int .i64 x5] 94 (0, 0))) (ty : TypeId) :
    ∃ a c0 cap' w6, sv = .slice a L.length c0 ∧ L.length ≤ c0 ∧ Adr a c0 ∧ (Builtin.append_ #[70, 70] ty #[.slice a dn dn, .slice (some ⟨kb, 0, none⟩) 1 1]).run Try.prog wq = .ok (.slice (some ⟨wq.heap.size, 0, none⟩) (dn + 1) cap') w6 ∧ dn + 1 ≤ cap' ∧ Kept (fun _ => False) wq w6 ∧ w6.heap.size = wq.heap.size + 1 ∧
      (∀ (S' : Nat → Prop), (∀ k, S' k → S k ∨ w.heap.size ≤ k) → ∀ j x, (L.take dn)[j]? = some x → StepAt S' x wq.heap.size (j * 5) w6) ∧
      w6.cell? ⟨wq.heap.size, dn * 5, none⟩ = some (.int .i64 x1) ∧ w6.cell? ⟨wq.heap.size, dn * 5 + 1, none⟩ = some (.slice a2 n2 c2) ∧ w6.cell? ⟨wq.heap.size, dn * 5 + 2, none⟩ = some (.slice a3 n3 c3) ∧ w6.cell? ⟨wq.heap.size, dn * 5 + 3, none⟩ = some (.int .i64 x4) ∧ w6.cell? ⟨wq.heap.size, dn * 5 + 4, none⟩ = some (.int .i64 x5) := by
  obtain ⟨it, hinf, hz0, hsz, hby⟩ := info_parts info_change
  obtain ⟨a, c0, rfl, hLc, hr⟩ := h
  have hnews : ∀ j v, ([.int .i64 x1, .slice a2 n2 c2, .slice a3 n3 c3, .int .i64 x4, .int .i64 x5] : List Value)[j]? = some v → wq.cell? ((⟨kb, 0, none⟩ : Addr).add j) = some v := by
    intro j v hj
    rw [run.add_none, Nat.zero_add]
    rw [blk_cell hkb]
    rw [← List.getElem?_toArray] at hj
    exact hj
  rcases hr with ⟨rfl, rfl⟩ | ⟨sb, off, rfl, hlt, hsS, hat⟩
  · obtain rfl : dn = 0 := by omega
    have hL0 : L.length = 0 := by omega
    have hge := grownCap_ge wq 1 0 94
    refine ⟨none, 0, _, _, rfl, by omega, .inl ⟨rfl, rfl⟩, run_append_nil wq 70 ty 94 it _ Try.underlying70 hinf hz0 ⟨kb, 0, none⟩ 1 1 [.int .i64 x1, .slice a2 n2 c2, .slice a3 n3 c3, .int .i64 x4, .int .i64 x5] (by rw [hsz]; rfl) hnews (by omega) (by omega) (by rw [hby]; omega), by omega, (Kept.refl _ wq).drew.alloc _, by rw [World.size_alloc]; rfl, fun S' _ j x hx => by simp at hx, ?_⟩
    have hn := heap_alloc_new wq.drew (.cells (([.int .i64 x1, .slice a2 n2 c2, .slice a3 n3 c3, .int .i64 x4, .int .i64 x5] : List Value).toArray ++ Builtin.zeroCells (Value.agg #[.int .i64 0, .slice none 0 0, .slice none 0 0, .int .i64 0, .int .i64 0]).cells (grownCap wq 1 0 94 - 1)) 94)
    rw [show wq.drew.heap.size = wq.heap.size from rfl] at hn
    refine ⟨?_, ?_, ?_, ?_, ?_⟩ <;> (rw [blk_cell hn, Array.getElem?_append_left (by simp)]; rfl)
  · obtain ⟨olds, hol, hoc, ho1⟩ := steps_olds hat dn hdn
    have hge := grownCap_ge wq (dn + 1) dn 94
    have hnc := nextslicecap_le (need := dn + 1) (old := dn) (by omega)
    have hbq := hq.block sb hlt (fun h => hsS (h1 sb h))
    have holds : ∀ j v, olds[j]? = some v → wq.cell? ((⟨sb, off, none⟩ : Addr).add j) = some v := by
      intro j v hj
      rw [run.add_none]
      exact (World.cell?_of_block (a := ⟨sb, off + j, none⟩) hbq).trans (hoc j v hj)
    have hn := heap_alloc_new wq.drew (.cells (olds.toArray ++ ([.int .i64 x1, .slice a2 n2 c2, .slice a3 n3 c3, .int .i64 x4, .int .i64 x5] : List Value).toArray ++ Builtin.zeroCells (Value.agg #[.int .i64 0, .slice none 0 0, .slice none 0 0, .int .i64 0, .int .i64 0]).cells (grownCap wq (dn + 1) dn 94 - (dn + 1))) 94)
    rw [show wq.drew.heap.size = wq.heap.size from rfl] at hn
    have hkw : Kept (fun _ => False) wq (wq.drew.alloc (.cells (olds.toArray ++ ([.int .i64 x1, .slice a2 n2 c2, .slice a3 n3 c3, .int .i64 x4, .int .i64 x5] : List Value).toArray ++ Builtin.zeroCells (Value.agg #[.int .i64 0, .slice none 0 0, .slice none 0 0, .int .i64 0, .int .i64 0]).cells (grownCap wq (dn + 1) dn 94 - (dn + 1))) 94)) := (Kept.refl _ wq).drew.alloc _
    refine ⟨some ⟨sb, off, none⟩, c0, _, _, rfl, hLc, .inr ⟨sb, off, rfl⟩, run_append_grow wq 70 ty 94 it _ Try.underlying70 hinf hz0 ⟨sb, off, none⟩ dn dn olds (by rw [hsz, hol]) holds ⟨kb, 0, none⟩ 1 1 [.int .i64 x1, .slice a2 n2 c2, .slice a3 n3 c3, .int .i64 x4, .int .i64 x5] (by rw [hsz]; rfl) hnews (by omega) (by omega) (by rw [hby]; omega), hge, hkw, by rw [World.size_alloc]; rfl, fun S' hS' j x hx => ?_, ?_⟩
    · have hjd : j < dn := by
        have := (List.getElem?_eq_some_iff.1 hx).1
        rw [List.length_take] at this
        omega
      rw [List.getElem?_take_of_lt hjd] at hx
      have hk2 : Kept S1 w (wq.drew.alloc (.cells (olds.toArray ++ ([.int .i64 x1, .slice a2 n2 c2, .slice a3 n3 c3, .int .i64 x4, .int .i64 x5] : List Value).toArray ++ Builtin.zeroCells (Value.agg #[.int .i64 0, .slice none 0 0, .slice none 0 0, .int .i64 0, .int .i64 0]).cells (grownCap wq (dn + 1) dn 94 - (dn + 1))) 94)) := hq.trans hkw (fun _ _ h => h.elim)
      refine (hat j x hx).moved (fun r v hr hv => ?_) hk2 h1 hS'
      have hlt2 : j * 5 + r < olds.length := by rw [hol]; omega
      have hov : olds[j * 5 + r]? = some v := by
        rw [List.getElem?_eq_getElem hlt2]
        have := hoc (j * 5 + r) _ (List.getElem?_eq_getElem hlt2)
        rw [show off + (j * 5 + r) = off + j * 5 + r by omega, hv] at this
        exact this.symm
      rw [blk_cell hn, Array.append_assoc, Array.getElem?_append_left (by simpa using hlt2), List.getElem?_toArray]
      exact hov
    · refine ⟨?_, ?_, ?_, ?_, ?_⟩ <;> (rw [blk_cell hn, Array.append_assoc, Array.getElem?_append_right (by simp [hol]), Array.getElem?_append_left (by simp [hol])]; simp [hol])
section
variable {o : Oper} {ρ : Operand → Value} {w : World} {p q : Operand} {v1 v2 v3 v4 v5 : Value}
theorem run_buildS {x1 x4 x5 : Int} {a2 a3 : Option Addr} {n2 c2 n3 c3 : Nat} (ho : o.op = .buildSlice 70 1 #[(0, p)]) (hp : ρ p = .agg #[.int .i64 x1, .slice a2 n2 c2, .slice a3 n3 c3, .int .i64 x4, .int .i64 x5]) :
    (execOp ρ o).run Try.prog w = .ok (.value (.slice (some ⟨w.heap.size, 0, none⟩) 1 1)) (w.alloc (.cells #[.int .i64 x1, .slice a2 n2 c2, .slice a3 n3 c3, .int .i64 x4, .int .i64 x5] 94)) := by
  unfold execOp
  simp only [ho]
  simp [go_sem, hp]
theorem run_load5 {b : Nat} {t : TypeId} (ho : o.op = .load 94 p) (hp : ρ p = .pointer (some ⟨b, 0, none⟩)) (hb : w.heap[b]? = some (.cells #[v1, v2, v3, v4, v5] t (0, 0))) : (execOp ρ o).run Try.prog w = .ok (.value (.agg #[v1, v2, v3, v4, v5])) w := by
  have c0 := blk_cell hb 0
  have c1 := blk_cell hb 1
  have c2 := blk_cell hb 2
  have c3 := blk_cell hb 3
  have c4 := blk_cell hb 4
  change w.cell? _ = some v1 at c0
  change w.cell? _ = some v2 at c1
  change w.cell? _ = some v3 at c2
  change w.cell? _ = some v4 at c3
  change w.cell? _ = some v5 at c4
  unfold execOp
  simp only [ho, hp]
  simp [go_sem, c0, c1, c2, c3, c4]
theorem run_storeS {b i : Nat} {a a' : Option Addr} {n c n' c' : Nat} (ho : o.op = .store 70 p q) (hp : ρ p = .pointer (some ⟨b, i, none⟩)) (hq : ρ q = .slice a n c) (hc : w.cell? ⟨b, i, none⟩ = some (.slice a' n' c')) (hf : w.frozen? ⟨b, i, none⟩ = false) : (execOp ρ o).run Try.prog w = .ok .skip (w.setCell ⟨b, i, none⟩ (.slice a n c)) := by
  unfold execOp
  simp only [ho, hp, hq]
  simp [go_sem, hc, hf]
end
theorem StepsAt.tail {S : Nat → Prop} {k n c : Nat} {L : List St} {w : World} (h : StepsAt S (.slice (some ⟨k, 0, none⟩) (n + 1) c) L w) : StepsAt S (.slice (some ⟨k, 5, none⟩) n (c - 1)) (L.drop 1) w := by
  obtain ⟨a, cap, e, hl, hr⟩ := h
  simp only [Value.slice.injEq] at e
  obtain ⟨rfl, e2, rfl⟩ := e
  rcases hr with ⟨h1, -⟩ | ⟨sb, off, h1, h2, h3, h4⟩
  · cases h1
  · simp only [Option.some.injEq, Addr.mk.injEq, and_true] at h1
    obtain ⟨rfl, rfl⟩ := h1
    refine ⟨some ⟨k, 5, none⟩, c - 1, by rw [List.length_drop, ← e2]; rfl, by rw [List.length_drop]; omega, .inr ⟨k, 5, rfl, h2, h3, fun j x hj => ?_⟩⟩
    rw [List.getElem?_drop] at hj
    have := h4 (1 + j) x hj
    rw [show 0 + (1 + j) * 5 = 5 + j * 5 by omega] at this
    exact this
end Go.Proofs.Ytgpgbbbcodnieaa.ed
