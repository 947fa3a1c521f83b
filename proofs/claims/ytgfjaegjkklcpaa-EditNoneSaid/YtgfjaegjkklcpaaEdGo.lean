/-
  The editor's Marked and Go.
-/
import Derived.Test.YtgfjaegjkklcpaaEdWay
namespace Go.Proofs.Ytgfjaegjkklcpaa.ed
open Go Go.RowKit Go.Proofs
set_option linter.unusedVariables false
/-- what is marked -/
def mkT (an : Int) (ca : Nat) : Nat × Nat := if an < 0 then (ca, ca) else (min an.toNat ca, max an.toNat ca)
set_option maxRecDepth 100000 in
set_option maxHeartbeats 4000000 in
theorem marked_any {b g lb : Nat} {F : List TV} {ca : Nat} {an : Int} {sv : Value} {dn : Int} {w : World} (h : Ed b g lb F ca an sv dn w) :
    Calls Try.prog 26 #[.pointer (some ⟨b, 0, none⟩)] w fun e w' => e = .returned (.tuple #[.int .i64 ((mkT an ca).1 : Nat), .int .i64 ((mkT an ca).2 : Nat)]) ∧ Same w w' := by
  have c1 := blk_cell h.box 1
  have c2 := blk_cell h.box 2
  change w.cell? _ = some (.int .i64 (ca : Nat)) at c1
  change w.cell? _ = some (.int .i64 an) at c2
  clear h
  by_cases hn : an < 0
  · have e : mkT an ca = (ca, ca) := by unfold mkT; rw [if_pos hn]
    rw [e]
    clear e
    go_enter Try.func26, Try.ntmps26
    go_upto_region 4 with fail
    go_quiet (fail)
    go_wp2
    go_ret2
    exact ⟨rfl, ⟨rfl, rfl, rfl, rfl⟩⟩
  · obtain ⟨k, rfl⟩ : ∃ k : Nat, an = k := ⟨an.toNat, by omega⟩
    have e : mkT k ca = (min k ca, max k ca) := by unfold mkT; rw [if_neg hn, Int.toNat_natCast]
    rw [e]
    have hm1 : min (k : Int) (ca : Int) = ((min k ca : Nat) : Int) := by omega
    have hm2 : max (k : Int) (ca : Int) = ((max k ca : Nat) : Int) := by omega
    clear e
    generalize min k ca = p at *
    generalize max k ca = q at *
    go_enter Try.func26, Try.ntmps26
    go_upto_region 5 with fail
    go_region
    go_wp2
    go_ret2
    exact ⟨by rw [← hm1, ← hm2]; rfl, ⟨rfl, rfl, rfl, rfl⟩⟩
/-- where Go leads the anchor -/
def anT (an : Int) (ca : Nat) (m : Bool) : Int := if m then (if an < 0 then (ca : Int) else an) else -1
def goT (s : Sta) (way : Int) (m : Bool) : Bool × Sta :=
  match leadsT s.F s.ca way with
  | none => (false, s)
  | some tt => (!decide (s.ca = tt) || !decide ((mkT s.an s.ca).1 = (mkT (anT s.an s.ca m) tt).1) || !decide ((mkT s.an s.ca).2 = (mkT (anT s.an s.ca m) tt).2), ⟨s.F, tt, anT s.an s.ca m, s.L, s.dn⟩)
theorem Ed.same {b g lb : Nat} {F : List TV} {ca an : Int} {sv : Value} {dn : Int} {w w' : World} (h : Ed b g lb F ca an sv dn w) (hs : Same w w') : Ed b g lb F ca an sv dn w' := h.below hs.below
theorem bne_cast (a b : Nat) : ((a : Int) != (b : Int)) = !decide (a = b) := by
  by_cases h : a = b
  · subst h; simp
  · have h2 : (a : Int) ≠ b := by omega
    rw [decide_eq_false h, bne_iff_ne.2 h2]
    rfl
/-- the carets are put -/
theorem Ed.carets {b g lb : Nat} {F : List TV} {ca an : Int} {sv : Value} {dn : Int} {w : World} (h : Ed b g lb F ca an sv dn w) (ca' an' : Int) : Ed b g lb F ca' an' sv dn ((w.setCell ⟨b, 2, none⟩ (.int .i64 an')).setCell ⟨b, 1, none⟩ (.int .i64 ca')) ∧ Kept (fun x => x = b) w ((w.setCell ⟨b, 2, none⟩ (.int .i64 an')).setCell ⟨b, 1, none⟩ (.int .i64 ca')) := by
  obtain ⟨n, cap, f, u, A, hG, hr⟩ := h.gap
  have hkk : Kept (fun x => x = b) w ((w.setCell ⟨b, 2, none⟩ (.int .i64 an')).setCell ⟨b, 1, none⟩ (.int .i64 ca')) := Kept.setCell (b := b) (i := 1) (Kept.setCell (b := b) (i := 2) (Kept.refl (fun x => x = b) w) (.inl rfl) _) (.inl rfl) _
  exact ⟨⟨heap_setCell_same _ _ 1 _ _ _ (heap_setCell_same _ _ 2 _ _ _ h.box), ⟨n, cap, f, u, A, hG.kept hkk h.bg.symm h.bl.symm, hr⟩, h.bg, h.bl⟩, hkk⟩
theorem Ed.caret {b g lb : Nat} {F : List TV} {ca an : Int} {sv : Value} {dn : Int} {w : World} (h : Ed b g lb F ca an sv dn w) (ca' : Int) : Ed b g lb F ca' an sv dn (w.setCell ⟨b, 1, none⟩ (.int .i64 ca')) ∧ Kept (fun x => x = b) w (w.setCell ⟨b, 1, none⟩ (.int .i64 ca')) := by
  obtain ⟨n, cap, f, u, A, hG, hr⟩ := h.gap
  have hkk : Kept (fun x => x = b) w (w.setCell ⟨b, 1, none⟩ (.int .i64 ca')) := Kept.setCell (b := b) (i := 1) (Kept.refl (fun x => x = b) w) (.inl rfl) _
  exact ⟨⟨heap_setCell_same _ _ 1 _ _ _ h.box, ⟨n, cap, f, u, A, hG.kept hkk h.bg.symm h.bl.symm, hr⟩, h.bg, h.bl⟩, hkk⟩
set_option maxRecDepth 100000 in
set_option maxHeartbeats 4000000 in
theorem go_any {S : Nat → Prop} {b g lb : Nat} {s : Sta} {w : World} (h : EdS S b g lb s w) (way : Int) (m : Bool) (hc : s.ca ≤ s.F.length) (hF : s.F.length ≤ 1048576) :
    Calls Try.prog 28 #[.pointer (some ⟨b, 0, none⟩), .int .i64 way, .bool m] w fun e w' => e = .returned (.bool (goT s way m).1) ∧ After S b g lb (goT s way m).2 w w' := by
  have HST := run.hid (fun (X : World) (hX : Kept (fun _ => False) w X) => After.stay h hX)
  obtain ⟨⟨sv, hE, hS⟩, sb, sg, sl⟩ := h
  obtain ⟨F, ca, an, L, dn⟩ := s
  dsimp only at hE hS hc hF HST
  have HLD := run.hid (leads_any hE way hc hF)
  unfold LeadsIs at HLD
  have HG := run.hid (show (∀ tt, leadsT F ca way = some tt → goT ⟨F, ca, an, L, dn⟩ way m = (!decide (ca = tt) || !decide ((mkT an ca).1 = (mkT (anT an ca m) tt).1) || !decide ((mkT an ca).2 = (mkT (anT an ca m) tt).2), ⟨F, tt, anT an ca m, L, dn⟩)) ∧ (leadsT F ca way = none → goT ⟨F, ca, an, L, dn⟩ way m = (false, ⟨F, ca, an, L, dn⟩)) from by
    unfold goT
    exact ⟨fun tt h => by rw [h], fun h => by rw [h]⟩)
  have HE := run.hid (fun (X : World) (hX : Below w.heap.size w X) => hE.below hX)
  have HTU := run.hid (fun (tt : Nat) (an' : Int) (X : World) (hX : Ed b g lb F (tt : Nat) an' sv (dn : Nat) X) (hk : Kept (Own b g lb) w X) => After.turned (ca := tt) (an := an') (dn := dn) (w := w) hS sb sg sl hX (.inl rfl) hk)
  clear hE hS sb sg sl
  generalize hgo : goT ⟨F, ca, an, L, dn⟩ way m = G at *
  generalize hld : leadsT F ca way = ld at *
  clear hgo hld
  go_enter Try.func28, Try.ntmps28
  go_wp2_with fail
  refine HLD.out.mono ?_
  rintro e w1 ⟨hb1, ⟨tt, rfl, rfl⟩ | ⟨rfl, rfl⟩⟩
  · have hE1 := HE.out w1 hb1
    have HM := run.hid (marked_any hE1)
    have HE1 := run.hid (And.intro hE1 hb1)
    have HG1 := run.hid (HG.out.1 tt rfl)
    clear hE1 hb1 HLD HST HE HG
    go_wp2_with fail
    refine HM.out.mono ?_
    rintro e w2 ⟨rfl, hs2⟩
    have hE2 := HE1.out.1.same hs2
    have hb2 := HE1.out.2.trans (hs2.below.mono HE1.out.2.size)
    have c1 := blk_cell hE2.box 1
    have c2 := blk_cell hE2.box 2
    change w2.cell? _ = some (.int .i64 (ca : Nat)) at c1
    change w2.cell? _ = some (.int .i64 an) at c2
    have f1 := blk_free hE2.box 1
    have f2 := blk_free hE2.box 2
    have hg := HG1.out
    have HB2 := run.hid hb2
    clear HM HE1 HG1 hs2 hb2
    generalize mkT an ca = mk0 at *
    obtain ⟨ma, mb⟩ := mk0
    dsimp only at hg ⊢
    cases m with
    | false =>
      change G = (!decide (ca = tt) || !decide (ma = (mkT (-1) tt).1) || !decide (mb = (mkT (-1) tt).2), ⟨F, tt, -1, L, dn⟩) at hg
      obtain ⟨hE3, hk3⟩ := hE2.carets (tt : Nat) (-1)
      have HM3 := run.hid (marked_any hE3)
      have HG2 := run.hid hg
      have HE3 := run.hid (And.intro hE3 hk3)
      clear hE3 hk3 hE2 hg
      generalize mkT (-1) tt = mk1 at *
      obtain ⟨mc, md⟩ := mk1
      dsimp only at HG2 HM3
      go_wp2_with fail
      refine HM3.out.mono ?_
      rintro e w4 ⟨rfl, hs4⟩
      have hE4 := HE3.out.1.same hs4
      have hk4 := ((Kept.of_below (S := Own b g lb) HB2.out).trans (HE3.out.2.more (S' := Own b g lb) (fun k _ h => .inl h)) (fun _ _ h => h)).trans (Kept.of_below (S := Own b g lb) hs4.below) (fun _ _ h => h)
      have HF := run.hid (HTU.out tt (-1) w4 hE4 hk4)
      clear HM3 HE3 HB2 HTU hE4 hk4 hs4 c1 c2 f1 f2
      go_wp2
      all_goals
        go_ret
        rw [HG2.out]
        refine ⟨congrArg (fun x => Ending.returned (Value.bool x)) ?_, HF.out⟩
        clear HF HG2
        simp only [Int.natCast_inj] at *
        simp_all [bne_cast]
    | true =>
      by_cases hn : an < 0
      · have ha : anT an ca true = (ca : Int) := by unfold anT; rw [if_pos rfl, if_pos hn]
        rw [ha] at hg
        obtain ⟨hE3, hk3⟩ := hE2.carets (tt : Nat) (ca : Nat)
        have HM3 := run.hid (marked_any hE3)
        have HG2 := run.hid hg
        have HE3 := run.hid (And.intro hE3 hk3)
        have hnb := (blk_cell (heap_setCell_same w2 b 2 _ _ (.int .i64 (ca : Nat)) hE2.box) 1)
        clear hE3 hk3 hE2 hg ha
        generalize mkT (ca : Int) tt = mk1 at *
        obtain ⟨mc, md⟩ := mk1
        dsimp only at HG2 HM3
        go_wp2_with fail
        refine HM3.out.mono ?_
        rintro e w4 ⟨rfl, hs4⟩
        have hE4 := HE3.out.1.same hs4
        have hk4 := ((Kept.of_below (S := Own b g lb) HB2.out).trans (HE3.out.2.more (S' := Own b g lb) (fun k _ h => .inl h)) (fun _ _ h => h)).trans (Kept.of_below (S := Own b g lb) hs4.below) (fun _ _ h => h)
        have HF := run.hid (HTU.out tt (ca : Nat) w4 hE4 hk4)
        clear HM3 HE3 HB2 HTU hE4 hk4 hs4 c1 c2 f1 f2 hnb
        go_wp2
        all_goals
          go_ret
          rw [HG2.out]
          refine ⟨congrArg (fun x => Ending.returned (Value.bool x)) ?_, HF.out⟩
          clear HF HG2
          simp only [Int.natCast_inj] at *
          simp_all [bne_cast]
      · have ha : anT an ca true = an := by unfold anT; rw [if_pos rfl, if_neg hn]
        rw [ha] at hg
        obtain ⟨hE3, hk3⟩ := hE2.caret (tt : Nat)
        have HM3 := run.hid (marked_any hE3)
        have HG2 := run.hid hg
        have HE3 := run.hid (And.intro hE3 hk3)
        clear hE3 hk3 hE2 hg ha
        generalize mkT an tt = mk1 at *
        obtain ⟨mc, md⟩ := mk1
        dsimp only at HG2 HM3
        go_wp2_with fail
        refine HM3.out.mono ?_
        rintro e w4 ⟨rfl, hs4⟩
        have hE4 := HE3.out.1.same hs4
        have hk4 := ((Kept.of_below (S := Own b g lb) HB2.out).trans (HE3.out.2.more (S' := Own b g lb) (fun k _ h => .inl h)) (fun _ _ h => h)).trans (Kept.of_below (S := Own b g lb) hs4.below) (fun _ _ h => h)
        have HF := run.hid (HTU.out tt an w4 hE4 hk4)
        clear HM3 HE3 HB2 HTU hE4 hk4 hs4 c1 c2 f1 f2
        go_wp2
        all_goals
          go_ret
          rw [HG2.out]
          refine ⟨congrArg (fun x => Ending.returned (Value.bool x)) ?_, HF.out⟩
          clear HF HG2
          simp only [Int.natCast_inj] at *
          simp_all [bne_cast]
  · have HF := run.hid (HST.out w1 (Kept.of_below hb1))
    have HG1 := run.hid (HG.out.2 rfl)
    clear HLD HST HE HG HTU hb1
    go_wp2
    go_ret
    rw [HG1.out]
    exact ⟨rfl, HF.out⟩
end Go.Proofs.Ytgfjaegjkklcpaa.ed
