/-
  The editor's Delete.
-/
import Derived.Test.YtgfjaegjkklcpaaEdTyped
namespace Go.Proofs.Ytgfjaegjkklcpaa.ed
open Go Go.RowKit Go.Proofs
set_option linter.unusedVariables false
theorem bs_app (a b : ByteArray) : utf.bs (a ++ b) = utf.bs a ++ utf.bs b := by simp [utf.bs, ByteArray.data_append]
/-- what is left when these are taken out -/
def delL (F : List TV) (a b : Nat) : List TV := lineT (textB (F.take a) ++ textB (F.drop b))
def del2 (s : Sta) (a b : Nat) : Bool × Sta := becomeT s (delL s.F a b) (lineT (textB (s.F.take a))).length true
def delT (s : Sta) (way : Int) : Bool × Sta :=
  if (mkT s.an s.ca).1 = (mkT s.an s.ca).2 then
    match leadsT s.F s.ca way with
    | none => (false, s)
    | some tt => if tt = s.ca then (false, s) else del2 s (min tt s.ca) (max tt s.ca)
  else del2 s (mkT s.an s.ca).1 (mkT s.an s.ca).2
/-- become, of a row that the call itself has made -/
theorem del_become {S : Nat → Prop} {b g lb : Nat} {s : Sta} {wv w3 w5 w6 w7 : World} {IL : List TV} {NI : Nat} {al : Option Addr} {cl : Nat} (hE : EdS S b g lb s wv) (hSlt : ∀ k, S k → k < wv.heap.size) (hb3 : Below wv.heap.size wv w3) (hb6 : Below w3.heap.size w3 w6) (h5 : w3.heap.size ≤ w5.heap.size)
    (hown : w6.ownsRow w5.heap.size 73 2 (.slice al NI cl) NI (cellsT IL)) (hN : IL.length = NI) (hb7 : Below w6.heap.size w6 w7) (hF : s.F.length ≤ 1048576) (hNI : NI ≤ 1048576) (hdn : s.dn ≤ s.L.length) (hdm : s.dn ≤ 4096) (LA : Nat) :
    Calls Try.prog 46 #[.pointer (some ⟨b, 0, none⟩), .slice al NI cl, .int .i64 (LA : Nat), .bool true] w7 fun e w' => e = .returned (.bool (becomeT s IL LA true).1) ∧ After S b g lb (becomeT s IL LA true).2 w7 w' := by
  subst hN
  have hown7 := run.own_below hown hb7
  have h36 := hb3.trans (hb6.mono hb3.size)
  have h37 := h36.trans (hb7.mono h36.size)
  have hcl : IL.length ≤ cl := by
    rcases hown.2 with ⟨h1, h0⟩ | ⟨g4, cap4, cur4, h1, -, -, h2, -⟩
    · omega
    · simp only [Value.slice.injEq] at h1; omega
  have hsr : Src 2 w7 al IL.length cl (cellsT IL) := by
    have hh := src_own hown7 rfl (i := IL.length) (Nat.le_refl _)
    rw [List.take_of_length_le (Nat.le_refl _)] at hh
    exact hh
  refine become_any (hE.below h37) al cl IL LA true hsr hcl (fun k off e h => ?_) (fun k h => Nat.lt_of_lt_of_le (hSlt k h) h37.size) hF hNI hdn hdm
  have h1 := hSlt k h
  have h2 := hb3.size
  rcases hown.2 with ⟨h3, -⟩ | ⟨g4, cap4, cur4, h3, h4, -⟩
  · simp only [Value.slice.injEq] at h3; rw [h3.1] at e; cases e
  · simp only [Value.slice.injEq] at h3
    rw [h3.1] at e
    simp only [Option.some.injEq, Addr.mk.injEq] at e
    omega
set_option maxRecDepth 100000 in
set_option maxHeartbeats 8000000 in
theorem delete_any {S : Nat → Prop} {b g lb : Nat} {s : Sta} {w : World} (h : EdS S b g lb s w) (way : Int) (hSlt : ∀ k, S k → k < w.heap.size) (hFl : wrp.Lin s.F) (hFs : sizeL s.F ≤ 65536) (hca : s.ca ≤ s.F.length) (han : s.an ≤ s.F.length) (hdn : s.dn ≤ s.L.length) (hdm : s.dn ≤ 4096) :
    Calls Try.prog 29 #[.pointer (some ⟨b, 0, none⟩), .int .i64 way] w fun e w' => e = .returned (.bool (delT s way).1) ∧ After S b g lb (delT s way).2 w w' := by
  obtain ⟨F, ca, an, L, dn⟩ := s
  dsimp only at hFl hFs hca han hdn hdm
  have hF : F.length ≤ 65536 := Nat.le_trans (lin_len hFl) hFs
  obtain ⟨⟨sv, hE, hS⟩, sb, sg, sl⟩ := h
  dsimp only at hE hS
  have HH := run.hid (And.intro (show EdS S b g lb ⟨F, ca, an, L, dn⟩ w from ⟨⟨sv, hE, hS⟩, sb, sg, sl⟩) hSlt)
  have HFL := run.hid hFl
  have HM := run.hid (marked_any hE)
  have HED := run.hid (fun (X : World) (hX : Below w.heap.size w X) => hE.below hX)
  have HLD := run.hid (fun (X : World) (hX : Below w.heap.size w X) => leads_any (hE.below hX) way hca (by omega))
  unfold LeadsIs at HLD
  have hmk := mk_le (an := an) hca han
  have HDT := run.hid (show delT ⟨F, ca, an, L, dn⟩ way = if (mkT an ca).1 = (mkT an ca).2 then (match leadsT F ca way with | none => (false, ⟨F, ca, an, L, dn⟩) | some tt => if tt = ca then (false, ⟨F, ca, an, L, dn⟩) else del2 ⟨F, ca, an, L, dn⟩ (min tt ca) (max tt ca)) else del2 ⟨F, ca, an, L, dn⟩ (mkT an ca).1 (mkT an ca).2 from rfl)
  have HLE := run.hid (fun tt (h : leadsT F ca way = some tt) => leads_le h hca)
  generalize delT ⟨F, ca, an, L, dn⟩ way = BT at *
  clear hE hS sb sg sl hFl hSlt
  generalize mkT an ca = MK at *
  generalize hld : leadsT F ca way = ld at *
  clear hld
  obtain ⟨m0, m1⟩ := MK
  dsimp only at hmk HM HDT
  go_enter Try.func29, Try.ntmps29
  go_wp2_with fail
  refine HM.out.mono ?_
  rintro e w1 ⟨rfl, hs1⟩
  have hb1 := hs1.below
  have HB1 := run.hid hb1
  clear HM hs1 hb1
  go_upto_if 20 with fail
  go_cut [5, 6] (fun p q wx => ∃ a b : Nat, p = .int .i64 (a : Nat) ∧ q = .int .i64 (b : Nat) ∧ a ≤ b ∧ b ≤ F.length ∧ Hid (BT = del2 ⟨F, ca, an, L, dn⟩ a b) ∧ Below w.heap.size w wx)
  case first =>
    by_cases hm : m0 = m1
    · subst hm
      have hdt := HDT.out
      rw [if_pos rfl] at hdt
      have HD2 := run.hid hdt
      have HL1 := run.hid (HLD.out w1 HB1.out)
      have heq : ((m0 : Int) == (m0 : Int)) = true := by simp
      clear hdt HDT HLD
      go_wp2_with fail
      refine HL1.out.mono ?_
      rintro e w2 ⟨hb2, ⟨tt, rfl, rfl⟩ | ⟨rfl, rfl⟩⟩
      · have hb02 := HB1.out.trans (hb2.mono HB1.out.size)
        have hE2 := HED.out w2 hb02
        have c1 := blk_cell hE2.box 1
        change w2.cell? _ = some (.int .i64 (ca : Nat)) at c1
        have HB2 := run.hid hb02
        have hdt := HD2.out
        have hle := HLE.out tt rfl
        clear HL1 hb2 hb02 hE2 HD2 HED HFL heq
        by_cases htc : tt = ca
        · subst htc
          rw [show (match (some tt : Option Nat) with | none => (false, (⟨F, tt, an, L, dn⟩ : Sta)) | some t2 => if t2 = tt then (false, ⟨F, tt, an, L, dn⟩) else del2 ⟨F, tt, an, L, dn⟩ (min t2 tt) (max t2 tt)) = (false, ⟨F, tt, an, L, dn⟩) from if_pos rfl] at hdt
          have HF := run.hid (And.intro hdt (After.stay HH.out.1 (Kept.of_below HB2.out)))
          have heq : ((tt : Int) == (tt : Int)) = true := by simp
          clear hdt HH HB2 HLE
          go_wp2
          go_ret
          rw [HF.out.1]
          exact ⟨rfl, HF.out.2⟩
        · rw [show (match (some tt : Option Nat) with | none => (false, (⟨F, ca, an, L, dn⟩ : Sta)) | some t2 => if t2 = ca then (false, ⟨F, ca, an, L, dn⟩) else del2 ⟨F, ca, an, L, dn⟩ (min t2 ca) (max t2 ca)) = del2 ⟨F, ca, an, L, dn⟩ (min tt ca) (max tt ca) from if_neg htc] at hdt
          have HDD := run.hid hdt
          have heq : ((tt : Int) == (ca : Int)) = false := by simp only [beq_eq_false_iff_ne, ne_eq]; omega
          have hmn : min (tt : Int) (ca : Int) = ((min tt ca : Nat) : Int) := by omega
          have hmx : max (tt : Int) (ca : Int) = ((max tt ca : Nat) : Int) := by omega
          have h3 : min tt ca ≤ max tt ca := by omega
          have h4 : max tt ca ≤ F.length := by omega
          clear hdt HH HLE
          generalize min tt ca = pa at *
          generalize max tt ca = pb at *
          go_upto_region 8 with fail
          go_region
          go_wp2
          go_meet
          exact ⟨pa, pb, by rw [← hmn], by rw [← hmx], h3, h4, HDD, HB2.out.drew⟩
      · have hdt := HD2.out
        have HF := run.hid (And.intro hdt (After.stay HH.out.1 (Kept.of_below (HB1.out.trans (hb2.mono HB1.out.size)))))
        clear hdt HH HLE HL1 hb2 HD2 HED HFL heq
        go_wp2
        go_ret
        rw [HF.out.1]
        exact ⟨rfl, HF.out.2⟩
    · have hdt := HDT.out
      rw [if_neg hm] at hdt
      have HD2 := run.hid hdt
      have heq : ((m0 : Int) == (m1 : Int)) = false := by simp only [beq_eq_false_iff_ne, ne_eq]; omega
      clear hdt HDT HLD HED HH HLE HFL
      go_wp2
      go_meet
      exact ⟨m0, m1, rfl, rfl, hmk.1, hmk.2, HD2, HB1.out⟩
  case rest =>
    obtain ⟨ma, mb, rfl, rfl, hab, hbF, HBT, hbel⟩ := hcut
    have hEc := HED.out wc hbel
    have hHw := HH.out.1.below hbel
    have HHW := run.hid (And.intro hHw (fun k h => Nat.lt_of_lt_of_le (HH.out.2 k h) hbel.size))
    have HBC := run.hid hbel
    have c0 := blk_cell hEc.box 0
    change wc.cell? _ = some (.pointer (some ⟨g, 0, none⟩)) at c0
    obtain ⟨gn, gcap, gf, gu, gA, hG, hgc, hgn, hgl⟩ := hEc.gap
    have HALL := run.hid (edC.all_any hG hgc (cellsT_one F) hgn)
    rw [hgl] at HALL
    clear hEc hG hgc hgn hgl hHw hbel HED HLD HDT HLE HB1 hmk HH
    generalize wc = wv at *
    go_wp2_with fail
    refine HALL.out.mono ?_
    rintro e w3 ⟨v3, rfl, hown, hb3⟩
    obtain ⟨a3, c3, rfl⟩ := run.own_value hown
    have HO3 := run.hid hown
    have HB3 := run.hid hb3
    clear HALL hb3 c0 hown
    have hsplit : textL F = textL (F.take mb) ++ textL (F.drop mb) := by unfold textL; rw [← List.flatMap_append, List.take_append_drop]
    have hFs2 : (textL F).length ≤ 65536 := hFs
    rw [hsplit, List.length_append] at hFs2
    have HTA := run.hid (fun (a : Option Addr) (c : Nat) (hS : Src 2 w3 a (F.take ma).length c (cellsT (F.take ma))) => text_any a c (F.take ma) w3 hS (by have := textL_le F ma; have h2 : (textL F).length ≤ 65536 := hFs; omega) (by rw [List.length_take]; omega))
    have HTB := run.hid (fun (X : World) (a : Option Addr) (c : Nat) (hS : Src 2 X a (F.drop mb).length c (cellsT (F.drop mb))) => text_any a c (F.drop mb) X hS (by omega) (by rw [List.length_drop]; omega))
    have hlA : (F.take ma).length = ma := by rw [List.length_take]; omega
    have hlB : (F.drop mb).length = F.length - mb := by rw [List.length_drop]
    rw [hlA] at HTA
    rw [hlB] at HTB
    have HSA := run.hid (src_own HO3.out rfl (i := ma) (by omega))
    have HSB := run.hid (fun (hc : F.length ≤ c3) => src_cut (lo := mb) (hi := F.length) (by have := src_own HO3.out rfl (i := F.length) (Nat.le_refl _); rw [List.take_of_length_le (Nat.le_refl _)] at this; exact this) rfl hbF (Nat.le_refl _) hc)
    have HDR := run.hid (show (F.drop mb).take (F.length - mb) = F.drop mb from List.take_of_length_le (by rw [List.length_drop]; omega))
    rw [HDR.out] at HSB
    have hLA := HFL.out.take ma
    have hLB := HFL.out.drop mb
    have hsA : sizeL (F.take ma) + sizeL (F.drop mb) ≤ 65536 := by
      have h1 : sizeL (F.take ma) ≤ sizeL (F.take mb) := by
        have : F.take ma = (F.take mb).take ma := by rw [List.take_take, Nat.min_eq_left hab]
        rw [this]
        exact textL_le _ _
      unfold sizeL at h1 ⊢
      omega
    have hDs : sizeL (delL F ma mb) ≤ 65536 := by
      rw [size_bytes, show delL F ma mb = wrp.lineW (textB (F.take ma) ++ textB (F.drop mb)) from rfl]
      have := wrp.line_two hLA hLB (s := textB (F.take ma) ++ textB (F.drop mb)) (by rw [bs_app, bs_textB, bs_textB])
      rw [← size_bytes (F.take ma), ← size_bytes (F.drop mb)] at this
      omega
    have hDl : (delL F ma mb).length ≤ 65536 := Nat.le_trans (lin_len (wrp.lin_line _).1) hDs
    have hDe : delL F ma mb = lineT (textB (F.take ma) ++ textB (F.drop mb)) := rfl
    have hBT := HBT.out
    rw [show del2 ⟨F, ca, an, L, dn⟩ ma mb = becomeT ⟨F, ca, an, L, dn⟩ (delL F ma mb) (lineT (textB (F.take ma))).length true from rfl] at hBT
    have hta : (textB (F.take ma)).size ≤ 65536 := Nat.le_trans (Nat.le_add_right _ _) hsA
    have htb : (textB (F.drop mb)).size ≤ 65536 := Nat.le_trans (Nat.le_add_left _ _) hsA
    clear hsplit hFs2 hlA hlB HDR hLA hLB hsA hDs HBT HFL
    generalize delL F ma mb = IL at *
    have hTAe : (⟨(textL (F.take ma)).toArray⟩ : ByteArray) = textB (F.take ma) := rfl
    have hTBe : (⟨(textL (F.drop mb)).toArray⟩ : ByteArray) = textB (F.drop mb) := rfl
    rw [hTAe] at HTA
    rw [hTBe] at HTB
    generalize textB (F.take ma) = AH at *
    generalize textB (F.drop mb) = TBB at *
    have HLI := run.hid (fun (X : World) => line_any (AH ++ TBB) X (by rw [ByteArray.size_append]; omega))
    have HLA := run.hid (fun (X : World) => line_any AH X (by omega))
    rw [← hDe] at HLI
    have hovB : ¬ 9223372036854775807 < AH.size + TBB.size := by omega
    obtain ⟨LA, hLAe⟩ : ∃ LA, LA = (lineT AH).length := ⟨_, rfl⟩
    rw [← hLAe] at HLA hBT
    have HBT := run.hid hBT
    clear hBT hDe hLAe hTAe hTBe hta htb
    generalize hNI : IL.length = NI at *
    have HNI := run.hid hNI
    generalize hNF : F.length = NF at *
    have HNF := run.hid hNF
    clear hNF hNI
    have hways := own_ways (mb := mb) HO3.out
    clear HO3
    go_upto_region 10 with fail
    go_cut [10] (fun p wx => p = .string AH ∧ Below w3.heap.size w3 wx)
    case first =>
      clear HHW HLI HLA HBT
      rcases hways with ⟨rfl, rfl, rfl⟩ | ⟨g3, rfl, hNc, rfl⟩ | ⟨g3, rfl, hNc, hcm⟩
      · have hm0 : ma = 0 := by omega
        subst hm0
        have HT1 := run.hid (HTA.out none 0 HSA.out)
        clear HSA HSB HTA HTB
        go_wp2_with fail
        refine HT1.out.mono ?_
        rintro e w4 ⟨rfl, hb4⟩
        have HF := run.hid hb4
        clear HT1 hb4
        go_wp2
        go_meet
        exact ⟨rfl, HF.out⟩
      · have HT1 := run.hid (HTA.out _ _ HSA.out)
        clear HSA HSB HTA HTB
        go_wp2_with fail
        refine HT1.out.mono ?_
        rintro e w4 ⟨rfl, hb4⟩
        have HF := run.hid hb4
        clear HT1 hb4
        go_wp2
        go_meet
        exact ⟨rfl, HF.out⟩
      · have HT1 := run.hid (HTA.out _ _ HSA.out)
        clear HSA HSB HTA HTB
        go_wp2_with fail
        refine HT1.out.mono ?_
        rintro e w4 ⟨rfl, hb4⟩
        have HF := run.hid hb4
        clear HT1 hb4
        go_wp2
        go_meet
        exact ⟨rfl, HF.out⟩
    case rest =>
      obtain ⟨rfl, hb4⟩ := hcut
      have HB4 := run.hid hb4
      clear hb4
      go_upto_region 11 with fail
      generalize wc = wd at *
      rcases hways with ⟨rfl, rfl, rfl⟩ | ⟨g3, rfl, hNc, rfl⟩ | ⟨g3, rfl, hNc, hcm⟩
      · have hm0 : ma = 0 := by omega
        have hm1 : mb = 0 := by omega
        subst hm0
        subst hm1
        have HT2 := run.hid (HTB.out wd none 0 ((HSB.out (by omega)).of HB4.out.size (fun k off e h => HB4.out.block k h)))
        clear HSA HSB HTA HTB
        go_wp2_with fail
        refine HT2.out.mono ?_
        rintro e w5 ⟨rfl, hb5⟩
        have HB5 := run.hid (HB4.out.trans (hb5.mono HB4.out.size))
        clear HT2 hb5
        have HL5 := run.hid (HLI.out w5)
        go_wp2_with fail
        refine HL5.out.mono ?_
        rintro e w6 ⟨v6, rfl, hown6, hb6⟩
        obtain ⟨al, cl, rfl⟩ := run.own_value hown6
        have HO6 := run.hid hown6
        have HB6 := run.hid (HB5.out.trans (hb6.mono HB5.out.size))
        have HL6 := run.hid (HLA.out w6)
        clear HL5 hown6 hb6 HLI HLA
        go_wp2_with fail
        refine HL6.out.mono ?_
        rintro e w7 ⟨v7, rfl, hown7, hb7⟩
        obtain ⟨a7, c7, rfl⟩ := run.own_value hown7
        have hB := del_become HHW.out.1 HHW.out.2 HB3.out HB6.out HB5.out.size HO6.out HNI.out hb7 (by dsimp only; rw [HNF.out]; omega) (by omega) hdn hdm LA
        have HBE := run.hid hB
        have HPRE := run.hid (HBC.out.trans ((HB3.out.trans ((HB6.out.trans (hb7.mono HB6.out.size)).mono HB3.out.size)).mono HBC.out.size))
        clear hB hown7 hb7 HL6 HO6 HHW HB6 HB5
        go_wp2_with fail
        refine HBE.out.mono ?_
        rintro e w9 ⟨rfl, haf⟩
        rw [← HBT.out] at haf ⊢
        have HF := run.hid (After.pre HPRE.out haf)
        clear HBE haf HBT HPRE
        go_wp2
        go_ret
        exact ⟨rfl, HF.out⟩
      · have hm1 : NF = c3 := by omega
        have hS2 := (HSB.out (by omega)).of HB4.out.size (fun k off e h => HB4.out.block k h)
        simp only [cutAt, if_true, Nat.zero_add, Nat.sub_self] at hS2
        subst hm1
        rw [Nat.sub_self] at hS2
        have hT2 := HTB.out wd
        rw [Nat.sub_self] at hT2
        have HT2 := run.hid (hT2 _ _ hS2)
        clear hS2 hT2
        clear HSA HSB HTA HTB
        go_wp2_with fail
        refine HT2.out.mono ?_
        rintro e w5 ⟨rfl, hb5⟩
        have HB5 := run.hid (HB4.out.trans (hb5.mono HB4.out.size))
        clear HT2 hb5
        have HL5 := run.hid (HLI.out w5)
        go_wp2_with fail
        refine HL5.out.mono ?_
        rintro e w6 ⟨v6, rfl, hown6, hb6⟩
        obtain ⟨al, cl, rfl⟩ := run.own_value hown6
        have HO6 := run.hid hown6
        have HB6 := run.hid (HB5.out.trans (hb6.mono HB5.out.size))
        have HL6 := run.hid (HLA.out w6)
        clear HL5 hown6 hb6 HLI HLA
        go_wp2_with fail
        refine HL6.out.mono ?_
        rintro e w7 ⟨v7, rfl, hown7, hb7⟩
        obtain ⟨a7, c7, rfl⟩ := run.own_value hown7
        have hB := del_become HHW.out.1 HHW.out.2 HB3.out HB6.out HB5.out.size HO6.out HNI.out hb7 (by dsimp only; rw [HNF.out]; omega) (by omega) hdn hdm LA
        have HBE := run.hid hB
        have HPRE := run.hid (HBC.out.trans ((HB3.out.trans ((HB6.out.trans (hb7.mono HB6.out.size)).mono HB3.out.size)).mono HBC.out.size))
        clear hB hown7 hb7 HL6 HO6 HHW HB6 HB5
        go_wp2_with fail
        refine HBE.out.mono ?_
        rintro e w9 ⟨rfl, haf⟩
        rw [← HBT.out] at haf ⊢
        have HF := run.hid (After.pre HPRE.out haf)
        clear HBE haf HBT HPRE
        go_wp2
        go_ret
        exact ⟨rfl, HF.out⟩
      · have hS2 := (HSB.out (by omega)).of HB4.out.size (fun k off e h => HB4.out.block k h)
        simp only [cutAt, hcm, if_false, Nat.zero_add] at hS2
        have HT2 := run.hid (HTB.out wd _ _ hS2)
        clear hS2
        clear HSA HSB HTA HTB
        go_wp2_with fail
        refine HT2.out.mono ?_
        rintro e w5 ⟨rfl, hb5⟩
        have HB5 := run.hid (HB4.out.trans (hb5.mono HB4.out.size))
        clear HT2 hb5
        have HL5 := run.hid (HLI.out w5)
        go_wp2_with fail
        refine HL5.out.mono ?_
        rintro e w6 ⟨v6, rfl, hown6, hb6⟩
        obtain ⟨al, cl, rfl⟩ := run.own_value hown6
        have HO6 := run.hid hown6
        have HB6 := run.hid (HB5.out.trans (hb6.mono HB5.out.size))
        have HL6 := run.hid (HLA.out w6)
        clear HL5 hown6 hb6 HLI HLA
        go_wp2_with fail
        refine HL6.out.mono ?_
        rintro e w7 ⟨v7, rfl, hown7, hb7⟩
        obtain ⟨a7, c7, rfl⟩ := run.own_value hown7
        have hB := del_become HHW.out.1 HHW.out.2 HB3.out HB6.out HB5.out.size HO6.out HNI.out hb7 (by dsimp only; rw [HNF.out]; omega) (by omega) hdn hdm LA
        have HBE := run.hid hB
        have HPRE := run.hid (HBC.out.trans ((HB3.out.trans ((HB6.out.trans (hb7.mono HB6.out.size)).mono HB3.out.size)).mono HBC.out.size))
        clear hB hown7 hb7 HL6 HO6 HHW HB6 HB5
        go_wp2_with fail
        refine HBE.out.mono ?_
        rintro e w9 ⟨rfl, haf⟩
        rw [← HBT.out] at haf ⊢
        have HF := run.hid (After.pre HPRE.out haf)
        clear HBE haf HBT HPRE
        go_wp2
        go_ret
        exact ⟨rfl, HF.out⟩
end Go.Proofs.Ytgfjaegjkklcpaa.ed
