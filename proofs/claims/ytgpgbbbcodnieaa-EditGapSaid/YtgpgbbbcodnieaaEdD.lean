/-
  The editor: Insert, Delete; what stays true of it; its methods for use.
-/
import Derived.Test.YtgpgbbbcodnieaaEdBecome
import Derived.Test.YtgpgbbbcodnieaaUtfUse
import Derived.Test.YtgpgbbbcodnieaaLinPlain
import Derived.Deep.CutBlock
namespace Go.Proofs.Ytgpgbbbcodnieaa.ed
open Go Go.RowKit Go.Proofs
set_option linter.unusedVariables false
/-- what counts of a character that is typed -/
def typed1 (r : Int) : List Int := if r = 10 ∨ r = 9 then [32] else if (32 ≤ r ∧ r < 127) ∨ 159 < r then [r] else []
def typedT (l : List Int) : List Int := l.flatMap typed1
theorem typed_next {l : List Int} {k : Nat} (h : k < l.length) : typedT (l.take (k + 1)) = typedT (l.take k) ++ typed1 (l.getD k 0) := by
  unfold typedT
  rw [List.take_succ_eq_append_getElem h, List.flatMap_append]
  simp [List.getD_eq_getElem?_getD, h]
theorem typed1_len (r : Int) : (typed1 r).length ≤ 1 := by
  unfold typed1
  split
  · simp
  · split <;> simp
theorem typed_len : ∀ l : List Int, (typedT l).length ≤ l.length
  | [] => Nat.le_refl _
  | r :: t => by
    have h1 := typed_len t
    have h2 := typed1_len r
    have e : typedT (r :: t) = typed1 r ++ typedT t := rfl
    rw [e, List.length_append, List.length_cons]
    omega
/-- the bytes that are typed -/
def typedB (s : ByteArray) : ByteArray := utf.str (utf.text (typedT (utf.runes (utf.bs s))))
/-- the bytes of clusters, as a text -/
def textB (F : List TV) : ByteArray := ⟨(textL F).toArray⟩
/-- what stands ahead of the caret behind an Insert -/
def aheadI (s : Sta) (t : ByteArray) : ByteArray := textB (s.F.take (mkT s.an s.ca).1) ++ typedB t
def insL (s : Sta) (t : ByteArray) : List TV := lineT (aheadI s t ++ textB (s.F.drop (mkT s.an s.ca).2))
def insT (s : Sta) (t : ByteArray) : Bool × Sta :=
  if 65536 < sizeL (insL s t) then (false, s) else becomeT s (insL s t) (lineT (aheadI s t)).length (decide ((mkT s.an s.ca).1 < (mkT s.an s.ca).2))
theorem line_is (s : ByteArray) : lineT s = wrp.lineW s := rfl
theorem textL_bytes (F : List TV) : (textL F).map UInt8.toNat = wrp.bytesT F := by
  unfold textL wrp.bytesT
  rw [List.map_flatMap]
  rfl
theorem bs_textB (F : List TV) : utf.bs (textB F) = wrp.bytesT F := textL_bytes F
theorem size_bytes (F : List TV) : sizeL F = (wrp.bytesT F).length := by rw [← textL_bytes, List.length_map]; rfl
theorem lin_len {F : List TV} (h : wrp.Lin F) : F.length ≤ sizeL F := by
  have hw := h.wide
  clear h
  induction F with
  | nil => exact Nat.le_refl _
  | cons q t ih =>
    have h1 := (hw q (List.mem_cons_self ..)).2.1
    have h2 := ih (fun r hr => hw r (List.mem_cons_of_mem _ hr))
    have e : sizeL (q :: t) = q.1.size + sizeL t := by
      unfold sizeL textL
      rw [List.flatMap_cons, List.length_append]
      rfl
    rw [e, List.length_cons]
    omega
theorem After.pre {S : Nat → Prop} {b g lb : Nat} {s : Sta} {w wX w' : World} (hb : Below w.heap.size w wX) (h : After S b g lb s wX w') : After S b g lb s w w' := by
  obtain ⟨lb', hE, hlb, hk⟩ := h
  have := hb.size
  exact ⟨lb', hE, by omega, (Kept.of_below (S := Own b g lb) hb).trans hk (fun _ _ h => h)⟩
theorem EdS.below {S : Nat → Prop} {b g lb : Nat} {s : Sta} {w w' : World} (h : EdS S b g lb s w) (hb : Below w.heap.size w w') : EdS S b g lb s w' := h.kept (Kept.of_below (S := fun _ => False) hb) (fun _ h => h.elim) (fun _ h => .inl h) (fun _ h => h)
theorem mk_le {an : Int} {ca n : Nat} (h : ca ≤ n) (h2 : an ≤ n) : (mkT an ca).1 ≤ (mkT an ca).2 ∧ (mkT an ca).2 ≤ n := by
  unfold mkT
  split
  · exact ⟨Nat.le_refl _, h⟩
  · dsimp only
    omega
theorem line_len4 (s : ByteArray) : (lineT s).length ≤ 4 * s.size := by rw [lineT_len]; exact Go.Proofs.Ytgpgbbbcodnieaa.wrp.flow_len s
/-- the ways in which a row of the call's own lies -/
theorem own_ways {X : World} {B N : Nat} {a : Option Addr} {c mb : Nat} {F : List TV} (h : X.ownsRow B 74 2 (.slice a N c) N (cellsT F)) : (a = none ∧ c = 0 ∧ N = 0) ∨ (∃ g, a = some ⟨g, 0, none⟩ ∧ N ≤ c ∧ c = mb) ∨ (∃ g, a = some ⟨g, 0, none⟩ ∧ N ≤ c ∧ c ≠ mb) := by
  rcases h.2 with ⟨h1, h0⟩ | ⟨g3, cap3, cur3, h1, -, -, h2, -⟩
  · simp only [Value.slice.injEq] at h1
    exact .inl ⟨h1.1, h1.2.2, h0⟩
  · simp only [Value.slice.injEq] at h1
    obtain ⟨h1, -, rfl⟩ := h1
    by_cases e : c = mb
    · exact .inr (.inl ⟨g3, h1, h2, e⟩)
    · exact .inr (.inr ⟨g3, h1, h2, e⟩)
set_option maxRecDepth 100000 in
set_option maxHeartbeats 8000000 in
theorem insert_any {S : Nat → Prop} {b g lb : Nat} {s : Sta} {w : World} (h : EdS S b g lb s w) (t : ByteArray) (ht : t.size ≤ 1073741824) (hSlt : ∀ k, S k → k < w.heap.size) (hF : s.F.length ≤ 65536) (hFs : sizeL s.F ≤ 65536) (hca : s.ca ≤ s.F.length) (han : s.an ≤ s.F.length) (hdn : s.dn ≤ s.L.length) (hdm : s.dn ≤ 4096) :
    Calls Try.prog 19 #[.pointer (some ⟨b, 0, none⟩), .string t] w fun e w' => e = .returned (.bool (insT s t).1) ∧ After S b g lb (insT s t).2 w w' := by
  obtain ⟨F, ca, an, L, dn⟩ := s
  dsimp only at hF hFs hca han hdn hdm
  obtain ⟨i0, hi, hz0, hz1, hz2⟩ := info_parts utf.info_rune
  have HRU := run.hid (utf.runes_use t w (by omega) (by have := utf.runes_len t; omega))
  have hRl := utf.runes_len t
  have HTN := run.hid (fun k (hk : k < (utf.runes (utf.bs t)).length) => @typed_next (utf.runes (utf.bs t)) k hk)
  have HTL := run.hid (fun k => typed_len ((utf.runes (utf.bs t)).take k))
  have HTK := run.hid (show (utf.runes (utf.bs t)).take (utf.runes (utf.bs t)).length = utf.runes (utf.bs t) from List.take_of_length_le (Nat.le_refl _))
  have HIN := run.hid (show insT ⟨F, ca, an, L, dn⟩ t = if 65536 < sizeL (insL ⟨F, ca, an, L, dn⟩ t) then (false, ⟨F, ca, an, L, dn⟩) else becomeT ⟨F, ca, an, L, dn⟩ (insL ⟨F, ca, an, L, dn⟩ t) (lineT (aheadI ⟨F, ca, an, L, dn⟩ t)).length (decide ((mkT an ca).1 < (mkT an ca).2)) from rfl)
  have HIL := run.hid (And.intro (show insL ⟨F, ca, an, L, dn⟩ t = lineT (aheadI ⟨F, ca, an, L, dn⟩ t ++ textB (F.drop (mkT an ca).2)) from rfl) (show aheadI ⟨F, ca, an, L, dn⟩ t = textB (F.take (mkT an ca).1) ++ utf.str (utf.text (typedT (utf.runes (utf.bs t)))) from rfl))
  generalize insT ⟨F, ca, an, L, dn⟩ t = BT at *
  generalize insL ⟨F, ca, an, L, dn⟩ t = IL at *
  generalize aheadI ⟨F, ca, an, L, dn⟩ t = AH at *
  generalize utf.runes (utf.bs t) = R at *
  generalize hRN : R.length = N at *
  have HRN := run.hid hRN
  clear hRN
  have HH := run.hid (And.intro h hSlt)
  clear h hSlt
  go_enter Try.func19, Try.ntmps19
  go_wp2_with fail
  refine HRU.out.mono ?_
  rintro e w1 ⟨v, rfl, hown, hrd, hb1, -⟩
  have HRD := run.hid hrd
  have hlen0 := fun (X : World) => (show (Builtin.len_ #[88] 3 #[v]).run Try.prog X = .ok (.int .i64 (N : Nat)) X from by
    obtain ⟨a, c, rfl⟩ := run.own_value hown
    simp [go_sem, Builtin.len_])
  clear HRU hown hrd
  have HB1 := run.hid hb1
  clear hb1
  go_upto_block 0 with fail
  go_cut [5] (fun p wx => wx.ownsRow w.heap.size 21 1 p (typedT R).length (utf.rv (typedT R)) ∧ Below w.heap.size w wx)
  case first =>
    clear HIN HIL HH
    go_wp2
    go_loopw [21, 5] (fun vi vt wr => ∃ k : Nat, k ≤ N ∧ vi = .int .i64 k ∧ wr.ownsRow w1.heap.size 21 1 vt (typedT (R.take k)).length (utf.rv (typedT (R.take k))) ∧ Below w1.heap.size w1 wr) (fun vi _ _ => ((N : Int) - intOf vi).toNat)
    case atStart => exact ⟨0, Nat.zero_le _, rfl, World.ownsRow_nil _ _ _ _, Below.refl _ _⟩
    case round =>
      obtain ⟨k, hk, rfl, hown, hb2⟩ := hrel
      have hbel := hb2
      have hsz := hbel.size
      by_cases hlt : k < N
      · have hR0 : utf.rv R ≠ [] := by intro e; have := congrArg List.length e; rw [utf.rv_length, HRN.out, List.length_nil] at this; omega
        obtain ⟨rb, ro, rc, hv, hrb, hcell⟩ := utf.reads_get HRD.out hR0
        rw [utf.rv_length, HRN.out] at hv
        subst hv
        have x0 := (hb2.cell (p := ⟨rb, ro + k, none⟩) hrb).trans (hcell k (.int .i32 (R.getD k 0)) (by unfold utf.rv; rw [List.getElem?_map, List.getD_eq_getElem?_getD, List.getElem?_eq_getElem (by rw [HRN.out]; exact hlt)]; rfl))
        have hnx := HTN.out k (by first | exact hlt | (rw [HRN.out]; exact hlt))
        have hln := HTL.out k
        rw [List.length_take, HRN.out] at hln
        generalize typedT (R.take k) = xs at *
        clear HTN HTL HRD hcell hR0
        generalize R.getD k 0 = r at *
        by_cases h10 : r = 10
        · subst h10
          have h1 : typed1 10 = [32] := rfl
          rw [h1] at hnx
          clear h1
          go_upto_region 8 with fail
          go_wp2_with (at_builtin; refine wpList_append_own _ rfl _ _ 88 rfl w1.heap.size 21 i0 (.int .i32 0) 1 4 Try.underlying88 hi hz0 hz1 hz2 rfl (by decide) _ _ _ rfl (hown.alloc _) ⟨wr.heap.size, 0, none⟩ 1 1 [.int .i32 32] rfl rfl (run.news_one _ _ _) (by intro u hu; simp at hu; subst hu; rfl) (by unfold maxLen; omega) (by omega) (by simp; omega) ?_)
          intro v' w2 hown2 hgrow hnil
          rw [utf.rv_snoc] at hown2
          have hbel2 := run.below_append (hbel.alloc hsz _) (hown.alloc _) hgrow (by simp; omega)
          have ho3 : w2.ownsRow w1.heap.size 21 1 v' (typedT (R.take (k + 1))).length (utf.rv (typedT (R.take (k + 1)))) := by rw [hnx]; rw [List.length_append]; exact hown2
          have HO3 := run.hid (And.intro ho3 hbel2)
          clear hown hown2 hgrow hnil hbel ho3 hbel2 hnx
          go_wp2
          go_roundw
          case rel => exact ⟨k + 1, by omega, by go_num, HO3.out.1, HO3.out.2⟩
          case measure => simp [intOf]; omega
        · by_cases h9 : r = 9
          · subst h9
            have h1 : typed1 9 = [32] := rfl
            rw [h1] at hnx
            clear h1
            go_upto_region 8 with fail
            go_wp2_with (at_builtin; refine wpList_append_own _ rfl _ _ 88 rfl w1.heap.size 21 i0 (.int .i32 0) 1 4 Try.underlying88 hi hz0 hz1 hz2 rfl (by decide) _ _ _ rfl (hown.alloc _) ⟨wr.heap.size, 0, none⟩ 1 1 [.int .i32 32] rfl rfl (run.news_one _ _ _) (by intro u hu; simp at hu; subst hu; rfl) (by unfold maxLen; omega) (by omega) (by simp; omega) ?_)
            intro v' w2 hown2 hgrow hnil
            rw [utf.rv_snoc] at hown2
            have hbel2 := run.below_append (hbel.alloc hsz _) (hown.alloc _) hgrow (by simp; omega)
            have ho3 : w2.ownsRow w1.heap.size 21 1 v' (typedT (R.take (k + 1))).length (utf.rv (typedT (R.take (k + 1)))) := by rw [hnx]; rw [List.length_append]; exact hown2
            have HO3 := run.hid (And.intro ho3 hbel2)
            clear hown hown2 hgrow hnil hbel ho3 hbel2 hnx
            go_wp2
            go_roundw
            case rel => exact ⟨k + 1, by omega, by go_num, HO3.out.1, HO3.out.2⟩
            case measure => simp [intOf]; omega
          · have hq10 : ((r == 10) : Bool) = false := by simp [h10]
            have hq9 : ((r == 9) : Bool) = false := by simp [h9]
            by_cases hp : (32 ≤ r ∧ r < 127) ∨ 159 < r
            · have h1 : typed1 r = [r] := by unfold typed1; rw [if_neg (by omega), if_pos hp]
              rw [h1] at hnx
              clear h1
              rcases hp with ⟨hp1, hp2⟩ | hp1
              · go_upto_region 10 with fail
                go_wp2_with (at_builtin; refine wpList_append_own _ rfl _ _ 88 rfl w1.heap.size 21 i0 (.int .i32 0) 1 4 Try.underlying88 hi hz0 hz1 hz2 rfl (by decide) _ _ _ rfl (hown.alloc _) ⟨wr.heap.size, 0, none⟩ 1 1 [.int .i32 r] rfl rfl (run.news_one _ _ _) (by intro u hu; simp at hu; subst hu; rfl) (by unfold maxLen; omega) (by omega) (by simp; omega) ?_)
                intro v' w2 hown2 hgrow hnil
                rw [utf.rv_snoc] at hown2
                have hbel2 := run.below_append (hbel.alloc hsz _) (hown.alloc _) hgrow (by simp; omega)
                have ho3 : w2.ownsRow w1.heap.size 21 1 v' (typedT (R.take (k + 1))).length (utf.rv (typedT (R.take (k + 1)))) := by rw [hnx]; rw [List.length_append]; exact hown2
                have HO3 := run.hid (And.intro ho3 hbel2)
                clear hown hown2 hgrow hnil hbel ho3 hbel2 hnx
                go_wp2
                go_roundw
                case rel => exact ⟨k + 1, by omega, by go_num, HO3.out.1, HO3.out.2⟩
                case measure => simp [intOf]; omega
              · have hp2 : 32 ≤ r := by omega
                have hp3 : ¬ r < 127 := by omega
                go_upto_region 10 with fail
                go_wp2_with (at_builtin; refine wpList_append_own _ rfl _ _ 88 rfl w1.heap.size 21 i0 (.int .i32 0) 1 4 Try.underlying88 hi hz0 hz1 hz2 rfl (by decide) _ _ _ rfl (hown.alloc _) ⟨wr.heap.size, 0, none⟩ 1 1 [.int .i32 r] rfl rfl (run.news_one _ _ _) (by intro u hu; simp at hu; subst hu; rfl) (by unfold maxLen; omega) (by omega) (by simp; omega) ?_)
                intro v' w2 hown2 hgrow hnil
                rw [utf.rv_snoc] at hown2
                have hbel2 := run.below_append (hbel.alloc hsz _) (hown.alloc _) hgrow (by simp; omega)
                have ho3 : w2.ownsRow w1.heap.size 21 1 v' (typedT (R.take (k + 1))).length (utf.rv (typedT (R.take (k + 1)))) := by rw [hnx]; rw [List.length_append]; exact hown2
                have HO3 := run.hid (And.intro ho3 hbel2)
                clear hown hown2 hgrow hnil hbel ho3 hbel2 hnx
                go_wp2
                go_roundw
                case rel => exact ⟨k + 1, by omega, by go_num, HO3.out.1, HO3.out.2⟩
                case measure => simp [intOf]; omega
            · have h1 : typed1 r = [] := by unfold typed1; rw [if_neg (by omega), if_neg hp]
              rw [h1, List.append_nil] at hnx
              clear h1
              have HO3 := run.hid (And.intro hown hb2)
              have HNX := run.hid hnx
              clear hown hbel hb2 hnx
              by_cases hp1 : 32 ≤ r
              · have hp2 : ¬ r < 127 := by omega
                have hp3 : ¬ 159 < r := by omega
                clear hp
                go_wp2
                go_roundw
                case rel => exact ⟨k + 1, by omega, by go_num, by rw [HNX.out]; exact HO3.out.1, HO3.out.2⟩
                case measure => simp [intOf]; omega
              · have hp3 : ¬ 159 < r := by omega
                clear hp
                go_wp2
                go_roundw
                case rel => exact ⟨k + 1, by omega, by go_num, by rw [HNX.out]; exact HO3.out.1, HO3.out.2⟩
                case measure => simp [intOf]; omega
      · obtain rfl : k = N := by omega
        rw [HTK.out] at hown
        have HO3 := run.hid (And.intro hown hbel)
        clear hown hbel hb2 HTN HTL
        go_wp2
        go_meet
        exact ⟨own_base HO3.out.1 HB1.out.size, HB1.out.trans (HO3.out.2.mono HB1.out.size)⟩
  case rest =>
    obtain ⟨hown, hbel⟩ := hcut
    have hEw := HH.out.1
    obtain ⟨⟨sv, hE, hS⟩, sb, sg, sl⟩ := hEw
    dsimp only at hE
    have hEc := hE.below hbel
    have HM := run.hid (marked_any hEc)
    have HED := run.hid (fun (X : World) (hX : Below wc.heap.size wc X) => hEc.below hX)
    have hTl : (typedT R).length ≤ 1073741824 := by have := HTL.out N; rw [HTK.out, HRN.out] at this; omega
    have HTX := run.hid (fun (X : World) (hX : Below wc.heap.size wc X) => utf.text_any _ (typedT R) X (run.reads_own (run.own_below hown hX)) (by omega))
    have hmk := mk_le (an := an) hca han
    have HBC := run.hid hbel
    clear hE hS sb sg sl hEc hown hbel HRD HTN HTL HTK HB1 hRl
    generalize mkT an ca = MK at *
    obtain ⟨ma, mb⟩ := MK
    dsimp only at hmk HM HIN HIL
    go_wp2_with fail
    refine HM.out.mono ?_
    rintro e w2 ⟨rfl, hs2⟩
    have hb2 := hs2.below
    have hE2 := HED.out w2 hb2
    have c0 := blk_cell hE2.box 0
    change w2.cell? _ = some (.pointer (some ⟨g, 0, none⟩)) at c0
    obtain ⟨gn, gcap, gf, gu, gA, hG, hgc, hgn, hgl⟩ := hE2.gap
    have HALL := run.hid (edC.all_any hG hgc (cellsT_one F) hgn)
    rw [hgl] at HALL
    have HB2 := run.hid hb2
    clear HM hs2 hb2 hE2 hG hgc hgn hgl
    go_wp2_with fail
    refine HALL.out.mono ?_
    rintro e w3 ⟨v3, rfl, hown, hb3⟩
    obtain ⟨a3, c3, rfl⟩ := run.own_value hown
    have hb23 := HB2.out.trans (hb3.mono HB2.out.size)
    have HO3 := run.hid hown
    have HB3 := run.hid (And.intro hb23 hb3)
    clear HALL hb3 hb23 c0 HB2
    have hTB : utf.text (typedT R) = utf.text (typedT R) := rfl
    have hsz1 : (utf.str (utf.text (typedT R))).size ≤ 4294967296 := by rw [utf.str_size]; have := (utf.text_length (typedT R)).2; omega
    have hszA : (textL (F.take ma)).length ≤ 65536 := Nat.le_trans (textL_le F ma) hFs
    have hszB : (textL (F.drop mb)).length ≤ 65536 := by
      have h : textL F = textL (F.take mb) ++ textL (F.drop mb) := by unfold textL; rw [← List.flatMap_append, List.take_append_drop]
      have h2 : (textL F).length ≤ 65536 := hFs
      rw [h, List.length_append] at h2
      omega
    have HTA := run.hid (fun (a : Option Addr) (c : Nat) (hS : Src 2 w3 a (F.take ma).length c (cellsT (F.take ma))) => text_any a c (F.take ma) w3 hS (by omega) (by rw [List.length_take]; omega))
    have HTB := run.hid (fun (X : World) (a : Option Addr) (c : Nat) (hS : Src 2 X a (F.drop mb).length c (cellsT (F.drop mb))) => text_any a c (F.drop mb) X hS (by omega) (by rw [List.length_drop]; omega))
    have hlA : (F.take ma).length = ma := by rw [List.length_take]; omega
    have hlB : (F.drop mb).length = F.length - mb := by rw [List.length_drop]
    rw [hlA] at HTA
    rw [hlB] at HTB
    have HSA := run.hid (src_own HO3.out rfl (i := ma) (by omega))
    have HSB := run.hid (fun (hc : F.length ≤ c3) => src_cut (lo := mb) (hi := F.length) (by have := src_own HO3.out rfl (i := F.length) (Nat.le_refl _); rw [List.take_of_length_le (Nat.le_refl _)] at this; exact this) rfl hmk.2 (Nat.le_refl _) hc)
    have HDR := run.hid (show (F.drop mb).take (F.length - mb) = F.drop mb from List.take_of_length_le (by rw [List.length_drop]; omega))
    rw [HDR.out] at HSB
    clear hTB hlA hlB HDR hszA hszB
    obtain ⟨TA, hTA⟩ : ∃ TA, TA = textB (F.take ma) := ⟨_, rfl⟩
    obtain ⟨TBB, hTB⟩ : ∃ TB, TB = textB (F.drop mb) := ⟨_, rfl⟩
    obtain ⟨TY, hTY⟩ : ∃ TY, TY = utf.str (utf.text (typedT R)) := ⟨_, rfl⟩
    have hTAs : TA.size ≤ 65536 := by rw [hTA]; exact Nat.le_trans (textL_le F ma) hFs
    rw [← hTY] at hsz1
    have hTAe : (⟨(textL (F.take ma)).toArray⟩ : ByteArray) = TA := hTA.symm
    have hTBe : (⟨(textL (F.drop mb)).toArray⟩ : ByteArray) = TBB := hTB.symm
    rw [hTAe] at HTA
    rw [hTBe] at HTB
    rw [← hTY] at HTX HIL
    rw [← hTA, ← hTB] at HIL
    have hTBs : TBB.size ≤ 65536 := by
      rw [hTB]
      have h : textL F = textL (F.take mb) ++ textL (F.drop mb) := by unfold textL; rw [← List.flatMap_append, List.take_append_drop]
      have h2 : (textL F).length ≤ 65536 := hFs
      rw [h, List.length_append] at h2
      show (textL (F.drop mb)).length ≤ 65536
      omega
    have hovA : ¬ 9223372036854775807 < TA.size + TY.size := by omega
    have hAHs : (TA ++ TY).size ≤ 8589934592 := by rw [ByteArray.size_append]; omega
    have hAH := HIL.out.2
    have HLI := run.hid (fun (X : World) => line_any (AH ++ TBB) X (by rw [hAH, ByteArray.size_append]; omega))
    have HLA := run.hid (fun (X : World) => line_any AH X (by rw [hAH]; omega))
    have hovB : ¬ 9223372036854775807 < AH.size + TBB.size := by rw [hAH]; omega
    rw [← HIL.out.1] at HLI
    have hlen1 := line_len4 (AH ++ TBB)
    have hlen2 := line_len4 AH
    rw [← HIL.out.1, ByteArray.size_append] at hlen1
    rw [hAH] at hlen1 hlen2
    have HFIL := run.hid (show wrp.Lin IL ∧ IL.length ≤ 68719476736 ∧ (lineT AH).length ≤ 68719476736 ∧ sizeL IL ≤ 68719476736 from ⟨by rw [HIL.out.1, line_is]; exact (wrp.lin_line _).1, by omega, by rw [hAH]; omega, by
      have h1 := (wrp.lin_line (AH ++ TBB)).2
      have h2 := wrp.flowText_size (AH ++ TBB)
      rw [HIL.out.1, size_bytes, line_is]
      rw [utf.bs_length] at h1
      rw [ByteArray.size_append, hAH] at h2
      rw [hAH] at h1 ⊢
      omega⟩)
    have HAH := run.hid hAH
    clear hTA hTB hTY hTAe hTBe hlen1 hlen2 HIL hAH
    generalize hNF : F.length = NF at *
    have HNF := run.hid hNF
    clear hNF
    have hways := own_ways (mb := mb) HO3.out
    clear HO3
    go_upto_region 14 with fail
    go_cut [11] (fun p wx => p = .string AH ∧ Below w3.heap.size w3 wx)
    case first =>
      clear HIN HH HLI HLA HFIL
      rcases hways with ⟨rfl, rfl, rfl⟩ | ⟨g3, rfl, hNc, rfl⟩ | ⟨g3, rfl, hNc, hcm⟩
      · have hm0 : ma = 0 := by omega
        subst hm0
        have HT1 := run.hid (HTA.out none 0 HSA.out)
        clear HSA HSB HTA HTB
        go_wp2_with fail
        refine HT1.out.mono ?_
        rintro e w4 ⟨rfl, hb4⟩
        have HX4 := run.hid (HTX.out w4 (HB3.out.1.trans (hb4.mono HB3.out.1.size)))
        have HB4 := run.hid hb4
        clear HT1 hb4
        go_wp2_with fail
        refine HX4.out.mono ?_
        rintro e w5 ⟨rfl, hb5⟩
        have HF := run.hid (HB4.out.trans (hb5.mono HB4.out.size))
        clear HX4 HB4 hb5
        go_wp2
        go_meet
        exact ⟨by rw [HAH.out], HF.out⟩
      · have HT1 := run.hid (HTA.out _ _ HSA.out)
        clear HSA HSB HTA HTB
        go_wp2_with fail
        refine HT1.out.mono ?_
        rintro e w4 ⟨rfl, hb4⟩
        have HX4 := run.hid (HTX.out w4 (HB3.out.1.trans (hb4.mono HB3.out.1.size)))
        have HB4 := run.hid hb4
        clear HT1 hb4
        go_wp2_with fail
        refine HX4.out.mono ?_
        rintro e w5 ⟨rfl, hb5⟩
        have HF := run.hid (HB4.out.trans (hb5.mono HB4.out.size))
        clear HX4 HB4 hb5
        go_wp2
        go_meet
        exact ⟨by rw [HAH.out], HF.out⟩
      · have HT1 := run.hid (HTA.out _ _ HSA.out)
        clear HSA HSB HTA HTB
        go_wp2_with fail
        refine HT1.out.mono ?_
        rintro e w4 ⟨rfl, hb4⟩
        have HX4 := run.hid (HTX.out w4 (HB3.out.1.trans (hb4.mono HB3.out.1.size)))
        have HB4 := run.hid hb4
        clear HT1 hb4
        go_wp2_with fail
        refine HX4.out.mono ?_
        rintro e w5 ⟨rfl, hb5⟩
        have HF := run.hid (HB4.out.trans (hb5.mono HB4.out.size))
        clear HX4 HB4 hb5
        go_wp2
        go_meet
        exact ⟨by rw [HAH.out], HF.out⟩
    case rest =>
      obtain ⟨rfl, hb4⟩ := hcut
      have HB4 := run.hid hb4
      clear hb4
      go_upto_region 15 with fail
      generalize wc = wd at *
      go_cut [12] (fun p wx => wx.ownsRow w3.heap.size 74 2 p IL.length (cellsT IL) ∧ Below w3.heap.size w3 wx)
      case first =>
        clear HIN HH HLA HFIL
        rcases hways with ⟨rfl, rfl, rfl⟩ | ⟨g3, rfl, hNc, rfl⟩ | ⟨g3, rfl, hNc, hcm⟩
        · have hm0 : ma = 0 := by omega
          have hm1 : mb = 0 := by omega
          subst hm0
          subst hm1
          have HT2 := run.hid (HTB.out wd none 0 ((HSB.out (by omega)).of HB4.out.size (fun k off e h => HB4.out.block k h)))
          clear HSA HSB HTA HTB
          go_wp2_with fail
          refine HT2.out.mono ?_
          rintro e w5 ⟨rfl, hb5⟩
          have HB5 := run.hid (HB4.out.trans (hb5.mono HB4.out.size))
          clear HT2 hb5
          have HL5 := run.hid (HLI.out w5)
          go_wp2_with fail
          refine HL5.out.mono ?_
          rintro e w6 ⟨v6, rfl, hown6, hb6⟩
          have HF := run.hid (And.intro (own_base hown6 HB5.out.size) (HB5.out.trans (hb6.mono HB5.out.size)))
          clear HL5 hown6 hb6
          go_wp2
          go_meet
          exact HF.out
        · have hm1 : NF = c3 := by omega
          have hS2 := (HSB.out (by omega)).of HB4.out.size (fun k off e h => HB4.out.block k h)
          simp only [cutAt, if_true, Nat.zero_add, Nat.sub_self] at hS2
          subst hm1
          rw [Nat.sub_self] at hS2
          have hT2 := HTB.out wd
          rw [Nat.sub_self] at hT2
          have HT2 := run.hid (hT2 _ _ hS2)
          clear hS2 hT2
          clear HSA HSB HTA HTB
          go_wp2_with fail
          refine HT2.out.mono ?_
          rintro e w5 ⟨rfl, hb5⟩
          have HB5 := run.hid (HB4.out.trans (hb5.mono HB4.out.size))
          clear HT2 hb5
          have HL5 := run.hid (HLI.out w5)
          go_wp2_with fail
          refine HL5.out.mono ?_
          rintro e w6 ⟨v6, rfl, hown6, hb6⟩
          have HF := run.hid (And.intro (own_base hown6 HB5.out.size) (HB5.out.trans (hb6.mono HB5.out.size)))
          clear HL5 hown6 hb6
          go_wp2
          go_meet
          exact HF.out
        · have hS2 := (HSB.out (by omega)).of HB4.out.size (fun k off e h => HB4.out.block k h)
          simp only [cutAt, hcm, if_false, Nat.zero_add] at hS2
          have HT2 := run.hid (HTB.out wd _ _ hS2)
          clear hS2
          clear HSA HSB HTA HTB
          go_wp2_with fail
          refine HT2.out.mono ?_
          rintro e w5 ⟨rfl, hb5⟩
          have HB5 := run.hid (HB4.out.trans (hb5.mono HB4.out.size))
          clear HT2 hb5
          have HL5 := run.hid (HLI.out w5)
          go_wp2_with fail
          refine HL5.out.mono ?_
          rintro e w6 ⟨v6, rfl, hown6, hb6⟩
          have HF := run.hid (And.intro (own_base hown6 HB5.out.size) (HB5.out.trans (hb6.mono HB5.out.size)))
          clear HL5 hown6 hb6
          go_wp2
          go_meet
          exact HF.out
      case rest =>
        obtain ⟨hown, hb5⟩ := hcut
        obtain ⟨al, cl, hp⟩ := run.own_value hown
        subst hp
        have hcl : IL.length ≤ cl := by
          rcases hown.2 with ⟨h1, h0⟩ | ⟨g4, cap4, cur4, h1, -, -, h2, -⟩
          · omega
          · simp only [Value.slice.injEq] at h1; omega
        have HAB := run.hid (show ∀ k off x, al = some ⟨k, off, x⟩ → w3.heap.size ≤ k from by
          intro k off x e
          rcases hown.2 with ⟨h1, -⟩ | ⟨g4, cap4, cur4, h1, h2, -⟩
          · simp only [Value.slice.injEq] at h1; rw [h1.1] at e; cases e
          · simp only [Value.slice.injEq] at h1
            rw [h1.1] at e
            simp only [Option.some.injEq, Addr.mk.injEq] at e
            omega)
        have HOW := run.hid hown
        have HB5 := run.hid hb5
        have hB3 := HB3.out.1
        have hbw := HBC.out.trans (hB3.mono HBC.out.size)
        have hbw5 := hbw.trans (hb5.mono hbw.size)
        have HBW := run.hid hbw5
        have HW3 := run.hid hbw.size
        have hNI := HFIL.out.2.1
        have hszI := HFIL.out.2.2.2
        have HSN := run.hid (fun i (hi : i < IL.length) => @sizeL_snoc IL i hi)
        have HTKI := run.hid (show IL.take IL.length = IL from List.take_of_length_le (Nat.le_refl _))
        have HSL := run.hid (fun i => show sizeL (IL.take i) ≤ sizeL IL from textL_le IL i)
        clear hown hb5 hB3 hbw hbw5 HB3 HB4 HBC HSA HSB HTA HTB HTX HLI HED HAH hways
        generalize wc = we at *
        generalize hNI2 : IL.length = NI at *
        have HNI := run.hid hNI2
        clear hNI2
        go_upto_block 3 with fail
        go_cut [13] (fun p wx => p = .int .i64 (sizeL IL : Nat) ∧ Below we.heap.size we wx)
        case first =>
          clear HIN HH HLA
          go_wp2
          go_loopw [77, 13] (fun vi vn wr => ∃ k : Nat, k ≤ NI ∧ vi = .int .i64 k ∧ vn = .int .i64 (sizeL (IL.take k) : Nat) ∧ Below we.heap.size we wr) (fun vi _ _ => ((NI : Int) - intOf vi).toNat)
          case atStart => exact ⟨0, Nat.zero_le _, rfl, rfl, Below.refl _ _⟩
          case round =>
            obtain ⟨k, hk, rfl, rfl, hbel⟩ := hrel
            have hle := HSL.out k
            by_cases hlt : k < NI
            · have hown := run.own_below HOW.out hbel
              obtain ⟨g3, rfl⟩ : ∃ g3, al = some ⟨g3, 0, none⟩ := by
                rcases hown.2 with ⟨e, h0⟩ | ⟨g3, c, cur, e, -⟩
                · omega
                · simp only [Value.slice.injEq] at e
                  exact ⟨g3, e.1⟩
              obtain ⟨x0, x1⟩ := own_cells hown (i := k) (by rw [HNI.out]; exact hlt)
              have hsn := HSN.out k (by first | exact hlt | (rw [HNI.out]; exact hlt))
              have hle2 := HSL.out (k + 1)
              rw [hsn] at hle2
              generalize IL.getD k tv0 = q at *
              obtain ⟨qt, qw⟩ := q
              dsimp only at x0 x1 hsn hle2
              have HS := run.hid hsn
              have hb2 := hbel.alloc hbel.size (.cells #[.string qt, .int .i64 (qw : Nat)] 74)
              have HF := run.hid hb2
              have hqs : ((sizeL (IL.take k) : Nat) : Int) + (qt.size : Int) ≤ 68719476736 := by omega
              clear hsn hle2 hown hbel hb2 HSN HSL
              generalize sizeL (IL.take k) = sk at *
              go_wp2
              go_roundw
              case rel => exact ⟨k + 1, by omega, by go_num, by rw [HS.out]; go_num, HF.out⟩
              case measure => simp [intOf]; omega
            · obtain rfl : k = NI := by omega
              rw [HTKI.out]
              have HF := run.hid hbel
              clear hbel HSN HSL
              go_wp2
              go_meet
              exact ⟨rfl, HF.out⟩
        case rest =>
          obtain ⟨rfl, hbz⟩ := hcut
          have HBZ := run.hid hbz
          clear hbz HSN HTKI HSL
          generalize wc = wz at *
          obtain ⟨SI, hSI⟩ : ∃ SI, SI = sizeL IL := ⟨_, rfl⟩
          rw [← hSI] at hszI HIN ⊢
          have HSI := run.hid hSI
          clear hSI
          by_cases hbig : 65536 < SI
          · have hbigI : (65536 : Int) < (SI : Int) := by omega
            have hBT := HIN.out
            rw [if_pos hbig] at hBT
            have HF := run.hid (And.intro hBT (After.stay HH.out.1 (Kept.of_below (HBW.out.trans (HBZ.out.mono HBW.out.size)))))
            clear hBT HIN HH HLA HOW HAB HFIL
            go_wp2
            go_ret
            rw [HF.out.1]
            exact ⟨rfl, HF.out.2⟩
          · have hbigI : ¬ (65536 : Int) < (SI : Int) := by omega
            have hBT := HIN.out
            rw [if_neg hbig] at hBT
            have HBT := run.hid hBT
            clear hBT HIN
            have HL1 := run.hid (HLA.out wz)
            obtain ⟨LA, hLA⟩ : ∃ LA, LA = (lineT AH).length := ⟨_, rfl⟩
            rw [← hLA] at HL1 HBT
            clear HLA hLA
            go_wp2_with fail
            refine HL1.out.mono ?_
            rintro e w7 ⟨v7, rfl, hown7, hb7⟩
            obtain ⟨a7, c7, rfl⟩ := run.own_value hown7
            have hbzz := HBZ.out.trans (hb7.mono HBZ.out.size)
            have hb07 := HBW.out.trans (hbzz.mono HBW.out.size)
            have hown9 := run.own_below HOW.out hbzz
            have hsr : Src 2 w7 al NI cl (cellsT IL) := by
              have hh := src_own hown9 HNI.out (i := NI) (Nat.le_refl _)
              rw [List.take_of_length_le (by rw [HNI.out]; exact Nat.le_refl _)] at hh
              exact hh
            have hNI2 : NI ≤ 65536 := by
              have := lin_len HFIL.out.1
              rw [HNI.out, ← HSI.out] at this
              omega
            have HBEC := run.hid (fun (al' : Bool) => become_any (HH.out.1.below hb07) al cl IL LA al' (by rw [HNI.out]; exact hsr) (by rw [HNI.out]; exact hcl) (fun k off e h => by
              have h1 := HAB.out k off none e
              have h2 := HH.out.2 k h
              have h3 := HW3.out
              omega) (fun k h => Nat.lt_of_lt_of_le (HH.out.2 k h) hb07.size) (by dsimp only; rw [HNF.out]; omega) (by rw [HNI.out]; omega) hdn hdm)
            have HB07 := run.hid hb07
            clear hown7 hb7 hbzz hb07 hown9 hsr HL1 HOW HAB HFIL HH HBZ HBW
            by_cases hab : ma < mb
            · have habI : (ma : Int) < (mb : Int) := by omega
              have hB1 := HBEC.out true
              rw [HNI.out] at hB1
              have HB1 := run.hid hB1
              have HBT2 := run.hid (show BT = becomeT ⟨F, ca, an, L, dn⟩ IL LA true from by rw [HBT.out, decide_eq_true hab])
              clear hB1 HBEC HBT
              go_wp2_with fail
              refine HB1.out.mono ?_
              rintro e w9 ⟨rfl, haf⟩
              rw [← HBT2.out] at haf ⊢
              have HF := run.hid (After.pre HB07.out haf)
              clear HB1 haf HBT2
              go_wp2
              go_ret
              exact ⟨rfl, HF.out⟩
            · have habI : ¬ (ma : Int) < (mb : Int) := by omega
              have hB1 := HBEC.out false
              rw [HNI.out] at hB1
              have HB1 := run.hid hB1
              have HBT2 := run.hid (show BT = becomeT ⟨F, ca, an, L, dn⟩ IL LA false from by rw [HBT.out, decide_eq_false hab])
              clear hB1 HBEC HBT
              go_wp2_with fail
              refine HB1.out.mono ?_
              rintro e w9 ⟨rfl, haf⟩
              rw [← HBT2.out] at haf ⊢
              have HF := run.hid (After.pre HB07.out haf)
              clear HB1 haf HBT2
              go_wp2
              go_ret
              exact ⟨rfl, HF.out⟩
end Go.Proofs.Ytgpgbbbcodnieaa.ed
namespace Go.Proofs.Ytgpgbbbcodnieaa.ed
open Go Go.RowKit Go.Proofs
set_option linter.unusedVariables false
theorem bs_app (a b : ByteArray) : utf.bs (a ++ b) = utf.bs a ++ utf.bs b := by simp [utf.bs, ByteArray.data_append]
/-- what is left when these are taken out -/
def delL (F : List TV) (a b : Nat) : List TV := lineT (textB (F.take a) ++ textB (F.drop b))
def del2 (s : Sta) (a b : Nat) : Bool × Sta := becomeT s (delL s.F a b) (lineT (textB (s.F.take a))).length true
def delT (s : Sta) (way : Int) : Bool × Sta :=
  if (mkT s.an s.ca).1 = (mkT s.an s.ca).2 then
    match leadsT s.F s.ca way with
    | none => (false, s)
    | some tt => if tt = s.ca then (false, s) else del2 s (min tt s.ca) (max tt s.ca)
  else del2 s (mkT s.an s.ca).1 (mkT s.an s.ca).2
/-- become, of a row that the call itself has made -/
theorem del_become {S : Nat → Prop} {b g lb : Nat} {s : Sta} {wv w3 w5 w6 w7 : World} {IL : List TV} {NI : Nat} {al : Option Addr} {cl : Nat} (hE : EdS S b g lb s wv) (hSlt : ∀ k, S k → k < wv.heap.size) (hb3 : Below wv.heap.size wv w3) (hb6 : Below w3.heap.size w3 w6) (h5 : w3.heap.size ≤ w5.heap.size)
    (hown : w6.ownsRow w5.heap.size 74 2 (.slice al NI cl) NI (cellsT IL)) (hN : IL.length = NI) (hb7 : Below w6.heap.size w6 w7) (hF : s.F.length ≤ 1048576) (hNI : NI ≤ 1048576) (hdn : s.dn ≤ s.L.length) (hdm : s.dn ≤ 4096) (LA : Nat) :
    Calls Try.prog 45 #[.pointer (some ⟨b, 0, none⟩), .slice al NI cl, .int .i64 (LA : Nat), .bool true] w7 fun e w' => e = .returned (.bool (becomeT s IL LA true).1) ∧ After S b g lb (becomeT s IL LA true).2 w7 w' := by
  subst hN
  have hown7 := run.own_below hown hb7
  have h36 := hb3.trans (hb6.mono hb3.size)
  have h37 := h36.trans (hb7.mono h36.size)
  have hcl : IL.length ≤ cl := by
    rcases hown.2 with ⟨h1, h0⟩ | ⟨g4, cap4, cur4, h1, -, -, h2, -⟩
    · omega
    · simp only [Value.slice.injEq] at h1; omega
  have hsr : Src 2 w7 al IL.length cl (cellsT IL) := by
    have hh := src_own hown7 rfl (i := IL.length) (Nat.le_refl _)
    rw [List.take_of_length_le (Nat.le_refl _)] at hh
    exact hh
  refine become_any (hE.below h37) al cl IL LA true hsr hcl (fun k off e h => ?_) (fun k h => Nat.lt_of_lt_of_le (hSlt k h) h37.size) hF hNI hdn hdm
  have h1 := hSlt k h
  have h2 := hb3.size
  rcases hown.2 with ⟨h3, -⟩ | ⟨g4, cap4, cur4, h3, h4, -⟩
  · simp only [Value.slice.injEq] at h3; rw [h3.1] at e; cases e
  · simp only [Value.slice.injEq] at h3
    rw [h3.1] at e
    simp only [Option.some.injEq, Addr.mk.injEq] at e
    omega
set_option maxRecDepth 100000 in
set_option maxHeartbeats 8000000 in
theorem delete_any {S : Nat → Prop} {b g lb : Nat} {s : Sta} {w : World} (h : EdS S b g lb s w) (way : Int) (hSlt : ∀ k, S k → k < w.heap.size) (hFl : wrp.Lin s.F) (hFs : sizeL s.F ≤ 65536) (hca : s.ca ≤ s.F.length) (han : s.an ≤ s.F.length) (hdn : s.dn ≤ s.L.length) (hdm : s.dn ≤ 4096) :
    Calls Try.prog 20 #[.pointer (some ⟨b, 0, none⟩), .int .i64 way] w fun e w' => e = .returned (.bool (delT s way).1) ∧ After S b g lb (delT s way).2 w w' := by
  obtain ⟨F, ca, an, L, dn⟩ := s
  dsimp only at hFl hFs hca han hdn hdm
  have hF : F.length ≤ 65536 := Nat.le_trans (lin_len hFl) hFs
  obtain ⟨⟨sv, hE, hS⟩, sb, sg, sl⟩ := h
  dsimp only at hE hS
  have HH := run.hid (And.intro (show EdS S b g lb ⟨F, ca, an, L, dn⟩ w from ⟨⟨sv, hE, hS⟩, sb, sg, sl⟩) hSlt)
  have HFL := run.hid hFl
  have HM := run.hid (marked_any hE)
  have HED := run.hid (fun (X : World) (hX : Below w.heap.size w X) => hE.below hX)
  have HLD := run.hid (fun (X : World) (hX : Below w.heap.size w X) => leads_any (hE.below hX) way hca (by omega))
  unfold LeadsIs at HLD
  have hmk := mk_le (an := an) hca han
  have HDT := run.hid (show delT ⟨F, ca, an, L, dn⟩ way = if (mkT an ca).1 = (mkT an ca).2 then (match leadsT F ca way with | none => (false, ⟨F, ca, an, L, dn⟩) | some tt => if tt = ca then (false, ⟨F, ca, an, L, dn⟩) else del2 ⟨F, ca, an, L, dn⟩ (min tt ca) (max tt ca)) else del2 ⟨F, ca, an, L, dn⟩ (mkT an ca).1 (mkT an ca).2 from rfl)
  have HLE := run.hid (fun tt (h : leadsT F ca way = some tt) => leads_le h hca)
  generalize delT ⟨F, ca, an, L, dn⟩ way = BT at *
  clear hE hS sb sg sl hFl hSlt
  generalize mkT an ca = MK at *
  generalize hld : leadsT F ca way = ld at *
  clear hld
  obtain ⟨m0, m1⟩ := MK
  dsimp only at hmk HM HDT
  go_enter Try.func20, Try.ntmps20
  go_wp2_with fail
  refine HM.out.mono ?_
  rintro e w1 ⟨rfl, hs1⟩
  have hb1 := hs1.below
  have HB1 := run.hid hb1
  clear HM hs1 hb1
  go_upto_if 20 with fail
  go_cut [5, 6] (fun p q wx => ∃ a b : Nat, p = .int .i64 (a : Nat) ∧ q = .int .i64 (b : Nat) ∧ a ≤ b ∧ b ≤ F.length ∧ Hid (BT = del2 ⟨F, ca, an, L, dn⟩ a b) ∧ Below w.heap.size w wx)
  case first =>
    by_cases hm : m0 = m1
    · subst hm
      have hdt := HDT.out
      rw [if_pos rfl] at hdt
      have HD2 := run.hid hdt
      have HL1 := run.hid (HLD.out w1 HB1.out)
      have heq : ((m0 : Int) == (m0 : Int)) = true := by simp
      clear hdt HDT HLD
      go_wp2_with fail
      refine HL1.out.mono ?_
      rintro e w2 ⟨hb2, ⟨tt, rfl, rfl⟩ | ⟨rfl, rfl⟩⟩
      · have hb02 := HB1.out.trans (hb2.mono HB1.out.size)
        have hE2 := HED.out w2 hb02
        have c1 := blk_cell hE2.box 1
        change w2.cell? _ = some (.int .i64 (ca : Nat)) at c1
        have HB2 := run.hid hb02
        have hdt := HD2.out
        have hle := HLE.out tt rfl
        clear HL1 hb2 hb02 hE2 HD2 HED HFL heq
        by_cases htc : tt = ca
        · subst htc
          rw [show (match (some tt : Option Nat) with | none => (false, (⟨F, tt, an, L, dn⟩ : Sta)) | some t2 => if t2 = tt then (false, ⟨F, tt, an, L, dn⟩) else del2 ⟨F, tt, an, L, dn⟩ (min t2 tt) (max t2 tt)) = (false, ⟨F, tt, an, L, dn⟩) from if_pos rfl] at hdt
          have HF := run.hid (And.intro hdt (After.stay HH.out.1 (Kept.of_below HB2.out)))
          have heq : ((tt : Int) == (tt : Int)) = true := by simp
          clear hdt HH HB2 HLE
          go_wp2
          go_ret
          rw [HF.out.1]
          exact ⟨rfl, HF.out.2⟩
        · rw [show (match (some tt : Option Nat) with | none => (false, (⟨F, ca, an, L, dn⟩ : Sta)) | some t2 => if t2 = ca then (false, ⟨F, ca, an, L, dn⟩) else del2 ⟨F, ca, an, L, dn⟩ (min t2 ca) (max t2 ca)) = del2 ⟨F, ca, an, L, dn⟩ (min tt ca) (max tt ca) from if_neg htc] at hdt
          have HDD := run.hid hdt
          have heq : ((tt : Int) == (ca : Int)) = false := by simp only [beq_eq_false_iff_ne, ne_eq]; omega
          have hmn : min (tt : Int) (ca : Int) = ((min tt ca : Nat) : Int) := by omega
          have hmx : max (tt : Int) (ca : Int) = ((max tt ca : Nat) : Int) := by omega
          have h3 : min tt ca ≤ max tt ca := by omega
          have h4 : max tt ca ≤ F.length := by omega
          clear hdt HH HLE
          generalize min tt ca = pa at *
          generalize max tt ca = pb at *
          go_upto_region 8 with fail
          go_region
          go_wp2
          go_meet
          exact ⟨pa, pb, by rw [← hmn], by rw [← hmx], h3, h4, HDD, HB2.out.drew⟩
      · have hdt := HD2.out
        have HF := run.hid (And.intro hdt (After.stay HH.out.1 (Kept.of_below (HB1.out.trans (hb2.mono HB1.out.size)))))
        clear hdt HH HLE HL1 hb2 HD2 HED HFL heq
        go_wp2
        go_ret
        rw [HF.out.1]
        exact ⟨rfl, HF.out.2⟩
    · have hdt := HDT.out
      rw [if_neg hm] at hdt
      have HD2 := run.hid hdt
      have heq : ((m0 : Int) == (m1 : Int)) = false := by simp only [beq_eq_false_iff_ne, ne_eq]; omega
      clear hdt HDT HLD HED HH HLE HFL
      go_wp2
      go_meet
      exact ⟨m0, m1, rfl, rfl, hmk.1, hmk.2, HD2, HB1.out⟩
  case rest =>
    obtain ⟨ma, mb, rfl, rfl, hab, hbF, HBT, hbel⟩ := hcut
    have hEc := HED.out wc hbel
    have hHw := HH.out.1.below hbel
    have HHW := run.hid (And.intro hHw (fun k h => Nat.lt_of_lt_of_le (HH.out.2 k h) hbel.size))
    have HBC := run.hid hbel
    have c0 := blk_cell hEc.box 0
    change wc.cell? _ = some (.pointer (some ⟨g, 0, none⟩)) at c0
    obtain ⟨gn, gcap, gf, gu, gA, hG, hgc, hgn, hgl⟩ := hEc.gap
    have HALL := run.hid (edC.all_any hG hgc (cellsT_one F) hgn)
    rw [hgl] at HALL
    clear hEc hG hgc hgn hgl hHw hbel HED HLD HDT HLE HB1 hmk HH
    generalize wc = wv at *
    go_wp2_with fail
    refine HALL.out.mono ?_
    rintro e w3 ⟨v3, rfl, hown, hb3⟩
    obtain ⟨a3, c3, rfl⟩ := run.own_value hown
    have HO3 := run.hid hown
    have HB3 := run.hid hb3
    clear HALL hb3 c0 hown
    have hsplit : textL F = textL (F.take mb) ++ textL (F.drop mb) := by unfold textL; rw [← List.flatMap_append, List.take_append_drop]
    have hFs2 : (textL F).length ≤ 65536 := hFs
    rw [hsplit, List.length_append] at hFs2
    have HTA := run.hid (fun (a : Option Addr) (c : Nat) (hS : Src 2 w3 a (F.take ma).length c (cellsT (F.take ma))) => text_any a c (F.take ma) w3 hS (by have := textL_le F ma; have h2 : (textL F).length ≤ 65536 := hFs; omega) (by rw [List.length_take]; omega))
    have HTB := run.hid (fun (X : World) (a : Option Addr) (c : Nat) (hS : Src 2 X a (F.drop mb).length c (cellsT (F.drop mb))) => text_any a c (F.drop mb) X hS (by omega) (by rw [List.length_drop]; omega))
    have hlA : (F.take ma).length = ma := by rw [List.length_take]; omega
    have hlB : (F.drop mb).length = F.length - mb := by rw [List.length_drop]
    rw [hlA] at HTA
    rw [hlB] at HTB
    have HSA := run.hid (src_own HO3.out rfl (i := ma) (by omega))
    have HSB := run.hid (fun (hc : F.length ≤ c3) => src_cut (lo := mb) (hi := F.length) (by have := src_own HO3.out rfl (i := F.length) (Nat.le_refl _); rw [List.take_of_length_le (Nat.le_refl _)] at this; exact this) rfl hbF (Nat.le_refl _) hc)
    have HDR := run.hid (show (F.drop mb).take (F.length - mb) = F.drop mb from List.take_of_length_le (by rw [List.length_drop]; omega))
    rw [HDR.out] at HSB
    have hLA := HFL.out.take ma
    have hLB := HFL.out.drop mb
    have hsA : sizeL (F.take ma) + sizeL (F.drop mb) ≤ 65536 := by
      have h1 : sizeL (F.take ma) ≤ sizeL (F.take mb) := by
        have : F.take ma = (F.take mb).take ma := by rw [List.take_take, Nat.min_eq_left hab]
        rw [this]
        exact textL_le _ _
      unfold sizeL at h1 ⊢
      omega
    have hDs : sizeL (delL F ma mb) ≤ 65536 := by
      rw [size_bytes, show delL F ma mb = wrp.lineW (textB (F.take ma) ++ textB (F.drop mb)) from rfl]
      have := wrp.line_two hLA hLB (s := textB (F.take ma) ++ textB (F.drop mb)) (by rw [bs_app, bs_textB, bs_textB])
      rw [← size_bytes (F.take ma), ← size_bytes (F.drop mb)] at this
      omega
    have hDl : (delL F ma mb).length ≤ 65536 := Nat.le_trans (lin_len (wrp.lin_line _).1) hDs
    have hDe : delL F ma mb = lineT (textB (F.take ma) ++ textB (F.drop mb)) := rfl
    have hBT := HBT.out
    rw [show del2 ⟨F, ca, an, L, dn⟩ ma mb = becomeT ⟨F, ca, an, L, dn⟩ (delL F ma mb) (lineT (textB (F.take ma))).length true from rfl] at hBT
    have hta : (textB (F.take ma)).size ≤ 65536 := Nat.le_trans (Nat.le_add_right _ _) hsA
    have htb : (textB (F.drop mb)).size ≤ 65536 := Nat.le_trans (Nat.le_add_left _ _) hsA
    clear hsplit hFs2 hlA hlB HDR hLA hLB hsA hDs HBT HFL
    generalize delL F ma mb = IL at *
    have hTAe : (⟨(textL (F.take ma)).toArray⟩ : ByteArray) = textB (F.take ma) := rfl
    have hTBe : (⟨(textL (F.drop mb)).toArray⟩ : ByteArray) = textB (F.drop mb) := rfl
    rw [hTAe] at HTA
    rw [hTBe] at HTB
    generalize textB (F.take ma) = AH at *
    generalize textB (F.drop mb) = TBB at *
    have HLI := run.hid (fun (X : World) => line_any (AH ++ TBB) X (by rw [ByteArray.size_append]; omega))
    have HLA := run.hid (fun (X : World) => line_any AH X (by omega))
    rw [← hDe] at HLI
    have hovB : ¬ 9223372036854775807 < AH.size + TBB.size := by omega
    obtain ⟨LA, hLAe⟩ : ∃ LA, LA = (lineT AH).length := ⟨_, rfl⟩
    rw [← hLAe] at HLA hBT
    have HBT := run.hid hBT
    clear hBT hDe hLAe hTAe hTBe hta htb
    generalize hNI : IL.length = NI at *
    have HNI := run.hid hNI
    generalize hNF : F.length = NF at *
    have HNF := run.hid hNF
    clear hNF hNI
    have hways := own_ways (mb := mb) HO3.out
    clear HO3
    go_upto_region 10 with fail
    go_cut [10] (fun p wx => p = .string AH ∧ Below w3.heap.size w3 wx)
    case first =>
      clear HHW HLI HLA HBT
      rcases hways with ⟨rfl, rfl, rfl⟩ | ⟨g3, rfl, hNc, rfl⟩ | ⟨g3, rfl, hNc, hcm⟩
      · have hm0 : ma = 0 := by omega
        subst hm0
        have HT1 := run.hid (HTA.out none 0 HSA.out)
        clear HSA HSB HTA HTB
        go_wp2_with fail
        refine HT1.out.mono ?_
        rintro e w4 ⟨rfl, hb4⟩
        have HF := run.hid hb4
        clear HT1 hb4
        go_wp2
        go_meet
        exact ⟨rfl, HF.out⟩
      · have HT1 := run.hid (HTA.out _ _ HSA.out)
        clear HSA HSB HTA HTB
        go_wp2_with fail
        refine HT1.out.mono ?_
        rintro e w4 ⟨rfl, hb4⟩
        have HF := run.hid hb4
        clear HT1 hb4
        go_wp2
        go_meet
        exact ⟨rfl, HF.out⟩
      · have HT1 := run.hid (HTA.out _ _ HSA.out)
        clear HSA HSB HTA HTB
        go_wp2_with fail
        refine HT1.out.mono ?_
        rintro e w4 ⟨rfl, hb4⟩
        have HF := run.hid hb4
        clear HT1 hb4
        go_wp2
        go_meet
        exact ⟨rfl, HF.out⟩
    case rest =>
      obtain ⟨rfl, hb4⟩ := hcut
      have HB4 := run.hid hb4
      clear hb4
      go_upto_region 11 with fail
      generalize wc = wd at *
      rcases hways with ⟨rfl, rfl, rfl⟩ | ⟨g3, rfl, hNc, rfl⟩ | ⟨g3, rfl, hNc, hcm⟩
      · have hm0 : ma = 0 := by omega
        have hm1 : mb = 0 := by omega
        subst hm0
        subst hm1
        have HT2 := run.hid (HTB.out wd none 0 ((HSB.out (by omega)).of HB4.out.size (fun k off e h => HB4.out.block k h)))
        clear HSA HSB HTA HTB
        go_wp2_with fail
        refine HT2.out.mono ?_
        rintro e w5 ⟨rfl, hb5⟩
        have HB5 := run.hid (HB4.out.trans (hb5.mono HB4.out.size))
        clear HT2 hb5
        have HL5 := run.hid (HLI.out w5)
        go_wp2_with fail
        refine HL5.out.mono ?_
        rintro e w6 ⟨v6, rfl, hown6, hb6⟩
        obtain ⟨al, cl, rfl⟩ := run.own_value hown6
        have HO6 := run.hid hown6
        have HB6 := run.hid (HB5.out.trans (hb6.mono HB5.out.size))
        have HL6 := run.hid (HLA.out w6)
        clear HL5 hown6 hb6 HLI HLA
        go_wp2_with fail
        refine HL6.out.mono ?_
        rintro e w7 ⟨v7, rfl, hown7, hb7⟩
        obtain ⟨a7, c7, rfl⟩ := run.own_value hown7
        have hB := del_become HHW.out.1 HHW.out.2 HB3.out HB6.out HB5.out.size HO6.out HNI.out hb7 (by dsimp only; rw [HNF.out]; omega) (by omega) hdn hdm LA
        have HBE := run.hid hB
        have HPRE := run.hid (HBC.out.trans ((HB3.out.trans ((HB6.out.trans (hb7.mono HB6.out.size)).mono HB3.out.size)).mono HBC.out.size))
        clear hB hown7 hb7 HL6 HO6 HHW HB6 HB5
        go_wp2_with fail
        refine HBE.out.mono ?_
        rintro e w9 ⟨rfl, haf⟩
        rw [← HBT.out] at haf ⊢
        have HF := run.hid (After.pre HPRE.out haf)
        clear HBE haf HBT HPRE
        go_wp2
        go_ret
        exact ⟨rfl, HF.out⟩
      · have hm1 : NF = c3 := by omega
        have hS2 := (HSB.out (by omega)).of HB4.out.size (fun k off e h => HB4.out.block k h)
        simp only [cutAt, if_true, Nat.zero_add, Nat.sub_self] at hS2
        subst hm1
        rw [Nat.sub_self] at hS2
        have hT2 := HTB.out wd
        rw [Nat.sub_self] at hT2
        have HT2 := run.hid (hT2 _ _ hS2)
        clear hS2 hT2
        clear HSA HSB HTA HTB
        go_wp2_with fail
        refine HT2.out.mono ?_
        rintro e w5 ⟨rfl, hb5⟩
        have HB5 := run.hid (HB4.out.trans (hb5.mono HB4.out.size))
        clear HT2 hb5
        have HL5 := run.hid (HLI.out w5)
        go_wp2_with fail
        refine HL5.out.mono ?_
        rintro e w6 ⟨v6, rfl, hown6, hb6⟩
        obtain ⟨al, cl, rfl⟩ := run.own_value hown6
        have HO6 := run.hid hown6
        have HB6 := run.hid (HB5.out.trans (hb6.mono HB5.out.size))
        have HL6 := run.hid (HLA.out w6)
        clear HL5 hown6 hb6 HLI HLA
        go_wp2_with fail
        refine HL6.out.mono ?_
        rintro e w7 ⟨v7, rfl, hown7, hb7⟩
        obtain ⟨a7, c7, rfl⟩ := run.own_value hown7
        have hB := del_become HHW.out.1 HHW.out.2 HB3.out HB6.out HB5.out.size HO6.out HNI.out hb7 (by dsimp only; rw [HNF.out]; omega) (by omega) hdn hdm LA
        have HBE := run.hid hB
        have HPRE := run.hid (HBC.out.trans ((HB3.out.trans ((HB6.out.trans (hb7.mono HB6.out.size)).mono HB3.out.size)).mono HBC.out.size))
        clear hB hown7 hb7 HL6 HO6 HHW HB6 HB5
        go_wp2_with fail
        refine HBE.out.mono ?_
        rintro e w9 ⟨rfl, haf⟩
        rw [← HBT.out] at haf ⊢
        have HF := run.hid (After.pre HPRE.out haf)
        clear HBE haf HBT HPRE
        go_wp2
        go_ret
        exact ⟨rfl, HF.out⟩
      · have hS2 := (HSB.out (by omega)).of HB4.out.size (fun k off e h => HB4.out.block k h)
        simp only [cutAt, hcm, if_false, Nat.zero_add] at hS2
        have HT2 := run.hid (HTB.out wd _ _ hS2)
        clear hS2
        clear HSA HSB HTA HTB
        go_wp2_with fail
        refine HT2.out.mono ?_
        rintro e w5 ⟨rfl, hb5⟩
        have HB5 := run.hid (HB4.out.trans (hb5.mono HB4.out.size))
        clear HT2 hb5
        have HL5 := run.hid (HLI.out w5)
        go_wp2_with fail
        refine HL5.out.mono ?_
        rintro e w6 ⟨v6, rfl, hown6, hb6⟩
        obtain ⟨al, cl, rfl⟩ := run.own_value hown6
        have HO6 := run.hid hown6
        have HB6 := run.hid (HB5.out.trans (hb6.mono HB5.out.size))
        have HL6 := run.hid (HLA.out w6)
        clear HL5 hown6 hb6 HLI HLA
        go_wp2_with fail
        refine HL6.out.mono ?_
        rintro e w7 ⟨v7, rfl, hown7, hb7⟩
        obtain ⟨a7, c7, rfl⟩ := run.own_value hown7
        have hB := del_become HHW.out.1 HHW.out.2 HB3.out HB6.out HB5.out.size HO6.out HNI.out hb7 (by dsimp only; rw [HNF.out]; omega) (by omega) hdn hdm LA
        have HBE := run.hid hB
        have HPRE := run.hid (HBC.out.trans ((HB3.out.trans ((HB6.out.trans (hb7.mono HB6.out.size)).mono HB3.out.size)).mono HBC.out.size))
        clear hB hown7 hb7 HL6 HO6 HHW HB6 HB5
        go_wp2_with fail
        refine HBE.out.mono ?_
        rintro e w9 ⟨rfl, haf⟩
        rw [← HBT.out] at haf ⊢
        have HF := run.hid (After.pre HPRE.out haf)
        clear HBE haf HBT HPRE
        go_wp2
        go_ret
        exact ⟨rfl, HF.out⟩
end Go.Proofs.Ytgpgbbbcodnieaa.ed
namespace Go.Proofs.Ytgpgbbbcodnieaa.ed
open Go Go.RowKit Go.Proofs
set_option linter.unusedVariables false
/-! A LINE's BEGINNING HAS NO MORE CLUSTERS THAN THE LINE -/
theorem keep_take {l : List Int} (hl : l ≠ []) {k : Nat} (hk : 1 ≤ k) (h : clu.keepP (l.take k) = true) (hw : clu.Whole1 (l.take k)) : clu.keepP (l.take (clu.count l)) = true := by
  unfold clu.keepP at h ⊢
  rw [Bool.not_eq_true', decide_eq_false_iff_not] at h ⊢
  rintro ⟨h0, h10⟩
  have hb := clu.count_bounds l hl
  have e1 : (l.take (clu.count l)).getD 0 0 = l.getD 0 0 := clu.getD_take1 l (by omega)
  have e2 : (l.take k).getD 0 0 = l.getD 0 0 := clu.getD_take1 l (by omega)
  have hwh : clu.Whole1 (l.take (clu.count l)) := by
    have htl : (l.take (clu.count l)).length = clu.count l := by rw [List.length_take]; omega
    exact ⟨fun e => by rw [e] at htl; simp at htl; omega, by rw [clu.count_take hl (Nat.le_refl _), htl]⟩
  rcases clu.wide_zeroW hwh h0 with h1 | h1
  · rw [e1] at h1
    have h2 : clu.count l = 1 := by unfold clu.count; rw [if_pos h1]
    have h3 := clu.whole_control hw (by rw [e2]; exact h1)
    refine h ⟨?_, ?_⟩
    · unfold clu.wide
      rw [if_pos (by rw [e2]; exact h1)]
    · rw [h3, e2]
      intro e
      apply h10
      have := clu.whole_control hwh (by rw [e1]; exact h1)
      rw [this, e1]
      exact e
  · rw [e1] at h1
    refine h ⟨clu.wide_tail (by rw [e2]; exact h1), ?_⟩
    intro e
    rw [e] at e2
    have e3 : l.getD 0 0 = 10 := e2.symm
    rw [e3] at h1
    rcases h1 with h1 | h1 | h1 <;> exact absurd (clu.kind_feed.symm.trans h1) (by decide)
theorem count_keep : ∀ (n : Nat) (l : List Int) (k : Nat), l.length ≤ n → ((clu.cl (l.take k)).filter clu.keepP).length ≤ ((clu.cl l).filter clu.keepP).length
  | 0, l, k, h => by
    have : l = [] := List.length_eq_zero_iff.1 (by omega)
    subst this
    rw [List.take_nil]
    exact Nat.le_refl _
  | n + 1, l, k, h => by
    by_cases hl : l = []
    · subst hl
      rw [List.take_nil]
      exact Nat.le_refl _
    · rcases Nat.lt_or_ge 0 k with hk | hk
      · have hb := clu.count_bounds l hl
        have hc := clu.count_take_min hl (k := k) hk
        have hne : l.take k ≠ [] := by
          intro e
          have := congrArg List.length e
          rw [List.length_take, List.length_nil] at this
          omega
        have hd := clu.drop_lt hl
        rw [clu.cl_step l hl, clu.cl_step _ hne, hc]
        rcases Nat.lt_or_ge k (clu.count l) with h1 | h1
        · rw [Nat.min_eq_left (by omega), List.take_take, Nat.min_self, List.drop_of_length_le (by rw [List.length_take]; omega), clu.cl_nil]
          by_cases hkp : clu.keepP (l.take k) = true
          · have hw : clu.Whole1 (l.take k) := ⟨hne, by rw [hc, List.length_take]; omega⟩
            rw [List.filter_cons_of_pos hkp, List.filter_cons_of_pos (keep_take hl hk hkp hw), List.length_cons, List.length_cons]
            simp
          · rw [List.filter_cons_of_neg hkp]
            simp
        · rw [Nat.min_eq_right h1, List.take_take, Nat.min_eq_left h1, List.drop_take]
          have ih := count_keep n (l.drop (clu.count l)) (k - clu.count l) (by omega)
          by_cases hkp : clu.keepP (l.take (clu.count l)) = true
          · rw [List.filter_cons_of_pos hkp, List.filter_cons_of_pos hkp, List.length_cons, List.length_cons]
            omega
          · rw [List.filter_cons_of_neg hkp, List.filter_cons_of_neg hkp]
            exact ih
      · obtain rfl : k = 0 := by omega
        rw [List.take_zero]
        exact Nat.zero_le _
/-- how many clusters a line has -/
theorem line_count (s : ByteArray) : (lineT s).length = ((clu.cl (utf.runes (utf.bs (wrp.flowText s)))).filter clu.keepP).length := by
  rw [lineT_len]
  unfold Go.Proofs.Ytgpgbbbcodnieaa.wrp.flow wrp.kept2 clu.told
  have hP : ∀ p ∈ clu.cl (utf.runes (utf.bs (wrp.flowText s))), ∀ r ∈ p, utf.isChar r = true := fun p hp r hr => utf.runes_char _ _ (Nat.le_refl _) r ((clu.cl_piece _ _ (Nat.le_refl _) p hp).2.2 r hr)
  generalize clu.cl (utf.runes (utf.bs (wrp.flowText s))) = P at *
  induction P with
  | nil => rfl
  | cons p r ih =>
    have ih := ih (fun q hq => hP q (List.mem_cons_of_mem _ hq))
    have hp := hP p (List.mem_cons_self ..)
    have hnl : utf.str (utf.text p) = wrp.nl ↔ p = [10] := by
      constructor
      · intro e
        have e2 : utf.bs (utf.str (utf.text p)) = [10] := by rw [e]; rfl
        rw [utf.bs_str (utf.text_byte _)] at e2
        have e3 := utf.runes_text p
        rw [utf.map_fix_of_char hp, e2] at e3
        exact e3.symm.trans (by decide)
      · rintro rfl
        decide
    have hd : (!wrp.del2 (utf.str (utf.text p), clu.wide p)) = clu.keepP p := by
      unfold wrp.del2 clu.keepP
      congr 1
      rw [decide_eq_decide]
      show clu.wide p = 0 ∧ utf.str (utf.text p) ≠ wrp.nl ↔ _
      rw [ne_eq, hnl]
    show (List.filter (fun q => !wrp.del2 q) ((utf.str (utf.text p), clu.wide p) :: clu.seen r)).length = _
    by_cases hk : clu.keepP p = true
    · rw [List.filter_cons_of_pos (by rw [hd]; exact hk), List.filter_cons_of_pos hk, List.length_cons, List.length_cons, ih]
    · rw [List.filter_cons_of_neg (by rw [hd]; exact hk), List.filter_cons_of_neg hk]
      exact ih
/-- what stands ahead has no more clusters than all -/
theorem line_ahead {A B : ByteArray} {l : List Int} (hA : utf.bs A = utf.text l) : (lineT A).length ≤ (lineT (A ++ B)).length := by
  rw [line_count, line_count]
  have hR : ∀ s, utf.runes (utf.bs (wrp.flowText s)) = (wrp.kept (utf.runes (utf.bs s))).map wrp.blank1 := by
    intro s
    unfold wrp.flowText
    rw [utf.bs_str (utf.text_byte _), utf.runes_text, utf.map_fix_of_char]
    intro r hr
    obtain ⟨r0, h0, rfl⟩ := List.mem_map.1 hr
    have hc := utf.runes_char _ _ (Nat.le_refl _) r0 (List.mem_filter.1 h0).1
    unfold wrp.blank1
    split
    · decide
    · exact hc
  rw [hR, hR, bs_app, hA, utf.runes_text_append, utf.runes_text]
  have e : (wrp.kept (l.map utf.fix ++ utf.runes (utf.bs B))).map wrp.blank1 = (wrp.kept (l.map utf.fix)).map wrp.blank1 ++ (wrp.kept (utf.runes (utf.bs B))).map wrp.blank1 := by
    unfold wrp.kept
    rw [List.filter_append, List.map_append]
  rw [e]
  have := count_keep _ ((wrp.kept (l.map utf.fix)).map wrp.blank1 ++ (wrp.kept (utf.runes (utf.bs B))).map wrp.blank1) ((wrp.kept (l.map utf.fix)).map wrp.blank1).length (Nat.le_refl _)
  rw [List.take_left] at this
  exact this
theorem lin_text {F : List TV} (h : wrp.Lin F) : ∃ l, wrp.bytesT F = utf.text l := by
  obtain ⟨Y0, rfl, -⟩ := h
  exact ⟨_, wrp.bytesT_seen Y0⟩
/-! WHAT STAYS TRUE -/
/-- a line that an editor may hold, and a caret in it -/
structure Held (F : List TV) (ca : Nat) : Prop where
  lin : wrp.Lin F
  size : sizeL F ≤ 65536
  ca : ca ≤ F.length
theorem Held.len {F : List TV} {ca : Nat} (h : Held F ca) : F.length ≤ 65536 := Nat.le_trans (lin_len h.lin) h.size
structure EdOk (s : Sta) : Prop where
  h : Held s.F s.ca
  an : -1 ≤ s.an ∧ s.an ≤ s.F.length
  dn : s.dn ≤ s.L.length
  ln : s.L.length ≤ 256
  st : ∀ (n : Nat) (x : St), s.L[n]? = some x → Held x.bef x.ahead ∧ Held x.aft x.after
  back : ∀ (n : Nat) (x : St), s.dn = n + 1 → s.L[n]? = some x → s.F = x.aft
  fore : ∀ (x : St), s.L[s.dn]? = some x → s.F = x.bef
  chain : ∀ (n : Nat) (x y : St), s.L[n]? = some x → s.L[n + 1]? = some y → x.aft = y.bef
theorem ok_go {s : Sta} (h : EdOk s) (way : Int) (m : Bool) : EdOk (goT s way m).2 := by
  unfold goT
  split
  · exact h
  · rename_i tt ht
    have hl := leads_le ht h.h.ca
    refine ⟨⟨h.h.lin, h.h.size, hl⟩, ?_, h.dn, h.ln, h.st, h.back, h.fore, h.chain⟩
    have h1 := h.h.ca
    have h2 := h.an
    show -1 ≤ anT s.an s.ca m ∧ anT s.an s.ca m ≤ (s.F.length : Int)
    unfold anT
    split
    · split <;> omega
    · omega
theorem ok_become {s : Sta} (h : EdOk s) {B : List TV} {caret : Nat} (hB : Held B caret) (al : Bool) : EdOk (becomeT s B caret al).2 := by
  unfold becomeT
  split
  · exact h
  · have hdn := h.dn
    have hln := h.ln
    have hlen : (s.L.take s.dn ++ [(⟨s.F, s.ca, B, caret⟩ : St)]).length = s.dn + 1 := by rw [List.length_append, List.length_take]; simp; omega
    have hget : ∀ (n : Nat) (x : St), (s.L.take s.dn ++ [(⟨s.F, s.ca, B, caret⟩ : St)])[n]? = some x → (n < s.dn ∧ s.L[n]? = some x) ∨ (n = s.dn ∧ x = ⟨s.F, s.ca, B, caret⟩) := by
      intro n x hx
      rcases Nat.lt_or_ge n s.dn with h1 | h1
      · rw [List.getElem?_append_left (by rw [List.length_take]; omega), List.getElem?_take_of_lt h1] at hx
        exact .inl ⟨h1, hx⟩
      · have h2 := (List.getElem?_eq_some_iff.1 hx).1
        rw [hlen] at h2
        have h3 : n = s.dn := by omega
        subst h3
        have hl : (s.L.take s.dn).length = s.dn := by rw [List.length_take]; omega
        rw [List.getElem?_append_right (by rw [hl]; exact Nat.le_refl _), hl, Nat.sub_self] at hx
        simp only [List.getElem?_cons_zero, Option.some.injEq] at hx
        exact .inr ⟨rfl, hx.symm⟩
    have hst : ∀ (n : Nat) (x : St), (s.L.take s.dn ++ [(⟨s.F, s.ca, B, caret⟩ : St)])[n]? = some x → Held x.bef x.ahead ∧ Held x.aft x.after := by
      intro n x hx
      rcases hget n x hx with ⟨-, h1⟩ | ⟨-, rfl⟩
      · exact h.st n x h1
      · exact ⟨h.h, hB⟩
    have hch : ∀ (n : Nat) (x y : St), (s.L.take s.dn ++ [(⟨s.F, s.ca, B, caret⟩ : St)])[n]? = some x → (s.L.take s.dn ++ [(⟨s.F, s.ca, B, caret⟩ : St)])[n + 1]? = some y → x.aft = y.bef := by
      intro n x y hx hy
      rcases hget _ _ hx with ⟨h1, h2⟩ | ⟨h1, rfl⟩
      · rcases hget _ _ hy with ⟨h3, h4⟩ | ⟨h3, rfl⟩
        · exact h.chain n x y h2 h4
        · exact (h.back n x h3.symm h2).symm
      · rcases hget _ _ hy with ⟨h3, h4⟩ | ⟨h3, -⟩ <;> omega
    have hlast : ∀ (n : Nat) (x : St), s.dn + 1 = n + 1 → (s.L.take s.dn ++ [(⟨s.F, s.ca, B, caret⟩ : St)])[n]? = some x → B = x.aft := by
      intro n x e hx
      rcases hget _ _ hx with ⟨h1, -⟩ | ⟨-, rfl⟩
      · omega
      · rfl
    generalize s.L.take s.dn ++ [(⟨s.F, s.ca, B, caret⟩ : St)] = L at *
    unfold lim
    by_cases h256 : 256 < L.length
    · rw [if_pos h256]
      refine ⟨hB, ⟨by dsimp only; omega, by dsimp only; omega⟩, by dsimp only; omega, by dsimp only; rw [List.length_drop]; omega, ?_, ?_, ?_, ?_⟩
      · intro n x hx
        dsimp only at hx
        rw [List.getElem?_drop] at hx
        exact hst _ x hx
      · intro n x e hx
        dsimp only at e hx
        rw [List.getElem?_drop] at hx
        rw [List.length_drop] at e
        exact hlast (1 + n) x (by omega) hx
      · intro x hx
        dsimp only at hx
        have := (List.getElem?_eq_some_iff.1 hx).1
        omega
      · intro n x y hx hy
        dsimp only at hx hy
        rw [List.getElem?_drop] at hx hy
        exact hch _ x y hx (by rw [show 1 + n + 1 = 1 + (n + 1) by omega]; exact hy)
    · rw [if_neg h256]
      refine ⟨hB, ⟨by dsimp only; omega, by dsimp only; omega⟩, by dsimp only; omega, by dsimp only; omega, hst, ?_, ?_, hch⟩
      · intro n x e hx
        dsimp only at e hx
        exact hlast n x (by omega) hx
      · intro x hx
        dsimp only at hx
        have := (List.getElem?_eq_some_iff.1 hx).1
        omega
theorem held_line {s : ByteArray} {c : Nat} (h : sizeL (lineT s) ≤ 65536) (hc : c ≤ (lineT s).length) : Held (lineT s) c := ⟨(wrp.lin_line s).1, h, hc⟩
theorem bs_typed (t : ByteArray) : utf.bs (typedB t) = utf.text (typedT (utf.runes (utf.bs t))) := by
  unfold typedB
  rw [utf.bs_str (utf.text_byte _)]
theorem ok_ins {s : Sta} (h : EdOk s) (t : ByteArray) : EdOk (insT s t).2 := by
  unfold insT
  split
  · exact h
  · rename_i hs
    refine ok_become h ⟨(wrp.lin_line _).1, (by show sizeL (insL s t) ≤ 65536; omega), ?_⟩ _
    obtain ⟨l, hl⟩ := lin_text (h.h.lin.take (mkT s.an s.ca).1)
    exact line_ahead (l := l ++ typedT (utf.runes (utf.bs t))) (by
      show utf.bs (textB (s.F.take (mkT s.an s.ca).1) ++ typedB t) = _
      rw [bs_app, bs_textB, bs_typed, hl, utf.text_append])
theorem del_held {F : List TV} {a b : Nat} (h : wrp.Lin F) (hs : sizeL F ≤ 65536) (hab : a ≤ b) : Held (delL F a b) (lineT (textB (F.take a))).length := by
  have hLA := h.take a
  have hLB := h.drop b
  refine ⟨(wrp.lin_line _).1, ?_, ?_⟩
  · have hsplit : sizeL F = sizeL (F.take b) + sizeL (F.drop b) := by
      unfold sizeL
      rw [← List.length_append]
      congr 1
      unfold textL
      rw [← List.flatMap_append, List.take_append_drop]
    have h1 : sizeL (F.take a) ≤ sizeL (F.take b) := by
      have : F.take a = (F.take b).take a := by rw [List.take_take, Nat.min_eq_left hab]
      rw [this]
      exact textL_le _ _
    rw [size_bytes, show delL F a b = wrp.lineW (textB (F.take a) ++ textB (F.drop b)) from rfl]
    have := wrp.line_two hLA hLB (s := textB (F.take a) ++ textB (F.drop b)) (by rw [bs_app, bs_textB, bs_textB])
    rw [← size_bytes (F.take a), ← size_bytes (F.drop b)] at this
    omega
  · obtain ⟨l, hl⟩ := lin_text hLA
    exact line_ahead (l := l) (by rw [bs_textB, hl])
theorem ok_del2 {s : Sta} (h : EdOk s) {a b : Nat} (hab : a ≤ b) : EdOk (del2 s a b).2 := ok_become h (del_held h.h.lin h.h.size hab) _
theorem ok_del {s : Sta} (h : EdOk s) (way : Int) : EdOk (delT s way).2 := by
  have hm := mk_le (an := s.an) h.h.ca h.an.2
  unfold delT
  split
  · split
    · exact h
    · split
      · exact h
      · exact ok_del2 h (by omega)
  · exact ok_del2 h hm.1
/-- back, and again -/
def undoT (s : Sta) : Bool × Sta := match s.dn with
  | 0 => (false, s)
  | n + 1 => match s.L[n]? with
    | some x => (true, ⟨x.bef, x.ahead, -1, s.L, n⟩)
    | none => (false, s)
def redoT (s : Sta) : Bool × Sta := match s.L[s.dn]? with
  | some x => (true, ⟨x.aft, x.after, -1, s.L, s.dn + 1⟩)
  | none => (false, s)
theorem ok_undo {s : Sta} (h : EdOk s) : EdOk (undoT s).2 := by
  unfold undoT
  split
  · exact h
  · rename_i n hn
    split
    · rename_i x hx
      have hs := h.st n x hx
      have hlt := (List.getElem?_eq_some_iff.1 hx).1
      refine ⟨hs.1, ⟨by dsimp only; omega, by dsimp only; omega⟩, by dsimp only; omega, h.ln, h.st, ?_, ?_, h.chain⟩
      · intro m y e hy
        dsimp only at e hy
        subst e
        exact (h.chain m y x hy hx).symm
      · intro y hy
        dsimp only at hy
        rw [hx] at hy
        cases hy
        rfl
    · exact h
theorem ok_redo {s : Sta} (h : EdOk s) : EdOk (redoT s).2 := by
  unfold redoT
  split
  · rename_i x hx
    have hs := h.st s.dn x hx
    have hlt := (List.getElem?_eq_some_iff.1 hx).1
    refine ⟨hs.2, ⟨by dsimp only; omega, by dsimp only; omega⟩, by dsimp only; omega, h.ln, h.st, ?_, ?_, h.chain⟩
    · intro m y e hy
      dsimp only at e hy
      have : m = s.dn := by omega
      subst this
      rw [hx] at hy
      cases hy
      rfl
    · intro y hy
      dsimp only at hy
      exact h.chain s.dn x y hx hy
  · exact h
theorem cutL_take : ∀ (F : List TV) (n : Nat), (∃ k, cutL F n = F.take k) ∧ (n ≤ 65536 → n + sizeL (cutL F n) ≤ 65536)
  | [], n => ⟨⟨0, rfl⟩, fun h => by show n + 0 ≤ 65536; omega⟩
  | q :: F, n => by
    unfold cutL
    split
    · exact ⟨⟨0, rfl⟩, fun h => by show n + 0 ≤ 65536; omega⟩
    · rename_i hq
      obtain ⟨⟨k, hk⟩, hs⟩ := cutL_take F (n + q.1.size)
      refine ⟨⟨k + 1, by rw [hk, List.take_succ_cons]⟩, fun _ => ?_⟩
      have e : sizeL (q :: cutL F (n + q.1.size)) = q.1.size + sizeL (cutL F (n + q.1.size)) := by
        unfold sizeL textL
        rw [List.flatMap_cons, List.length_append]
        rfl
      rw [e]
      have := hs (by omega)
      omega
theorem held_new (t : ByteArray) : Held (newT t) (newT t).length := by
  obtain ⟨⟨k, hk⟩, hs⟩ := cutL_take (lineT t) 0
  have h2 := hs (by omega)
  refine ⟨?_, by unfold newT; omega, Nat.le_refl _⟩
  unfold newT
  rw [hk]
  exact (wrp.lin_line t).1.take k
/-- a new editor -/
def newE (t : ByteArray) : Sta := ⟨newT t, (newT t).length, -1, [], 0⟩
theorem ok_zero {F : List TV} (h : Held F F.length) : EdOk ⟨F, F.length, -1, [], 0⟩ :=
  ⟨h, ⟨by dsimp only; omega, by dsimp only; omega⟩, Nat.le_refl _, Nat.zero_le _, fun n x h => by simp at h, fun n x h => by simp at h, fun x h => by simp at h, fun n x y h => by simp at h⟩
theorem ok_new (t : ByteArray) : EdOk (newE t) := ok_zero (held_new t)
end Go.Proofs.Ytgpgbbbcodnieaa.ed
namespace Go.Proofs.Ytgpgbbbcodnieaa.ed
open Go Go.RowKit Go.Proofs
set_option linter.unusedVariables false
def EdL (B b : Nat) (s : Sta) (w : World) : Prop := ∃ S g lb, EdS S b g lb s w ∧ ∀ k, S k → k < w.heap.size ∧ B ≤ k
theorem edL_after {B : Nat} {S : Nat → Prop} {b g lb : Nat} {s s' : Sta} {w w' : World} (h : EdS S b g lb s w) (hS : ∀ k, S k → k < w.heap.size ∧ B ≤ k) (hB : B ≤ w.heap.size) (ha : After S b g lb s' w w') : EdL B b s' w' ∧ Below B w w' := by
  obtain ⟨lb', hE, hlb, hk⟩ := ha
  have hsz := hk.size
  have hlt : lb' < w'.heap.size := by
    obtain ⟨sv, hEd, -⟩ := hE.ed
    obtain ⟨n, cap, f, u, A, hG, -⟩ := hEd.gap
    exact (Array.getElem?_eq_some_iff.1 hG.hl).1
  refine ⟨⟨_, g, lb', hE, fun k hk' => ?_⟩, hk.below hB (fun k _ ho => (hS k (h.own k ho)).2)⟩
  rcases hk' with h1 | rfl
  · have := hS k h1; omega
  · rcases hlb with rfl | h1
    · exact ⟨hlt, (hS _ h.sl).2⟩
    · exact ⟨hlt, by omega⟩
theorem EdL.below {B b : Nat} {s : Sta} {w w' : World} (h : EdL B b s w) (hb : Below w.heap.size w w') : EdL B b s w' := by
  obtain ⟨S, g, lb, hE, hS⟩ := h
  exact ⟨S, g, lb, EdS.below hE hb, fun k hk => by have := hS k hk; have := hb.size; omega⟩
theorem new_l (t : ByteArray) (w : World) (ht : t.size ≤ 68719476736) : Calls Try.prog 25 #[.string t] w fun e w' => ∃ b, e = .returned (.pointer (some ⟨b, 0, none⟩)) ∧ EdL w.heap.size b (newE t) w' ∧ Below w.heap.size w w' := by
  have hlen : (newT t).length ≤ 65536 := (held_new t).len
  have HN := new_any t w ht
  unfold NewIs at HN
  have he : newE t = ⟨newT t, (newT t).length, -1, [], 0⟩ := rfl
  rw [he]
  clear he
  generalize newT t = F at *
  refine HN.mono ?_
  rintro e w' ⟨b, g, lb, cap, A, rfl, hbx, hG, hc, hg, hl, hgb, hlb, hbel⟩
  have hblt := (Array.getElem?_eq_some_iff.1 hbx).1
  refine ⟨b, rfl, ⟨Own b g lb, g, lb, ⟨⟨.slice none 0 0, ⟨hbx, ⟨_, _, _, _, A, hG, hc, by omega, ?_⟩, by omega, by omega⟩, ⟨none, 0, rfl, Nat.le_refl _, .inl ⟨rfl, rfl⟩⟩⟩, .inl rfl, .inr (.inl rfl), .inr (.inr rfl)⟩, ?_⟩, hbel⟩
  · show F.length + (F.length - F.length) = F.length
    omega
  · rintro k (rfl | rfl | rfl) <;> omega
theorem ins_l {B b : Nat} {s : Sta} {w : World} (h : EdL B b s w) (ok : EdOk s) (hB : B ≤ w.heap.size) (t : ByteArray) (ht : t.size ≤ 1073741824) :
    Calls Try.prog 19 #[.pointer (some ⟨b, 0, none⟩), .string t] w fun e w' => e = .returned (.bool (insT s t).1) ∧ EdL B b (insT s t).2 w' ∧ Below B w w' := by
  obtain ⟨S, g, lb, hE, hS⟩ := h
  have h1 := ok.ln
  have h2 := ok.dn
  refine (insert_any hE t ht (fun k hk => (hS k hk).1) ok.h.len ok.h.size ok.h.ca ok.an.2 ok.dn (by omega)).mono ?_
  rintro e w' ⟨rfl, ha⟩
  exact ⟨rfl, edL_after hE hS hB ha⟩
theorem del_l {B b : Nat} {s : Sta} {w : World} (h : EdL B b s w) (ok : EdOk s) (hB : B ≤ w.heap.size) (way : Int) :
    Calls Try.prog 20 #[.pointer (some ⟨b, 0, none⟩), .int .i64 way] w fun e w' => e = .returned (.bool (delT s way).1) ∧ EdL B b (delT s way).2 w' ∧ Below B w w' := by
  obtain ⟨S, g, lb, hE, hS⟩ := h
  have h1 := ok.ln
  have h2 := ok.dn
  refine (delete_any hE way (fun k hk => (hS k hk).1) ok.h.lin ok.h.size ok.h.ca ok.an.2 ok.dn (by omega)).mono ?_
  rintro e w' ⟨rfl, ha⟩
  exact ⟨rfl, edL_after hE hS hB ha⟩
theorem go_l {B b : Nat} {s : Sta} {w : World} (h : EdL B b s w) (ok : EdOk s) (hB : B ≤ w.heap.size) (way : Int) (m : Bool) :
    Calls Try.prog 18 #[.pointer (some ⟨b, 0, none⟩), .int .i64 way, .bool m] w fun e w' => e = .returned (.bool (goT s way m).1) ∧ EdL B b (goT s way m).2 w' ∧ Below B w w' := by
  obtain ⟨S, g, lb, hE, hS⟩ := h
  have h1 := ok.h.len
  refine (go_any hE way m ok.h.ca (by omega)).mono ?_
  rintro e w' ⟨rfl, ha⟩
  exact ⟨rfl, edL_after hE hS hB ha⟩
theorem undo_l {B b : Nat} {s : Sta} {w : World} (h : EdL B b s w) (ok : EdOk s) (hB : B ≤ w.heap.size) :
    Calls Try.prog 21 #[.pointer (some ⟨b, 0, none⟩)] w fun e w' => e = .returned (.bool (undoT s).1) ∧ EdL B b (undoT s).2 w' ∧ Below B w w' := by
  obtain ⟨S, g, lb, hE, hS⟩ := h
  obtain ⟨F, ca, an, L, dn⟩ := s
  have h2 := ok.dn
  have h3 := ok.ln
  dsimp only at h2 h3
  cases dn with
  | zero =>
    refine (undo_none hE).mono ?_
    rintro e w' ⟨rfl, ha⟩
    exact ⟨rfl, edL_after hE hS hB ha⟩
  | succ n =>
    have hx : L[n]? = some L[n] := List.getElem?_eq_getElem (by omega)
    have hs := ok.st n _ hx
    have e : undoT ⟨F, ca, an, L, n + 1⟩ = (true, ⟨(L[n]).bef, (L[n]).ahead, -1, L, n⟩) := by
      unfold undoT
      dsimp only
      rw [hx]
    rw [e]
    have l1 := hs.1.len
    have l2 := hs.2.len
    refine (undo_any hE _ hx (ok.back n _ rfl hx) (by omega) (by omega) (by omega)).mono ?_
    rintro e w' ⟨rfl, ha⟩
    exact ⟨rfl, edL_after hE hS hB ha⟩
theorem redo_l {B b : Nat} {s : Sta} {w : World} (h : EdL B b s w) (ok : EdOk s) (hB : B ≤ w.heap.size) :
    Calls Try.prog 22 #[.pointer (some ⟨b, 0, none⟩)] w fun e w' => e = .returned (.bool (redoT s).1) ∧ EdL B b (redoT s).2 w' ∧ Below B w w' := by
  obtain ⟨S, g, lb, hE, hS⟩ := h
  obtain ⟨F, ca, an, L, dn⟩ := s
  have h2 := ok.dn
  have h3 := ok.ln
  dsimp only at h2 h3
  rcases Nat.lt_or_ge dn L.length with hlt | hge
  · have hx : L[dn]? = some L[dn] := List.getElem?_eq_getElem hlt
    have hs := ok.st dn _ hx
    have e : redoT ⟨F, ca, an, L, dn⟩ = (true, ⟨(L[dn]).aft, (L[dn]).after, -1, L, dn + 1⟩) := by
      unfold redoT
      dsimp only
      rw [hx]
    rw [e]
    have l1 := hs.1.len
    have l2 := hs.2.len
    refine (redo_any hE _ hx (ok.fore _ hx) (by omega) (by omega) (by omega)).mono ?_
    rintro e w' ⟨rfl, ha⟩
    exact ⟨rfl, edL_after hE hS hB ha⟩
  · obtain rfl : dn = L.length := by omega
    have e : redoT ⟨F, ca, an, L, L.length⟩ = (false, ⟨F, ca, an, L, L.length⟩) := by
      unfold redoT
      dsimp only
      rw [List.getElem?_eq_none (Nat.le_refl _)]
    rw [e]
    refine (redo_none hE).mono ?_
    rintro e w' ⟨rfl, ha⟩
    exact ⟨rfl, edL_after hE hS hB ha⟩
theorem text_l {B b : Nat} {s : Sta} {w : World} (h : EdL B b s w) (ok : EdOk s) :
    Calls Try.prog 16 #[.pointer (some ⟨b, 0, none⟩)] w fun e w' => e = .returned (.string (textB s.F)) ∧ Below w.heap.size w w' := by
  obtain ⟨S, g, lb, ⟨⟨sv, hE, -⟩, -, -, -⟩, -⟩ := h
  have h1 := ok.h.len
  have h2 := ok.h.size
  exact textOf_any hE (by unfold sizeL at h2; omega) (by omega)
theorem caret_l {B b : Nat} {s : Sta} {w : World} (h : EdL B b s w) : Calls Try.prog 17 #[.pointer (some ⟨b, 0, none⟩)] w fun e w' => e = .returned (.int .i64 (s.ca : Nat)) ∧ Below w.heap.size w w' := by
  obtain ⟨S, g, lb, ⟨⟨sv, hE, -⟩, -, -, -⟩, -⟩ := h
  exact (caret_any hE).mono fun e w' h => ⟨h.1, h.2.below⟩
theorem marked_l {B b : Nat} {s : Sta} {w : World} (h : EdL B b s w) : Calls Try.prog 14 #[.pointer (some ⟨b, 0, none⟩)] w fun e w' => e = .returned (.tuple #[.int .i64 ((mkT s.an s.ca).1 : Nat), .int .i64 ((mkT s.an s.ca).2 : Nat)]) ∧ Below w.heap.size w w' := by
  obtain ⟨S, g, lb, ⟨⟨sv, hE, -⟩, -, -, -⟩, -⟩ := h
  exact (marked_any hE).mono fun e w' h => ⟨h.1, h.2.below⟩
end Go.Proofs.Ytgpgbbbcodnieaa.ed
