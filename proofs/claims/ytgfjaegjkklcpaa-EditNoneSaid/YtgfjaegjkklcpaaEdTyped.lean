/-
  The editor's Insert: what is typed.
-/
import Derived.Test.YtgfjaegjkklcpaaEdBecome
import Derived.Test.YtgfjaegjkklcpaaUtfUse
import Derived.Test.YtgfjaegjkklcpaaLinPlain
import Derived.Deep.CutBlock
namespace Go.Proofs.Ytgfjaegjkklcpaa.ed
open Go Go.RowKit Go.Proofs
set_option linter.unusedVariables false
/-- what counts of a character that is typed -/
def typed1 (r : Int) : List Int := if r = 10 ∨ r = 9 then [32] else if (32 ≤ r ∧ r < 127) ∨ 159 < r then [r] else []
def typedT (l : List Int) : List Int := l.flatMap typed1
theorem typed_next {l : List Int} {k : Nat} (h : k < l.length) : typedT (l.take (k + 1)) = typedT (l.take k) ++ typed1 (l.getD k 0) := by
  unfold typedT
  rw [List.take_succ_eq_append_getElem h, List.flatMap_append]
  simp [List.getD_eq_getElem?_getD, h]
theorem typed1_len (r : Int) : (typed1 r).length ≤ 1 := by
  unfold typed1
  split
  · simp
  · split <;> simp
theorem typed_len : ∀ l : List Int, (typedT l).length ≤ l.length
  | [] => Nat.le_refl _
  | r :: t => by
    have h1 := typed_len t
    have h2 := typed1_len r
    have e : typedT (r :: t) = typed1 r ++ typedT t := rfl
    rw [e, List.length_append, List.length_cons]
    omega
/-- the bytes that are typed -/
def typedB (s : ByteArray) : ByteArray := utf.str (utf.text (typedT (utf.runes (utf.bs s))))
/-- the bytes of clusters, as a text -/
def textB (F : List TV) : ByteArray := ⟨(textL F).toArray⟩
/-- what stands ahead of the caret behind an Insert -/
def aheadI (s : Sta) (t : ByteArray) : ByteArray := textB (s.F.take (mkT s.an s.ca).1) ++ typedB t
def insL (s : Sta) (t : ByteArray) : List TV := lineT (aheadI s t ++ textB (s.F.drop (mkT s.an s.ca).2))
def insT (s : Sta) (t : ByteArray) : Bool × Sta :=
  if 65536 < sizeL (insL s t) then (false, s) else becomeT s (insL s t) (lineT (aheadI s t)).length (decide ((mkT s.an s.ca).1 < (mkT s.an s.ca).2))
theorem line_is (s : ByteArray) : lineT s = wrp.lineW s := rfl
theorem textL_bytes (F : List TV) : (textL F).map UInt8.toNat = wrp.bytesT F := by
  unfold textL wrp.bytesT
  rw [List.map_flatMap]
  rfl
theorem bs_textB (F : List TV) : utf.bs (textB F) = wrp.bytesT F := textL_bytes F
theorem size_bytes (F : List TV) : sizeL F = (wrp.bytesT F).length := by rw [← textL_bytes, List.length_map]; rfl
theorem lin_len {F : List TV} (h : wrp.Lin F) : F.length ≤ sizeL F := by
  have hw := h.wide
  clear h
  induction F with
  | nil => exact Nat.le_refl _
  | cons q t ih =>
    have h1 := (hw q (List.mem_cons_self ..)).2.1
    have h2 := ih (fun r hr => hw r (List.mem_cons_of_mem _ hr))
    have e : sizeL (q :: t) = q.1.size + sizeL t := by
      unfold sizeL textL
      rw [List.flatMap_cons, List.length_append]
      rfl
    rw [e, List.length_cons]
    omega
theorem After.pre {S : Nat → Prop} {b g lb : Nat} {s : Sta} {w wX w' : World} (hb : Below w.heap.size w wX) (h : After S b g lb s wX w') : After S b g lb s w w' := by
  obtain ⟨lb', hE, hlb, hk⟩ := h
  have := hb.size
  exact ⟨lb', hE, by omega, (Kept.of_below (S := Own b g lb) hb).trans hk (fun _ _ h => h)⟩
theorem EdS.below {S : Nat → Prop} {b g lb : Nat} {s : Sta} {w w' : World} (h : EdS S b g lb s w) (hb : Below w.heap.size w w') : EdS S b g lb s w' := h.kept (Kept.of_below (S := fun _ => False) hb) (fun _ h => h.elim) (fun _ h => .inl h) (fun _ h => h)
theorem mk_le {an : Int} {ca n : Nat} (h : ca ≤ n) (h2 : an ≤ n) : (mkT an ca).1 ≤ (mkT an ca).2 ∧ (mkT an ca).2 ≤ n := by
  unfold mkT
  split
  · exact ⟨Nat.le_refl _, h⟩
  · dsimp only
    omega
theorem line_len4 (s : ByteArray) : (lineT s).length ≤ 4 * s.size := by rw [lineT_len]; exact Go.Proofs.Ytgfjaegjkklcpaa.wrp.flow_len s
/-- the ways in which a row of the call's own lies -/
theorem own_ways {X : World} {B N : Nat} {a : Option Addr} {c mb : Nat} {F : List TV} (h : X.ownsRow B 73 2 (.slice a N c) N (cellsT F)) : (a = none ∧ c = 0 ∧ N = 0) ∨ (∃ g, a = some ⟨g, 0, none⟩ ∧ N ≤ c ∧ c = mb) ∨ (∃ g, a = some ⟨g, 0, none⟩ ∧ N ≤ c ∧ c ≠ mb) := by
  rcases h.2 with ⟨h1, h0⟩ | ⟨g3, cap3, cur3, h1, -, -, h2, -⟩
  · simp only [Value.slice.injEq] at h1
    exact .inl ⟨h1.1, h1.2.2, h0⟩
  · simp only [Value.slice.injEq] at h1
    obtain ⟨h1, -, rfl⟩ := h1
    by_cases e : c = mb
    · exact .inr (.inl ⟨g3, h1, h2, e⟩)
    · exact .inr (.inr ⟨g3, h1, h2, e⟩)
set_option maxRecDepth 100000 in
set_option maxHeartbeats 8000000 in
theorem insert_any {S : Nat → Prop} {b g lb : Nat} {s : Sta} {w : World} (h : EdS S b g lb s w) (t : ByteArray) (ht : t.size ≤ 1073741824) (hSlt : ∀ k, S k → k < w.heap.size) (hF : s.F.length ≤ 65536) (hFs : sizeL s.F ≤ 65536) (hca : s.ca ≤ s.F.length) (han : s.an ≤ s.F.length) (hdn : s.dn ≤ s.L.length) (hdm : s.dn ≤ 4096) :
    Calls Try.prog 10 #[.pointer (some ⟨b, 0, none⟩), .string t] w fun e w' => e = .returned (.bool (insT s t).1) ∧ After S b g lb (insT s t).2 w w' := by
  obtain ⟨F, ca, an, L, dn⟩ := s
  dsimp only at hF hFs hca han hdn hdm
  obtain ⟨i0, hi, hz0, hz1, hz2⟩ := info_parts utf.info_rune
  have HRU := run.hid (utf.runes_use t w (by omega) (by have := utf.runes_len t; omega))
  have hRl := utf.runes_len t
  have HTN := run.hid (fun k (hk : k < (utf.runes (utf.bs t)).length) => @typed_next (utf.runes (utf.bs t)) k hk)
  have HTL := run.hid (fun k => typed_len ((utf.runes (utf.bs t)).take k))
  have HTK := run.hid (show (utf.runes (utf.bs t)).take (utf.runes (utf.bs t)).length = utf.runes (utf.bs t) from List.take_of_length_le (Nat.le_refl _))
  have HIN := run.hid (show insT ⟨F, ca, an, L, dn⟩ t = if 65536 < sizeL (insL ⟨F, ca, an, L, dn⟩ t) then (false, ⟨F, ca, an, L, dn⟩) else becomeT ⟨F, ca, an, L, dn⟩ (insL ⟨F, ca, an, L, dn⟩ t) (lineT (aheadI ⟨F, ca, an, L, dn⟩ t)).length (decide ((mkT an ca).1 < (mkT an ca).2)) from rfl)
  have HIL := run.hid (And.intro (show insL ⟨F, ca, an, L, dn⟩ t = lineT (aheadI ⟨F, ca, an, L, dn⟩ t ++ textB (F.drop (mkT an ca).2)) from rfl) (show aheadI ⟨F, ca, an, L, dn⟩ t = textB (F.take (mkT an ca).1) ++ utf.str (utf.text (typedT (utf.runes (utf.bs t)))) from rfl))
  generalize insT ⟨F, ca, an, L, dn⟩ t = BT at *
  generalize insL ⟨F, ca, an, L, dn⟩ t = IL at *
  generalize aheadI ⟨F, ca, an, L, dn⟩ t = AH at *
  generalize utf.runes (utf.bs t) = R at *
  generalize hRN : R.length = N at *
  have HRN := run.hid hRN
  clear hRN
  have HH := run.hid (And.intro h hSlt)
  clear h hSlt
  go_enter Try.func10, Try.ntmps10
  go_wp2_with fail
  refine HRU.out.mono ?_
  rintro e w1 ⟨v, rfl, hown, hrd, hb1, -⟩
  have HRD := run.hid hrd
  have hlen0 := fun (X : World) => (show (Builtin.len_ #[81] 3 #[v]).run Try.prog X = .ok (.int .i64 (N : Nat)) X from by
    obtain ⟨a, c, rfl⟩ := run.own_value hown
    simp [go_sem, Builtin.len_])
  clear HRU hown hrd
  have HB1 := run.hid hb1
  clear hb1
  go_upto_block 0 with fail
  go_cut [5] (fun p wx => wx.ownsRow w.heap.size 21 1 p (typedT R).length (utf.rv (typedT R)) ∧ Below w.heap.size w wx)
  case first =>
    clear HIN HIL HH
    go_wp2
    go_loopw [21, 5] (fun vi vt wr => ∃ k : Nat, k ≤ N ∧ vi = .int .i64 k ∧ wr.ownsRow w1.heap.size 21 1 vt (typedT (R.take k)).length (utf.rv (typedT (R.take k))) ∧ Below w1.heap.size w1 wr) (fun vi _ _ => ((N : Int) - intOf vi).toNat)
    case atStart => exact ⟨0, Nat.zero_le _, rfl, World.ownsRow_nil _ _ _ _, Below.refl _ _⟩
    case round =>
      obtain ⟨k, hk, rfl, hown, hb2⟩ := hrel
      have hbel := hb2
      have hsz := hbel.size
      by_cases hlt : k < N
      · have hR0 : utf.rv R ≠ [] := by intro e; have := congrArg List.length e; rw [utf.rv_length, HRN.out, List.length_nil] at this; omega
        obtain ⟨rb, ro, rc, hv, hrb, hcell⟩ := utf.reads_get HRD.out hR0
        rw [utf.rv_length, HRN.out] at hv
        subst hv
        have x0 := (hb2.cell (p := ⟨rb, ro + k, none⟩) hrb).trans (hcell k (.int .i32 (R.getD k 0)) (by unfold utf.rv; rw [List.getElem?_map, List.getD_eq_getElem?_getD, List.getElem?_eq_getElem (by rw [HRN.out]; exact hlt)]; rfl))
        have hnx := HTN.out k (by first | exact hlt | (rw [HRN.out]; exact hlt))
        have hln := HTL.out k
        rw [List.length_take, HRN.out] at hln
        generalize typedT (R.take k) = xs at *
        clear HTN HTL HRD hcell hR0
        generalize R.getD k 0 = r at *
        by_cases h10 : r = 10
        · subst h10
          have h1 : typed1 10 = [32] := rfl
          rw [h1] at hnx
          clear h1
          go_upto_region 8 with fail
          go_wp2_with (at_builtin; refine wpList_append_own _ rfl _ _ 81 rfl w1.heap.size 21 i0 (.int .i32 0) 1 4 Try.underlying81 hi hz0 hz1 hz2 rfl (by decide) _ _ _ rfl (hown.alloc _) ⟨wr.heap.size, 0, none⟩ 1 1 [.int .i32 32] rfl rfl (run.news_one _ _ _) (by intro u hu; simp at hu; subst hu; rfl) (by unfold maxLen; omega) (by omega) (by simp; omega) ?_)
          intro v' w2 hown2 hgrow hnil
          rw [utf.rv_snoc] at hown2
          have hbel2 := run.below_append (hbel.alloc hsz _) (hown.alloc _) hgrow (by simp; omega)
          have ho3 : w2.ownsRow w1.heap.size 21 1 v' (typedT (R.take (k + 1))).length (utf.rv (typedT (R.take (k + 1)))) := by rw [hnx]; rw [List.length_append]; exact hown2
          have HO3 := run.hid (And.intro ho3 hbel2)
          clear hown hown2 hgrow hnil hbel ho3 hbel2 hnx
          go_wp2
          go_roundw
          case rel => exact ⟨k + 1, by omega, by go_num, HO3.out.1, HO3.out.2⟩
          case measure => simp [intOf]; omega
        · by_cases h9 : r = 9
          · subst h9
            have h1 : typed1 9 = [32] := rfl
            rw [h1] at hnx
            clear h1
            go_upto_region 8 with fail
            go_wp2_with (at_builtin; refine wpList_append_own _ rfl _ _ 81 rfl w1.heap.size 21 i0 (.int .i32 0) 1 4 Try.underlying81 hi hz0 hz1 hz2 rfl (by decide) _ _ _ rfl (hown.alloc _) ⟨wr.heap.size, 0, none⟩ 1 1 [.int .i32 32] rfl rfl (run.news_one _ _ _) (by intro u hu; simp at hu; subst hu; rfl) (by unfold maxLen; omega) (by omega) (by simp; omega) ?_)
            intro v' w2 hown2 hgrow hnil
            rw [utf.rv_snoc] at hown2
            have hbel2 := run.below_append (hbel.alloc hsz _) (hown.alloc _) hgrow (by simp; omega)
            have ho3 : w2.ownsRow w1.heap.size 21 1 v' (typedT (R.take (k + 1))).length (utf.rv (typedT (R.take (k + 1)))) := by rw [hnx]; rw [List.length_append]; exact hown2
            have HO3 := run.hid (And.intro ho3 hbel2)
            clear hown hown2 hgrow hnil hbel ho3 hbel2 hnx
            go_wp2
            go_roundw
            case rel => exact ⟨k + 1, by omega, by go_num, HO3.out.1, HO3.out.2⟩
            case measure => simp [intOf]; omega
          · have hq10 : ((r == 10) : Bool) = false := by simp [h10]
            have hq9 : ((r == 9) : Bool) = false := by simp [h9]
            by_cases hp : (32 ≤ r ∧ r < 127) ∨ 159 < r
            · have h1 : typed1 r = [r] := by unfold typed1; rw [if_neg (by omega), if_pos hp]
              rw [h1] at hnx
              clear h1
              rcases hp with ⟨hp1, hp2⟩ | hp1
              · go_upto_region 10 with fail
                go_wp2_with (at_builtin; refine wpList_append_own _ rfl _ _ 81 rfl w1.heap.size 21 i0 (.int .i32 0) 1 4 Try.underlying81 hi hz0 hz1 hz2 rfl (by decide) _ _ _ rfl (hown.alloc _) ⟨wr.heap.size, 0, none⟩ 1 1 [.int .i32 r] rfl rfl (run.news_one _ _ _) (by intro u hu; simp at hu; subst hu; rfl) (by unfold maxLen; omega) (by omega) (by simp; omega) ?_)
                intro v' w2 hown2 hgrow hnil
                rw [utf.rv_snoc] at hown2
                have hbel2 := run.below_append (hbel.alloc hsz _) (hown.alloc _) hgrow (by simp; omega)
                have ho3 : w2.ownsRow w1.heap.size 21 1 v' (typedT (R.take (k + 1))).length (utf.rv (typedT (R.take (k + 1)))) := by rw [hnx]; rw [List.length_append]; exact hown2
                have HO3 := run.hid (And.intro ho3 hbel2)
                clear hown hown2 hgrow hnil hbel ho3 hbel2 hnx
                go_wp2
                go_roundw
                case rel => exact ⟨k + 1, by omega, by go_num, HO3.out.1, HO3.out.2⟩
                case measure => simp [intOf]; omega
              · have hp2 : 32 ≤ r := by omega
                have hp3 : ¬ r < 127 := by omega
                go_upto_region 10 with fail
                go_wp2_with (at_builtin; refine wpList_append_own _ rfl _ _ 81 rfl w1.heap.size 21 i0 (.int .i32 0) 1 4 Try.underlying81 hi hz0 hz1 hz2 rfl (by decide) _ _ _ rfl (hown.alloc _) ⟨wr.heap.size, 0, none⟩ 1 1 [.int .i32 r] rfl rfl (run.news_one _ _ _) (by intro u hu; simp at hu; subst hu; rfl) (by unfold maxLen; omega) (by omega) (by simp; omega) ?_)
                intro v' w2 hown2 hgrow hnil
                rw [utf.rv_snoc] at hown2
                have hbel2 := run.below_append (hbel.alloc hsz _) (hown.alloc _) hgrow (by simp; omega)
                have ho3 : w2.ownsRow w1.heap.size 21 1 v' (typedT (R.take (k + 1))).length (utf.rv (typedT (R.take (k + 1)))) := by rw [hnx]; rw [List.length_append]; exact hown2
                have HO3 := run.hid (And.intro ho3 hbel2)
                clear hown hown2 hgrow hnil hbel ho3 hbel2 hnx
                go_wp2
                go_roundw
                case rel => exact ⟨k + 1, by omega, by go_num, HO3.out.1, HO3.out.2⟩
                case measure => simp [intOf]; omega
            · have h1 : typed1 r = [] := by unfold typed1; rw [if_neg (by omega), if_neg hp]
              rw [h1, List.append_nil] at hnx
              clear h1
              have HO3 := run.hid (And.intro hown hb2)
              have HNX := run.hid hnx
              clear hown hbel hb2 hnx
              by_cases hp1 : 32 ≤ r
              · have hp2 : ¬ r < 127 := by omega
                have hp3 : ¬ 159 < r := by omega
                clear hp
                go_wp2
                go_roundw
                case rel => exact ⟨k + 1, by omega, by go_num, by rw [HNX.out]; exact HO3.out.1, HO3.out.2⟩
                case measure => simp [intOf]; omega
              · have hp3 : ¬ 159 < r := by omega
                clear hp
                go_wp2
                go_roundw
                case rel => exact ⟨k + 1, by omega, by go_num, by rw [HNX.out]; exact HO3.out.1, HO3.out.2⟩
                case measure => simp [intOf]; omega
      · obtain rfl : k = N := by omega
        rw [HTK.out] at hown
        have HO3 := run.hid (And.intro hown hbel)
        clear hown hbel hb2 HTN HTL
        go_wp2
        go_meet
        exact ⟨own_base HO3.out.1 HB1.out.size, HB1.out.trans (HO3.out.2.mono HB1.out.size)⟩
  case rest =>
    obtain ⟨hown, hbel⟩ := hcut
    have hEw := HH.out.1
    obtain ⟨⟨sv, hE, hS⟩, sb, sg, sl⟩ := hEw
    dsimp only at hE
    have hEc := hE.below hbel
    have HM := run.hid (marked_any hEc)
    have HED := run.hid (fun (X : World) (hX : Below wc.heap.size wc X) => hEc.below hX)
    have hTl : (typedT R).length ≤ 1073741824 := by have := HTL.out N; rw [HTK.out, HRN.out] at this; omega
    have HTX := run.hid (fun (X : World) (hX : Below wc.heap.size wc X) => utf.text_any _ (typedT R) X (run.reads_own (run.own_below hown hX)) (by omega))
    have hmk := mk_le (an := an) hca han
    have HBC := run.hid hbel
    clear hE hS sb sg sl hEc hown hbel HRD HTN HTL HTK HB1 hRl
    generalize mkT an ca = MK at *
    obtain ⟨ma, mb⟩ := MK
    dsimp only at hmk HM HIN HIL
    go_wp2_with fail
    refine HM.out.mono ?_
    rintro e w2 ⟨rfl, hs2⟩
    have hb2 := hs2.below
    have hE2 := HED.out w2 hb2
    have c0 := blk_cell hE2.box 0
    change w2.cell? _ = some (.pointer (some ⟨g, 0, none⟩)) at c0
    obtain ⟨gn, gcap, gf, gu, gA, hG, hgc, hgn, hgl⟩ := hE2.gap
    have HALL := run.hid (edC.all_any hG hgc (cellsT_one F) hgn)
    rw [hgl] at HALL
    have HB2 := run.hid hb2
    clear HM hs2 hb2 hE2 hG hgc hgn hgl
    go_wp2_with fail
    refine HALL.out.mono ?_
    rintro e w3 ⟨v3, rfl, hown, hb3⟩
    obtain ⟨a3, c3, rfl⟩ := run.own_value hown
    have hb23 := HB2.out.trans (hb3.mono HB2.out.size)
    have HO3 := run.hid hown
    have HB3 := run.hid (And.intro hb23 hb3)
    clear HALL hb3 hb23 c0 HB2
    have hTB : utf.text (typedT R) = utf.text (typedT R) := rfl
    have hsz1 : (utf.str (utf.text (typedT R))).size ≤ 4294967296 := by rw [utf.str_size]; have := (utf.text_length (typedT R)).2; omega
    have hszA : (textL (F.take ma)).length ≤ 65536 := Nat.le_trans (textL_le F ma) hFs
    have hszB : (textL (F.drop mb)).length ≤ 65536 := by
      have h : textL F = textL (F.take mb) ++ textL (F.drop mb) := by unfold textL; rw [← List.flatMap_append, List.take_append_drop]
      have h2 : (textL F).length ≤ 65536 := hFs
      rw [h, List.length_append] at h2
      omega
    have HTA := run.hid (fun (a : Option Addr) (c : Nat) (hS : Src 2 w3 a (F.take ma).length c (cellsT (F.take ma))) => text_any a c (F.take ma) w3 hS (by omega) (by rw [List.length_take]; omega))
    have HTB := run.hid (fun (X : World) (a : Option Addr) (c : Nat) (hS : Src 2 X a (F.drop mb).length c (cellsT (F.drop mb))) => text_any a c (F.drop mb) X hS (by omega) (by rw [List.length_drop]; omega))
    have hlA : (F.take ma).length = ma := by rw [List.length_take]; omega
    have hlB : (F.drop mb).length = F.length - mb := by rw [List.length_drop]
    rw [hlA] at HTA
    rw [hlB] at HTB
    have HSA := run.hid (src_own HO3.out rfl (i := ma) (by omega))
    have HSB := run.hid (fun (hc : F.length ≤ c3) => src_cut (lo := mb) (hi := F.length) (by have := src_own HO3.out rfl (i := F.length) (Nat.le_refl _); rw [List.take_of_length_le (Nat.le_refl _)] at this; exact this) rfl hmk.2 (Nat.le_refl _) hc)
    have HDR := run.hid (show (F.drop mb).take (F.length - mb) = F.drop mb from List.take_of_length_le (by rw [List.length_drop]; omega))
    rw [HDR.out] at HSB
    clear hTB hlA hlB HDR hszA hszB
    obtain ⟨TA, hTA⟩ : ∃ TA, TA = textB (F.take ma) := ⟨_, rfl⟩
    obtain ⟨TBB, hTB⟩ : ∃ TB, TB = textB (F.drop mb) := ⟨_, rfl⟩
    obtain ⟨TY, hTY⟩ : ∃ TY, TY = utf.str (utf.text (typedT R)) := ⟨_, rfl⟩
    have hTAs : TA.size ≤ 65536 := by rw [hTA]; exact Nat.le_trans (textL_le F ma) hFs
    rw [← hTY] at hsz1
    have hTAe : (⟨(textL (F.take ma)).toArray⟩ : ByteArray) = TA := hTA.symm
    have hTBe : (⟨(textL (F.drop mb)).toArray⟩ : ByteArray) = TBB := hTB.symm
    rw [hTAe] at HTA
    rw [hTBe] at HTB
    rw [← hTY] at HTX HIL
    rw [← hTA, ← hTB] at HIL
    have hTBs : TBB.size ≤ 65536 := by
      rw [hTB]
      have h : textL F = textL (F.take mb) ++ textL (F.drop mb) := by unfold textL; rw [← List.flatMap_append, List.take_append_drop]
      have h2 : (textL F).length ≤ 65536 := hFs
      rw [h, List.length_append] at h2
      show (textL (F.drop mb)).length ≤ 65536
      omega
    have hovA : ¬ 9223372036854775807 < TA.size + TY.size := by omega
    have hAHs : (TA ++ TY).size ≤ 8589934592 := by rw [ByteArray.size_append]; omega
    have hAH := HIL.out.2
    have HLI := run.hid (fun (X : World) => line_any (AH ++ TBB) X (by rw [hAH, ByteArray.size_append]; omega))
    have HLA := run.hid (fun (X : World) => line_any AH X (by rw [hAH]; omega))
    have hovB : ¬ 9223372036854775807 < AH.size + TBB.size := by rw [hAH]; omega
    rw [← HIL.out.1] at HLI
    have hlen1 := line_len4 (AH ++ TBB)
    have hlen2 := line_len4 AH
    rw [← HIL.out.1, ByteArray.size_append] at hlen1
    rw [hAH] at hlen1 hlen2
    have HFIL := run.hid (show wrp.Lin IL ∧ IL.length ≤ 68719476736 ∧ (lineT AH).length ≤ 68719476736 ∧ sizeL IL ≤ 68719476736 from ⟨by rw [HIL.out.1, line_is]; exact (wrp.lin_line _).1, by omega, by rw [hAH]; omega, by
      have h1 := (wrp.lin_line (AH ++ TBB)).2
      have h2 := wrp.flowText_size (AH ++ TBB)
      rw [HIL.out.1, size_bytes, line_is]
      rw [utf.bs_length] at h1
      rw [ByteArray.size_append, hAH] at h2
      rw [hAH] at h1 ⊢
      omega⟩)
    have HAH := run.hid hAH
    clear hTA hTB hTY hTAe hTBe hlen1 hlen2 HIL hAH
    generalize hNF : F.length = NF at *
    have HNF := run.hid hNF
    clear hNF
    have hways := own_ways (mb := mb) HO3.out
    clear HO3
    go_upto_region 14 with fail
    go_cut [11] (fun p wx => p = .string AH ∧ Below w3.heap.size w3 wx)
    case first =>
      clear HIN HH HLI HLA HFIL
      rcases hways with ⟨rfl, rfl, rfl⟩ | ⟨g3, rfl, hNc, rfl⟩ | ⟨g3, rfl, hNc, hcm⟩
      · have hm0 : ma = 0 := by omega
        subst hm0
        have HT1 := run.hid (HTA.out none 0 HSA.out)
        clear HSA HSB HTA HTB
        go_wp2_with fail
        refine HT1.out.mono ?_
        rintro e w4 ⟨rfl, hb4⟩
        have HX4 := run.hid (HTX.out w4 (HB3.out.1.trans (hb4.mono HB3.out.1.size)))
        have HB4 := run.hid hb4
        clear HT1 hb4
        go_wp2_with fail
        refine HX4.out.mono ?_
        rintro e w5 ⟨rfl, hb5⟩
        have HF := run.hid (HB4.out.trans (hb5.mono HB4.out.size))
        clear HX4 HB4 hb5
        go_wp2
        go_meet
        exact ⟨by rw [HAH.out], HF.out⟩
      · have HT1 := run.hid (HTA.out _ _ HSA.out)
        clear HSA HSB HTA HTB
        go_wp2_with fail
        refine HT1.out.mono ?_
        rintro e w4 ⟨rfl, hb4⟩
        have HX4 := run.hid (HTX.out w4 (HB3.out.1.trans (hb4.mono HB3.out.1.size)))
        have HB4 := run.hid hb4
        clear HT1 hb4
        go_wp2_with fail
        refine HX4.out.mono ?_
        rintro e w5 ⟨rfl, hb5⟩
        have HF := run.hid (HB4.out.trans (hb5.mono HB4.out.size))
        clear HX4 HB4 hb5
        go_wp2
        go_meet
        exact ⟨by rw [HAH.out], HF.out⟩
      · have HT1 := run.hid (HTA.out _ _ HSA.out)
        clear HSA HSB HTA HTB
        go_wp2_with fail
        refine HT1.out.mono ?_
        rintro e w4 ⟨rfl, hb4⟩
        have HX4 := run.hid (HTX.out w4 (HB3.out.1.trans (hb4.mono HB3.out.1.size)))
        have HB4 := run.hid hb4
        clear HT1 hb4
        go_wp2_with fail
        refine HX4.out.mono ?_
        rintro e w5 ⟨rfl, hb5⟩
        have HF := run.hid (HB4.out.trans (hb5.mono HB4.out.size))
        clear HX4 HB4 hb5
        go_wp2
        go_meet
        exact ⟨by rw [HAH.out], HF.out⟩
    case rest =>
      obtain ⟨rfl, hb4⟩ := hcut
      have HB4 := run.hid hb4
      clear hb4
      go_upto_region 15 with fail
      generalize wc = wd at *
      go_cut [12] (fun p wx => wx.ownsRow w3.heap.size 73 2 p IL.length (cellsT IL) ∧ Below w3.heap.size w3 wx)
      case first =>
        clear HIN HH HLA HFIL
        rcases hways with ⟨rfl, rfl, rfl⟩ | ⟨g3, rfl, hNc, rfl⟩ | ⟨g3, rfl, hNc, hcm⟩
        · have hm0 : ma = 0 := by omega
          have hm1 : mb = 0 := by omega
          subst hm0
          subst hm1
          have HT2 := run.hid (HTB.out wd none 0 ((HSB.out (by omega)).of HB4.out.size (fun k off e h => HB4.out.block k h)))
          clear HSA HSB HTA HTB
          go_wp2_with fail
          refine HT2.out.mono ?_
          rintro e w5 ⟨rfl, hb5⟩
          have HB5 := run.hid (HB4.out.trans (hb5.mono HB4.out.size))
          clear HT2 hb5
          have HL5 := run.hid (HLI.out w5)
          go_wp2_with fail
          refine HL5.out.mono ?_
          rintro e w6 ⟨v6, rfl, hown6, hb6⟩
          have HF := run.hid (And.intro (own_base hown6 HB5.out.size) (HB5.out.trans (hb6.mono HB5.out.size)))
          clear HL5 hown6 hb6
          go_wp2
          go_meet
          exact HF.out
        · have hm1 : NF = c3 := by omega
          have hS2 := (HSB.out (by omega)).of HB4.out.size (fun k off e h => HB4.out.block k h)
          simp only [cutAt, if_true, Nat.zero_add, Nat.sub_self] at hS2
          subst hm1
          rw [Nat.sub_self] at hS2
          have hT2 := HTB.out wd
          rw [Nat.sub_self] at hT2
          have HT2 := run.hid (hT2 _ _ hS2)
          clear hS2 hT2
          clear HSA HSB HTA HTB
          go_wp2_with fail
          refine HT2.out.mono ?_
          rintro e w5 ⟨rfl, hb5⟩
          have HB5 := run.hid (HB4.out.trans (hb5.mono HB4.out.size))
          clear HT2 hb5
          have HL5 := run.hid (HLI.out w5)
          go_wp2_with fail
          refine HL5.out.mono ?_
          rintro e w6 ⟨v6, rfl, hown6, hb6⟩
          have HF := run.hid (And.intro (own_base hown6 HB5.out.size) (HB5.out.trans (hb6.mono HB5.out.size)))
          clear HL5 hown6 hb6
          go_wp2
          go_meet
          exact HF.out
        · have hS2 := (HSB.out (by omega)).of HB4.out.size (fun k off e h => HB4.out.block k h)
          simp only [cutAt, hcm, if_false, Nat.zero_add] at hS2
          have HT2 := run.hid (HTB.out wd _ _ hS2)
          clear hS2
          clear HSA HSB HTA HTB
          go_wp2_with fail
          refine HT2.out.mono ?_
          rintro e w5 ⟨rfl, hb5⟩
          have HB5 := run.hid (HB4.out.trans (hb5.mono HB4.out.size))
          clear HT2 hb5
          have HL5 := run.hid (HLI.out w5)
          go_wp2_with fail
          refine HL5.out.mono ?_
          rintro e w6 ⟨v6, rfl, hown6, hb6⟩
          have HF := run.hid (And.intro (own_base hown6 HB5.out.size) (HB5.out.trans (hb6.mono HB5.out.size)))
          clear HL5 hown6 hb6
          go_wp2
          go_meet
          exact HF.out
      case rest =>
        obtain ⟨hown, hb5⟩ := hcut
        obtain ⟨al, cl, hp⟩ := run.own_value hown
        subst hp
        have hcl : IL.length ≤ cl := by
          rcases hown.2 with ⟨h1, h0⟩ | ⟨g4, cap4, cur4, h1, -, -, h2, -⟩
          · omega
          · simp only [Value.slice.injEq] at h1; omega
        have HAB := run.hid (show ∀ k off x, al = some ⟨k, off, x⟩ → w3.heap.size ≤ k from by
          intro k off x e
          rcases hown.2 with ⟨h1, -⟩ | ⟨g4, cap4, cur4, h1, h2, -⟩
          · simp only [Value.slice.injEq] at h1; rw [h1.1] at e; cases e
          · simp only [Value.slice.injEq] at h1
            rw [h1.1] at e
            simp only [Option.some.injEq, Addr.mk.injEq] at e
            omega)
        have HOW := run.hid hown
        have HB5 := run.hid hb5
        have hB3 := HB3.out.1
        have hbw := HBC.out.trans (hB3.mono HBC.out.size)
        have hbw5 := hbw.trans (hb5.mono hbw.size)
        have HBW := run.hid hbw5
        have HW3 := run.hid hbw.size
        have hNI := HFIL.out.2.1
        have hszI := HFIL.out.2.2.2
        have HSN := run.hid (fun i (hi : i < IL.length) => @sizeL_snoc IL i hi)
        have HTKI := run.hid (show IL.take IL.length = IL from List.take_of_length_le (Nat.le_refl _))
        have HSL := run.hid (fun i => show sizeL (IL.take i) ≤ sizeL IL from textL_le IL i)
        clear hown hb5 hB3 hbw hbw5 HB3 HB4 HBC HSA HSB HTA HTB HTX HLI HED HAH hways
        generalize wc = we at *
        generalize hNI2 : IL.length = NI at *
        have HNI := run.hid hNI2
        clear hNI2
        go_upto_block 3 with fail
        go_cut [13] (fun p wx => p = .int .i64 (sizeL IL : Nat) ∧ Below we.heap.size we wx)
        case first =>
          clear HIN HH HLA
          go_wp2
          go_loopw [77, 13] (fun vi vn wr => ∃ k : Nat, k ≤ NI ∧ vi = .int .i64 k ∧ vn = .int .i64 (sizeL (IL.take k) : Nat) ∧ Below we.heap.size we wr) (fun vi _ _ => ((NI : Int) - intOf vi).toNat)
          case atStart => exact ⟨0, Nat.zero_le _, rfl, rfl, Below.refl _ _⟩
          case round =>
            obtain ⟨k, hk, rfl, rfl, hbel⟩ := hrel
            have hle := HSL.out k
            by_cases hlt : k < NI
            · have hown := run.own_below HOW.out hbel
              obtain ⟨g3, rfl⟩ : ∃ g3, al = some ⟨g3, 0, none⟩ := by
                rcases hown.2 with ⟨e, h0⟩ | ⟨g3, c, cur, e, -⟩
                · omega
                · simp only [Value.slice.injEq] at e
                  exact ⟨g3, e.1⟩
              obtain ⟨x0, x1⟩ := own_cells hown (i := k) (by rw [HNI.out]; exact hlt)
              have hsn := HSN.out k (by first | exact hlt | (rw [HNI.out]; exact hlt))
              have hle2 := HSL.out (k + 1)
              rw [hsn] at hle2
              generalize IL.getD k tv0 = q at *
              obtain ⟨qt, qw⟩ := q
              dsimp only at x0 x1 hsn hle2
              have HS := run.hid hsn
              have hb2 := hbel.alloc hbel.size (.cells #[.string qt, .int .i64 (qw : Nat)] 73)
              have HF := run.hid hb2
              have hqs : ((sizeL (IL.take k) : Nat) : Int) + (qt.size : Int) ≤ 68719476736 := by omega
              clear hsn hle2 hown hbel hb2 HSN HSL
              generalize sizeL (IL.take k) = sk at *
              go_wp2
              go_roundw
              case rel => exact ⟨k + 1, by omega, by go_num, by rw [HS.out]; go_num, HF.out⟩
              case measure => simp [intOf]; omega
            · obtain rfl : k = NI := by omega
              rw [HTKI.out]
              have HF := run.hid hbel
              clear hbel HSN HSL
              go_wp2
              go_meet
              exact ⟨rfl, HF.out⟩
        case rest =>
          obtain ⟨rfl, hbz⟩ := hcut
          have HBZ := run.hid hbz
          clear hbz HSN HTKI HSL
          generalize wc = wz at *
          obtain ⟨SI, hSI⟩ : ∃ SI, SI = sizeL IL := ⟨_, rfl⟩
          rw [← hSI] at hszI HIN ⊢
          have HSI := run.hid hSI
          clear hSI
          by_cases hbig : 65536 < SI
          · have hbigI : (65536 : Int) < (SI : Int) := by omega
            have hBT := HIN.out
            rw [if_pos hbig] at hBT
            have HF := run.hid (And.intro hBT (After.stay HH.out.1 (Kept.of_below (HBW.out.trans (HBZ.out.mono HBW.out.size)))))
            clear hBT HIN HH HLA HOW HAB HFIL
            go_wp2
            go_ret
            rw [HF.out.1]
            exact ⟨rfl, HF.out.2⟩
          · have hbigI : ¬ (65536 : Int) < (SI : Int) := by omega
            have hBT := HIN.out
            rw [if_neg hbig] at hBT
            have HBT := run.hid hBT
            clear hBT HIN
            have HL1 := run.hid (HLA.out wz)
            obtain ⟨LA, hLA⟩ : ∃ LA, LA = (lineT AH).length := ⟨_, rfl⟩
            rw [← hLA] at HL1 HBT
            clear HLA hLA
            go_wp2_with fail
            refine HL1.out.mono ?_
            rintro e w7 ⟨v7, rfl, hown7, hb7⟩
            obtain ⟨a7, c7, rfl⟩ := run.own_value hown7
            have hbzz := HBZ.out.trans (hb7.mono HBZ.out.size)
            have hb07 := HBW.out.trans (hbzz.mono HBW.out.size)
            have hown9 := run.own_below HOW.out hbzz
            have hsr : Src 2 w7 al NI cl (cellsT IL) := by
              have hh := src_own hown9 HNI.out (i := NI) (Nat.le_refl _)
              rw [List.take_of_length_le (by rw [HNI.out]; exact Nat.le_refl _)] at hh
              exact hh
            have hNI2 : NI ≤ 65536 := by
              have := lin_len HFIL.out.1
              rw [HNI.out, ← HSI.out] at this
              omega
            have HBEC := run.hid (fun (al' : Bool) => become_any (HH.out.1.below hb07) al cl IL LA al' (by rw [HNI.out]; exact hsr) (by rw [HNI.out]; exact hcl) (fun k off e h => by
              have h1 := HAB.out k off none e
              have h2 := HH.out.2 k h
              have h3 := HW3.out
              omega) (fun k h => Nat.lt_of_lt_of_le (HH.out.2 k h) hb07.size) (by dsimp only; rw [HNF.out]; omega) (by rw [HNI.out]; omega) hdn hdm)
            have HB07 := run.hid hb07
            clear hown7 hb7 hbzz hb07 hown9 hsr HL1 HOW HAB HFIL HH HBZ HBW
            by_cases hab : ma < mb
            · have habI : (ma : Int) < (mb : Int) := by omega
              have hB1 := HBEC.out true
              rw [HNI.out] at hB1
              have HB1 := run.hid hB1
              have HBT2 := run.hid (show BT = becomeT ⟨F, ca, an, L, dn⟩ IL LA true from by rw [HBT.out, decide_eq_true hab])
              clear hB1 HBEC HBT
              go_wp2_with fail
              refine HB1.out.mono ?_
              rintro e w9 ⟨rfl, haf⟩
              rw [← HBT2.out] at haf ⊢
              have HF := run.hid (After.pre HB07.out haf)
              clear HB1 haf HBT2
              go_wp2
              go_ret
              exact ⟨rfl, HF.out⟩
            · have habI : ¬ (ma : Int) < (mb : Int) := by omega
              have hB1 := HBEC.out false
              rw [HNI.out] at hB1
              have HB1 := run.hid hB1
              have HBT2 := run.hid (show BT = becomeT ⟨F, ca, an, L, dn⟩ IL LA false from by rw [HBT.out, decide_eq_false hab])
              clear hB1 HBEC HBT
              go_wp2_with fail
              refine HB1.out.mono ?_
              rintro e w9 ⟨rfl, haf⟩
              rw [← HBT2.out] at haf ⊢
              have HF := run.hid (After.pre HB07.out haf)
              clear HB1 haf HBT2
              go_wp2
              go_ret
              exact ⟨rfl, HF.out⟩
end Go.Proofs.Ytgfjaegjkklcpaa.ed
