/-
  The editor's View; several editors beside each other.
-/
import Derived.Test.YtbhhfagifdjmmaaGreatEdD
import Derived.Deep.CutBlock
namespace Go.Proofs.YtbhhfagifdjmmaaGreat.ed
open Go Go.RowKit Go.Proofs
set_option linter.unusedVariables false
def wd (F : List TV) (i : Nat) : Nat := (F.getD i tv0).2
/-- back from the caret, as far as it is seen -/
def backT (F : List TV) (W : Nat) : Nat → Nat → Nat × Nat
  | 0, col => (0, col)
  | s + 1, col => if W - 1 < col + wd F s then (s + 1, col) else backT F W s (col + wd F s)
/-- on, as far as there is room -/
def foreT (F : List TV) : Nat → Nat → Nat → Nat
  | 0, s, _ => s
  | f + 1, s, left => if left < wd F s then s else foreT F f (s + 1) (left - wd F s)
def viewW (F : List TV) (ca W : Nat) : ByteArray × Nat := (textB ((F.drop (backT F W ca 0).1).take (foreT F (F.length - (backT F W ca 0).1) (backT F W ca 0).1 W - (backT F W ca 0).1)), (backT F W ca 0).2)
def viewT (F : List TV) (ca : Nat) (w : Int) : ByteArray × Nat := if min w 4096 < 1 then (⟨#[]⟩, 0) else viewW F ca (min w 4096).toNat
theorem backT_le (F : List TV) (W : Nat) : ∀ s col, (backT F W s col).1 ≤ s ∧ (col ≤ W - 1 → (backT F W s col).2 ≤ W - 1)
  | 0, col => ⟨Nat.le_refl _, fun h => h⟩
  | s + 1, col => by
    unfold backT
    split
    · exact ⟨Nat.le_refl _, fun h => h⟩
    · have := backT_le F W s (col + wd F s)
      exact ⟨by omega, fun _ => this.2 (by omega)⟩
theorem foreT_le (F : List TV) : ∀ f s left, s ≤ foreT F f s left ∧ foreT F f s left ≤ s + f
  | 0, s, _ => ⟨Nat.le_refl _, Nat.le_refl _⟩
  | f + 1, s, left => by
    unfold foreT
    split
    · omega
    · have := foreT_le F f (s + 1) (left - wd F s)
      omega
theorem lin_wd {F : List TV} (h : wrp.Lin F) (i : Nat) : wd F i ≤ 2 := by
  obtain ⟨Y0, rfl, -⟩ := h
  unfold wd
  rw [List.getD_eq_getElem?_getD]
  cases hq : (clu.seen Y0)[i]? with
  | none => show (0 : Nat) ≤ 2; omega
  | some q =>
    have hm := List.mem_of_getElem? hq
    unfold clu.seen at hm
    obtain ⟨p, -, rfl⟩ := List.mem_map.1 hm
    exact clu.wide_le p
set_option maxRecDepth 100000 in
set_option maxHeartbeats 8000000 in
theorem viewW_any {b g lb : Nat} {F : List TV} {ca : Nat} {an : Int} {sv : Value} {dn : Int} {w : World} (h : Ed b g lb F ca an sv dn w) (x : Int) (hc : ca ≤ F.length) (hF : F.length ≤ 65536) (hFs : sizeL F ≤ 65536) (hw2 : ∀ i, wd F i ≤ 2) :
    Calls Tryz.prog 23 #[.pointer (some ⟨b, 0, none⟩), .int .i64 x] w fun e w' => e = .returned (.tuple #[.string (viewT F ca x).1, .int .i64 ((viewT F ca x).2 : Nat)]) ∧ Below w.heap.size w w' := by
  have hmin : ∃ z : Int, z = min x 4096 ∧ z ≤ 4096 := ⟨_, rfl, by omega⟩
  obtain ⟨z, hz, hz4⟩ := hmin
  by_cases hz1 : z < 1
  · have hv : viewT F ca x = (⟨#[]⟩, 0) := by unfold viewT; rw [← hz, if_pos hz1]
    rw [hv]
    have hzz : min x 4096 = z := hz.symm
    clear h hv hz
    go_enter Tryz.func23, Tryz.ntmps23
    go_wp2
    go_ret2
    exact ⟨rfl, Below.refl _ _⟩
  · obtain ⟨W, rfl⟩ : ∃ W : Nat, z = W := ⟨z.toNat, by omega⟩
    have hv : viewT F ca x = viewW F ca W := by unfold viewT; rw [← hz, if_neg hz1, Int.toNat_natCast]
    have hzz : min x 4096 = (W : Int) := hz.symm
    have hW1 : 1 ≤ W := by omega
    have hW4 : W ≤ 4096 := by omega
    have hW0 : ¬ (W : Int) < 1 := by omega
    have HAT := run.hid (fun (X : World) (hX : Below w.heap.size w X) (i : Int) => at_any (h.below hX).gap i)
    unfold AtIs at HAT
    have hblt := (Array.getElem?_eq_some_iff.1 h.box).1
    have c0 := blk_cell h.box 0
    have c1 := blk_cell h.box 1
    change w.cell? _ = some (.pointer (some ⟨g, 0, none⟩)) at c0
    change w.cell? _ = some (.int .i64 (ca : Nat)) at c1
    have HBT := run.hid (show (∀ s col, backT F W (s + 1) col = if W - 1 < col + wd F s then (s + 1, col) else backT F W s (col + wd F s)) ∧ (∀ col, backT F W 0 col = (0, col)) from ⟨fun _ _ => rfl, fun _ => rfl⟩)
    have HBL := run.hid (backT_le F W ca 0)
    have HWD := run.hid (show ∀ i, wd F i = (F.getD i tv0).2 from fun _ => rfl)
    have HW2 := run.hid hw2
    have HV := run.hid (show viewT F ca x = (textB ((F.drop (backT F W ca 0).1).take (foreT F (F.length - (backT F W ca 0).1) (backT F W ca 0).1 W - (backT F W ca 0).1)), (backT F W ca 0).2) from hv)
    clear h hv hz hz1 hz4 hw2
    generalize viewT F ca x = VT at *
    go_enter Tryz.func23, Tryz.ntmps23
    go_upto_block 0 with fail
    go_cut [6, 7] (fun p q wx => p = .int .i64 ((backT F W ca 0).1 : Nat) ∧ q = .int .i64 ((backT F W ca 0).2 : Nat) ∧ Below w.heap.size w wx)
    case first =>
      clear HV HBL
      generalize hN : F.length = N at *
      go_wp2
      go_loopw [6, 7] (fun vs vc wr => ∃ s col : Nat, s ≤ N ∧ vs = .int .i64 s ∧ vc = .int .i64 col ∧ col ≤ W - 1 ∧ backT F W s col = backT F W ca 0 ∧ Below w.heap.size w wr) (fun vs _ _ => (intOf vs).toNat)
      case atStart => exact ⟨ca, 0, hc, rfl, rfl, Nat.zero_le _, rfl, Below.refl _ _⟩
      case round =>
        obtain ⟨s, col, hs, rfl, rfl, hcol, hbk, hbel⟩ := hrel
        have x0 := (hbel.cell (p := ⟨b, 0, none⟩) hblt).trans c0
        cases s with
        | zero =>
          rw [HBT.out.2] at hbk
          have HF := run.hid (And.intro hbk hbel)
          clear hbk hbel HAT HBT
          go_wp2
          go_meet
          exact ⟨by rw [← HF.out.1], by rw [← HF.out.1], HF.out.2⟩
        | succ s =>
          have HA := run.hid (HAT.out wr hbel s)
          have HB := run.hid hbel
          rw [HBT.out.1] at hbk
          have hw1 := HW2.out s
          rw [HWD.out] at hbk hw1
          have HBK := run.hid hbk
          clear HAT hbel HBT hbk HW2 HWD
          go_wp2_with fail
          refine HA.out.mono ?_
          rintro e w2 ⟨hb2, ⟨k2, hk2, -, rfl⟩ | ⟨hno, -⟩⟩
          · obtain rfl : s = k2 := by omega
            have hbb := HB.out.trans (hb2.mono HB.out.size)
            have hbk := HBK.out
            clear HA HB hb2 x0 HBK hk2
            generalize F.getD s tv0 = q at *
            obtain ⟨qt, qw⟩ := q
            dsimp only at hbk hw1 ⊢
            have hb3 := hbb.alloc hbb.size (.cells #[.string qt, .int .i64 (qw : Nat)] 40)
            by_cases hq : W - 1 < col + qw
            · rw [if_pos hq] at hbk
              have hqI : (W : Int) - 1 < (col : Int) + (qw : Int) := by omega
              have HF := run.hid (And.intro hbk hb3)
              clear hbk hb3 hbb
              go_wp2
              go_meet
              exact ⟨by rw [← HF.out.1], by rw [← HF.out.1], HF.out.2⟩
            · rw [if_neg hq] at hbk
              have hqI : ¬ (W : Int) - 1 < (col : Int) + (qw : Int) := by omega
              have HF := run.hid (And.intro hbk hb3)
              clear hbk hb3 hbb
              go_wp2
              go_roundw
              case rel => exact ⟨s, col + qw, by omega, by first | rfl | go_num, by go_num, by omega, HF.out.1, HF.out.2⟩
              case measure => simp [intOf]
          · omega
    case rest =>
      obtain ⟨rfl, rfl, hbel⟩ := hcut
      generalize backT F W ca 0 = bt at *
      obtain ⟨S0, C0⟩ := bt
      dsimp only at HV ⊢
      have hS0 := HBL.out.1
      have hC0 := HBL.out.2 (Nat.zero_le _)
      dsimp only at hS0 hC0
      obtain ⟨E, hE⟩ : ∃ E, E = foreT F (F.length - S0) S0 W := ⟨_, rfl⟩
      rw [← hE] at HV
      have HFO := run.hid (show (∀ k l, k < F.length → foreT F (F.length - k) k l = if l < wd F k then k else foreT F (F.length - (k + 1)) (k + 1) (l - wd F k)) ∧ (∀ l, foreT F (F.length - F.length) F.length l = F.length) from by
        refine ⟨fun k l hk => ?_, fun l => by rw [Nat.sub_self]; rfl⟩
        rw [show F.length - k = (F.length - (k + 1)) + 1 by omega]
        rfl)
      have HE := run.hid hE.symm
      have HSN := run.hid (fun j (hj : j < (F.drop S0).length) => @textL_snoc (F.drop S0) j hj)
      have HLE := run.hid (fun j => textL_le (F.drop S0) j)
      have hdl : (textL (F.drop S0)).length ≤ 65536 := by
        have h : textL F = textL (F.take S0) ++ textL (F.drop S0) := by unfold textL; rw [← List.flatMap_append, List.take_append_drop]
        have h2 : (textL F).length ≤ 65536 := hFs
        rw [h, List.length_append] at h2
        omega
      have HGD := run.hid (show ∀ j, (F.drop S0).getD j tv0 = F.getD (S0 + j) tv0 from fun j => by simp [List.getD_eq_getElem?_getD, List.getElem?_drop])
      have hlnD : (F.drop S0).length = F.length - S0 := List.length_drop
      rw [hlnD] at HSN
      clear hE hlnD HBT HBL
      have hb0 := run.below_one wc (.cells #[.pointer none, .slice none 0 0] 87)
      have HB0 := run.hid (And.intro (built_new wc wc.heap.size (Nat.le_refl _)) (hbel.trans (hb0.mono hbel.size)))
      have hsw := hbel.size
      have hBs : wc.heap.size ≤ (wc.alloc (.cells #[.pointer none, .slice none 0 0] 87)).heap.size := by rw [World.size_alloc]; omega
      clear hb0 hbel
      go_upto_region 11 with fail
      generalize wc.alloc (.cells #[.pointer none, .slice none 0 0] 87) = wB at *
      generalize hBB : wc.heap.size = BB at *
      clear hBB
      generalize hN : F.length = N at *
      clear hN
      go_wp2
      go_loopw [6, 11] (fun vs vl wr => ∃ k l : Nat, S0 ≤ k ∧ k ≤ N ∧ vs = .int .i64 k ∧ vl = .int .i64 l ∧ l ≤ W ∧ Hid (foreT F (N - k) k l = E) ∧ Built BB BB (textL ((F.drop S0).take (k - S0))) wr ∧ Below w.heap.size w wr ∧ BB ≤ wr.heap.size) (fun vs _ _ => ((N : Int) - intOf vs).toNat)
      case atStart => exact ⟨S0, W, Nat.le_refl _, by omega, rfl, rfl, Nat.le_refl _, HE, by rw [Nat.sub_self]; exact HB0.out.1, HB0.out.2, hBs⟩
      case round =>
        obtain ⟨k, l, hk0, hkN, rfl, rfl, hlW, HFK, hbu, hbel, hBr⟩ := hrel
        have x0 := (hbel.cell (p := ⟨b, 0, none⟩) hblt).trans c0
        have HA := run.hid (HAT.out wr hbel k)
        have HB := run.hid (And.intro hbu hbel)
        clear hbu hbel HAT HB0 HE
        go_wp2_with fail
        refine HA.out.mono ?_
        rintro e w2 ⟨hb2, ⟨k2, hk2, hk3, rfl⟩ | ⟨hno, rfl⟩⟩
        · obtain rfl : k = k2 := by omega
          have hfk := HFK.out
          rw [HFO.out.1 k l hk3, HWD.out] at hfk
          have hsn := HSN.out (k - S0) (by omega)
          rw [HGD.out, show S0 + (k - S0) = k by omega, show k - S0 + 1 = k + 1 - S0 by omega] at hsn
          have hle := HLE.out (k + 1 - S0)
          have hw1 := HW2.out k
          rw [HWD.out] at hw1
          have hsz2 := hb2.size
          have hbu2 := built_below HB.out.1 hb2
          have hbel2 := HB.out.2.trans (hb2.mono HB.out.2.size)
          rw [hsn, List.length_append] at hle
          generalize F.getD k tv0 = q at *
          obtain ⟨qt, qw⟩ := q
          dsimp only at hfk hsn hle hw1 ⊢
          have hqs : qt.data.toList.length = qt.size := rfl
          have hb3 := run.below_one w2 (.cells #[.string qt, .int .i64 (qw : Nat)] 40)
          have hbu3 := built_below hbu2 hb3
          have hbel3 := hbel2.trans (hb3.mono hbel2.size)
          clear HA HB hb2 x0 HFK hk2 HFO HSN HLE HGD HW2 HWD hbu2 hbel2
          by_cases hq : l < qw
          · rw [if_pos hq] at hfk
            have HST := run.hid (string_any hbu3 (by rw [World.size_alloc]; omega))
            have HF3 := run.hid (And.intro hfk hbel3)
            clear hbu3 hbel3 hb3 hfk hsn hle
            go_wp2_with fail
            refine HST.out.mono ?_
            rintro e w5 ⟨rfl, -, hbw⟩
            have HF := run.hid (HF3.out.2.trans (hbw.mono hsw))
            have HK := run.hid HF3.out.1
            clear hbw HF3 HST
            go_wp2
            go_ret2
            rw [HV.out]
            dsimp only
            rw [← HK.out]
            exact ⟨rfl, HF.out⟩
          · rw [if_neg hq] at hfk
            have HWR := run.hid (write_any qt hbu3 (by omega) (by rw [World.size_alloc]; omega))
            have HF3 := run.hid (And.intro hfk (And.intro hbel3 hsn))
            have h3s : BB ≤ (w2.alloc (.cells #[.string qt, .int .i64 (qw : Nat)] 40)).heap.size := by rw [World.size_alloc]; omega
            clear hbu3 hbel3 hb3 hfk hsn hle hqs
            go_wp2_with fail
            refine HWR.out.mono ?_
            rintro e w5 ⟨rfl, hbu, hbw, -⟩
            have HF := run.hid (And.intro HF3.out.1 (And.intro hbu (HF3.out.2.1.trans (hbw.mono hsw))))
            have HS := run.hid HF3.out.2.2
            have h5s : BB ≤ w5.heap.size := by have := hbw.size; omega
            clear hbu hbw HF3 HWR
            go_wp2
            go_roundw
            case rel => exact ⟨k + 1, l - qw, by omega, by omega, by go_num, by go_num, by omega, run.hid HF.out.1, by rw [HS.out]; exact HF.out.2.1, HF.out.2.2, h5s⟩
            case measure => simp [intOf]; omega
        · obtain rfl : k = N := by omega
          have hfk := HFK.out
          rw [HFO.out.2 l] at hfk
          have hsz2 := hb2.size
          have hbu2 := built_below HB.out.1 hb2
          have hbel2 := HB.out.2.trans (hb2.mono HB.out.2.size)
          have hb3 := run.below_one w2 (.cells #[.string ⟨#[]⟩, .int .i64 0] 40)
          have hbu3 := built_below hbu2 hb3
          have hbel3 := hbel2.trans (hb3.mono hbel2.size)
          have HST := run.hid (string_any hbu3 (by rw [World.size_alloc]; omega))
          have HF3 := run.hid (And.intro hfk hbel3)
          clear HA HB hb2 x0 HFK HFO HSN HLE HGD HW2 HWD hbu2 hbel2 hbu3 hbel3 hb3 hfk
          go_wp2_with fail
          refine HST.out.mono ?_
          rintro e w5 ⟨rfl, -, hbw⟩
          have HF := run.hid (HF3.out.2.trans (hbw.mono hsw))
          have HK := run.hid HF3.out.1
          clear hbw HF3 HST
          go_wp2
          go_ret2
          rw [HV.out]
          dsimp only
          rw [← HK.out]
          exact ⟨rfl, HF.out⟩
end Go.Proofs.YtbhhfagifdjmmaaGreat.ed
namespace Go.Proofs.YtbhhfagifdjmmaaGreat.ed
open Go Go.RowKit Go.Proofs
set_option linter.unusedVariables false
/-- an editor: its blocks, and as it stands -/
structure En where
  b : Nat
  g : Nat
  lb : Nat
  s : Sta
structure EdsIn (S : Nat → Prop) (B : Nat) (es : List En) (w : World) : Prop where
  ed : ∀ (i : Nat) (e : En), es[i]? = some e → EdS S e.b e.g e.lb e.s w
  far : ∀ (i j : Nat) (e f : En), es[i]? = some e → es[j]? = some f → i ≠ j → ∀ k, Own e.b e.g e.lb k → ¬ Own f.b f.g f.lb k
  lt : ∀ k, S k → k < w.heap.size ∧ B ≤ k
/-- editors, by their boxes and as they stand -/
def Eds (B : Nat) (l : List (Nat × Sta)) (w : World) : Prop := ∃ S es, EdsIn S B es w ∧ l = es.map fun e => (e.b, e.s)
theorem Eds.below {B : Nat} {l : List (Nat × Sta)} {w w' : World} (h : Eds B l w) (hb : Below w.heap.size w w') : Eds B l w' := by
  obtain ⟨S, es, h, rfl⟩ := h
  exact ⟨S, es, ⟨fun i e he => EdS.below (h.ed i e he) hb, h.far, fun k hk => by have := h.lt k hk; have := hb.size; omega⟩, rfl⟩
theorem Eds.nil (w : World) : Eds w.heap.size [] w := ⟨fun _ => False, [], ⟨fun i e h => by simp at h, fun i j e f h => by simp at h, fun k h => h.elim⟩, rfl⟩
/-- one more -/
theorem Eds.more {B : Nat} {l : List (Nat × Sta)} {w : World} (h : Eds B l w) (hB : B ≤ w.heap.size) (t : ByteArray) (ht : t.size ≤ 68719476736) :
    Calls Tryz.prog 5 #[.string t] w fun e w' => ∃ b, e = .returned (.pointer (some ⟨b, 0, none⟩)) ∧ Eds B (l ++ [(b, newE t)]) w' ∧ Below w.heap.size w w' := by
  obtain ⟨S, es, h, rfl⟩ := h
  have hlen : (newT t).length ≤ 65536 := (held_new t).len
  have HN := new_any t w ht
  unfold NewIs at HN
  have he : newE t = ⟨newT t, (newT t).length, -1, [], 0⟩ := rfl
  rw [he]
  clear he
  generalize newT t = F at *
  refine HN.mono ?_
  rintro e w' ⟨b, g, lb, cap, A, rfl, hbx, hG, hc, hg, hl, hgb, hlb, hbel⟩
  have hblt := (Array.getElem?_eq_some_iff.1 hbx).1
  have hsz := hbel.size
  refine ⟨b, rfl, ⟨fun k => S k ∨ Own b g lb k, es ++ [⟨b, g, lb, ⟨F, F.length, -1, [], 0⟩⟩], ⟨fun i e hi => ?_, fun i j e f hi hj hne k hk => ?_, fun k hk => ?_⟩, by rw [List.map_append]; rfl⟩, hbel⟩
  · rcases Nat.lt_or_ge i es.length with h1 | h1
    · rw [List.getElem?_append_left h1] at hi
      refine (h.ed i e hi).kept (Kept.of_below (S := fun _ => False) hbel) (fun _ h => h.elim) (fun k hk => ?_) (fun _ h => .inl h)
      rcases hk with hk | hk
      · exact .inl hk
      · right
        rcases hk with rfl | rfl | rfl <;> omega
    · rw [List.getElem?_append_right h1] at hi
      have h0 : i - es.length = 0 := by
        have := (List.getElem?_eq_some_iff.1 hi).1
        simpa using this
      rw [h0] at hi
      simp only [List.getElem?_cons_zero, Option.some.injEq] at hi
      subst hi
      refine ⟨⟨.slice none 0 0, ⟨hbx, ⟨_, _, _, _, A, hG, hc, by omega, ?_⟩, Nat.ne_of_gt hgb, Nat.ne_of_gt hlb⟩, ⟨none, 0, rfl, Nat.le_refl _, .inl ⟨rfl, rfl⟩⟩⟩, .inr (.inl rfl), .inr (.inr (.inl rfl)), .inr (.inr (.inr rfl))⟩
      show F.length + (F.length - F.length) = F.length
      omega
  · have hold : ∀ (i : Nat) (e : En), i < es.length → (es ++ [(⟨b, g, lb, ⟨F, F.length, -1, [], 0⟩⟩ : En)])[i]? = some e → es[i]? = some e := fun i e h1 h2 => by rw [List.getElem?_append_left h1] at h2; exact h2
    have hnew : ∀ (i : Nat) (e : En), ¬ i < es.length → (es ++ [(⟨b, g, lb, ⟨F, F.length, -1, [], 0⟩⟩ : En)])[i]? = some e → i = es.length ∧ e = ⟨b, g, lb, ⟨F, F.length, -1, [], 0⟩⟩ := fun i e h1 h2 => by
      have h3 := (List.getElem?_eq_some_iff.1 h2).1
      rw [List.length_append] at h3
      simp only [List.length_cons, List.length_nil] at h3
      have h4 : i = es.length := by omega
      subst h4
      rw [List.getElem?_append_right (Nat.le_refl _), Nat.sub_self] at h2
      simp only [List.getElem?_cons_zero, Option.some.injEq] at h2
      exact ⟨rfl, h2.symm⟩
    by_cases h1 : i < es.length
    · have hei := hold i e h1 hi
      by_cases h2 : j < es.length
      · exact h.far i j e f hei (hold j f h2 hj) hne k hk
      · obtain ⟨-, rfl⟩ := hnew j f h2 hj
        have := (h.lt k ((h.ed i e hei).own k hk)).1
        rintro (rfl | rfl | rfl) <;> omega
    · obtain ⟨h3, rfl⟩ := hnew i e h1 hi
      by_cases h2 : j < es.length
      · have hfj := hold j f h2 hj
        intro hk2
        have := (h.lt k ((h.ed j f hfj).own k hk2)).1
        rcases hk with rfl | rfl | rfl <;> omega
      · obtain ⟨h4, -⟩ := hnew j f h2 hj
        omega
  · rcases hk with hk | hk
    · have := h.lt k hk; omega
    · rcases hk with rfl | rfl | rfl <;> omega
/-- one of them is turned -/
theorem EdsIn.after {S : Nat → Prop} {B : Nat} {es : List En} {w w' : World} (h : EdsIn S B es w) (hB : B ≤ w.heap.size) {i : Nat} {e : En} (hi : es[i]? = some e) {s' : Sta} (ha : After S e.b e.g e.lb s' w w') :
    Eds B ((es.map fun e => (e.b, e.s)).set i (e.b, s')) w' ∧ Below B w w' := by
  obtain ⟨lb', hE, hlb, hk⟩ := ha
  have hsz := hk.size
  have hlt : lb' < w'.heap.size := by
    obtain ⟨sv, hEd, -⟩ := hE.ed
    obtain ⟨n, cap, f, u, A, hG, -⟩ := hEd.gap
    exact (Array.getElem?_eq_some_iff.1 hG.hl).1
  have hil := (List.getElem?_eq_some_iff.1 hi).1
  have hSe := h.ed i e hi
  have hset : ∀ (j : Nat) (f : En), (es.set i ⟨e.b, e.g, lb', s'⟩)[j]? = some f → (j = i ∧ f = ⟨e.b, e.g, lb', s'⟩) ∨ (j ≠ i ∧ es[j]? = some f) := by
    intro j f hj
    by_cases hji : j = i
    · subst hji
      rw [List.getElem?_set_self hil] at hj
      simp only [Option.some.injEq] at hj
      exact .inl ⟨rfl, hj.symm⟩
    · rw [List.getElem?_set_ne (Ne.symm hji)] at hj
      exact .inr ⟨hji, hj⟩
  have hlbf : ∀ (j : Nat) (f : En), j ≠ i → es[j]? = some f → ¬ Own f.b f.g f.lb lb' := by
    intro j f hji hj ho
    rcases hlb with h1 | h1
    · rw [h1] at ho
      exact h.far i j e f hi hj (Ne.symm hji) _ (.inr (.inr rfl)) ho
    · have := (h.lt _ ((h.ed j f hj).own _ ho)).1
      omega
  refine ⟨⟨fun x => S x ∨ x = lb', es.set i ⟨e.b, e.g, lb', s'⟩, ⟨fun j f hj => ?_, fun j j' f f' hj hj' hne k hk1 hk2 => ?_, fun k hk' => ?_⟩, by rw [List.map_set]⟩, hk.below hB (fun k _ ho => (h.lt k (hSe.own k ho)).2)⟩
  · rcases hset j f hj with ⟨-, rfl⟩ | ⟨hji, hj2⟩
    · exact hE
    · refine (h.ed j f hj2).kept hk (fun k ho => ⟨hSe.own k ho, h.far i j e f hi hj2 (Ne.symm hji) k ho⟩) (fun k hk2 => ?_) (fun _ h => .inl h)
      rcases hk2 with hk2 | rfl
      · exact .inl hk2
      · rcases hlb with h1 | h1
        · exact .inl (h1 ▸ hSe.sl)
        · exact .inr h1
  · rcases hset j f hj with ⟨h1, rfl⟩ | ⟨h1, h2⟩
    · rcases hset j' f' hj' with ⟨h3, rfl⟩ | ⟨h3, h4⟩
      · omega
      · rcases hk1 with h5 | h5 | h5
        · exact h.far i j' e f' hi h4 (Ne.symm h3) k (.inl h5) hk2
        · exact h.far i j' e f' hi h4 (Ne.symm h3) k (.inr (.inl h5)) hk2
        · have h6 : k = lb' := h5
          subst h6
          exact hlbf j' f' h3 h4 hk2
    · rcases hset j' f' hj' with ⟨h3, rfl⟩ | ⟨h3, h4⟩
      · rcases hk2 with h5 | h5 | h5
        · exact h.far j i f e h2 hi h1 k hk1 (.inl h5)
        · exact h.far j i f e h2 hi h1 k hk1 (.inr (.inl h5))
        · have h6 : k = lb' := h5
          subst h6
          exact hlbf j f h1 h2 hk1
      · exact h.far j j' f f' h2 h4 hne k hk1 hk2
  · rcases hk' with hk' | rfl
    · have := h.lt k hk'; omega
    · rcases hlb with h1 | h1
      · have := h.lt _ hSe.sl
        rw [h1] at hlt ⊢
        omega
      · omega
/-- a method on one of them -/
theorem Eds.call {B : Nat} {l : List (Nat × Sta)} {w : World} (h : Eds B l w) (hB : B ≤ w.heap.size) {i b : Nat} {s : Sta} (hi : l[i]? = some (b, s)) {f : FuncId} {args : Array Value} {v : Value} {s' : Sta}
    (hc : ∀ (S : Nat → Prop) (g lb : Nat), EdS S b g lb s w → (∀ k, S k → k < w.heap.size) → Calls Tryz.prog f args w fun e w' => e = .returned v ∧ After S b g lb s' w w') :
    Calls Tryz.prog f args w fun e w' => e = .returned v ∧ Eds B (l.set i (b, s')) w' ∧ Below B w w' := by
  obtain ⟨S, es, h, rfl⟩ := h
  rw [List.getElem?_map] at hi
  obtain ⟨e, he, hbs⟩ := Option.map_eq_some_iff.1 hi
  simp only [Prod.mk.injEq] at hbs
  obtain ⟨rfl, rfl⟩ := hbs
  refine (hc S e.g e.lb (h.ed i e he) (fun k hk => (h.lt k hk).1)).mono ?_
  rintro e' w' ⟨rfl, ha⟩
  exact ⟨rfl, h.after hB he ha⟩
/-- one of them is asked -/
theorem Eds.one {B : Nat} {l : List (Nat × Sta)} {w : World} (h : Eds B l w) {i b : Nat} {s : Sta} (hi : l[i]? = some (b, s)) : EdL B b s w := by
  obtain ⟨S, es, h, rfl⟩ := h
  rw [List.getElem?_map] at hi
  obtain ⟨e, he, hbs⟩ := Option.map_eq_some_iff.1 hi
  simp only [Prod.mk.injEq] at hbs
  obtain ⟨rfl, rfl⟩ := hbs
  exact ⟨S, e.g, e.lb, h.ed i e he, h.lt⟩
section
variable {w : World} {b : Nat} {s : Sta}
theorem undo_s {S : Nat → Prop} {g lb : Nat} (hE : EdS S b g lb s w) (ok : EdOk s) : Calls Tryz.prog 19 #[.pointer (some ⟨b, 0, none⟩)] w fun e w' => e = .returned (.bool (undoT s).1) ∧ After S b g lb (undoT s).2 w w' := by
  obtain ⟨F, ca, an, L, dn⟩ := s
  have h2 := ok.dn
  have h3 := ok.ln
  dsimp only at h2 h3
  cases dn with
  | zero => exact undo_none hE
  | succ n =>
    have hx : L[n]? = some L[n] := List.getElem?_eq_getElem (by omega)
    have hs := ok.st n _ hx
    have e : undoT ⟨F, ca, an, L, n + 1⟩ = (true, ⟨(L[n]).bef, (L[n]).ahead, -1, L, n⟩) := by
      unfold undoT
      dsimp only
      rw [hx]
    rw [e]
    have l1 := hs.1.len
    have l2 := hs.2.len
    exact undo_any hE _ hx (ok.back n _ rfl hx) (by omega) (by omega) (by omega)
theorem redo_s {S : Nat → Prop} {g lb : Nat} (hE : EdS S b g lb s w) (ok : EdOk s) : Calls Tryz.prog 21 #[.pointer (some ⟨b, 0, none⟩)] w fun e w' => e = .returned (.bool (redoT s).1) ∧ After S b g lb (redoT s).2 w w' := by
  obtain ⟨F, ca, an, L, dn⟩ := s
  have h2 := ok.dn
  have h3 := ok.ln
  dsimp only at h2 h3
  rcases Nat.lt_or_ge dn L.length with hlt | hge
  · have hx : L[dn]? = some L[dn] := List.getElem?_eq_getElem hlt
    have hs := ok.st dn _ hx
    have e : redoT ⟨F, ca, an, L, dn⟩ = (true, ⟨(L[dn]).aft, (L[dn]).after, -1, L, dn + 1⟩) := by
      unfold redoT
      dsimp only
      rw [hx]
    rw [e]
    have l1 := hs.1.len
    have l2 := hs.2.len
    exact redo_any hE _ hx (ok.fore _ hx) (by omega) (by omega) (by omega)
  · obtain rfl : dn = L.length := by omega
    have e : redoT ⟨F, ca, an, L, L.length⟩ = (false, ⟨F, ca, an, L, L.length⟩) := by
      unfold redoT
      dsimp only
      rw [List.getElem?_eq_none (Nat.le_refl _)]
    rw [e]
    exact redo_none hE
end
end Go.Proofs.YtbhhfagifdjmmaaGreat.ed
