/-
  The editor's View.
-/
import Derived.Test.YtgfjaegjkklcpaaEdD
import Derived.Deep.CutBlock
namespace Go.Proofs.Ytgfjaegjkklcpaa.ed
open Go Go.RowKit Go.Proofs
set_option linter.unusedVariables false
def wd (F : List TV) (i : Nat) : Nat := (F.getD i tv0).2
/-- back from the caret, as far as it is seen -/
def backT (F : List TV) (W : Nat) : Nat → Nat → Nat × Nat
  | 0, col => (0, col)
  | s + 1, col => if W - 1 < col + wd F s then (s + 1, col) else backT F W s (col + wd F s)
/-- on, as far as there is room -/
def foreT (F : List TV) : Nat → Nat → Nat → Nat
  | 0, s, _ => s
  | f + 1, s, left => if left < wd F s then s else foreT F f (s + 1) (left - wd F s)
def viewW (F : List TV) (ca W : Nat) : ByteArray × Nat := (textB ((F.drop (backT F W ca 0).1).take (foreT F (F.length - (backT F W ca 0).1) (backT F W ca 0).1 W - (backT F W ca 0).1)), (backT F W ca 0).2)
def viewT (F : List TV) (ca : Nat) (w : Int) : ByteArray × Nat := if min w 4096 < 1 then (⟨#[]⟩, 0) else viewW F ca (min w 4096).toNat
theorem backT_le (F : List TV) (W : Nat) : ∀ s col, (backT F W s col).1 ≤ s ∧ (col ≤ W - 1 → (backT F W s col).2 ≤ W - 1)
  | 0, col => ⟨Nat.le_refl _, fun h => h⟩
  | s + 1, col => by
    unfold backT
    split
    · exact ⟨Nat.le_refl _, fun h => h⟩
    · have := backT_le F W s (col + wd F s)
      exact ⟨by omega, fun _ => this.2 (by omega)⟩
theorem foreT_le (F : List TV) : ∀ f s left, s ≤ foreT F f s left ∧ foreT F f s left ≤ s + f
  | 0, s, _ => ⟨Nat.le_refl _, Nat.le_refl _⟩
  | f + 1, s, left => by
    unfold foreT
    split
    · omega
    · have := foreT_le F f (s + 1) (left - wd F s)
      omega
theorem lin_wd {F : List TV} (h : wrp.Lin F) (i : Nat) : wd F i ≤ 2 := by
  obtain ⟨Y0, rfl, -⟩ := h
  unfold wd
  rw [List.getD_eq_getElem?_getD]
  cases hq : (clu.seen Y0)[i]? with
  | none => show (0 : Nat) ≤ 2; omega
  | some q =>
    have hm := List.mem_of_getElem? hq
    unfold clu.seen at hm
    obtain ⟨p, -, rfl⟩ := List.mem_map.1 hm
    exact clu.wide_le p
set_option maxRecDepth 100000 in
set_option maxHeartbeats 8000000 in
theorem viewW_any {b g lb : Nat} {F : List TV} {ca : Nat} {an : Int} {sv : Value} {dn : Int} {w : World} (h : Ed b g lb F ca an sv dn w) (x : Int) (hc : ca ≤ F.length) (hF : F.length ≤ 65536) (hFs : sizeL F ≤ 65536) (hw2 : ∀ i, wd F i ≤ 2) :
    Calls Try.prog 27 #[.pointer (some ⟨b, 0, none⟩), .int .i64 x] w fun e w' => e = .returned (.tuple #[.string (viewT F ca x).1, .int .i64 ((viewT F ca x).2 : Nat)]) ∧ Below w.heap.size w w' := by
  have hmin : ∃ z : Int, z = min x 4096 ∧ z ≤ 4096 := ⟨_, rfl, by omega⟩
  obtain ⟨z, hz, hz4⟩ := hmin
  by_cases hz1 : z < 1
  · have hv : viewT F ca x = (⟨#[]⟩, 0) := by unfold viewT; rw [← hz, if_pos hz1]
    rw [hv]
    have hzz : min x 4096 = z := hz.symm
    clear h hv hz
    go_enter Try.func27, Try.ntmps27
    go_wp2
    go_ret2
    exact ⟨rfl, Below.refl _ _⟩
  · obtain ⟨W, rfl⟩ : ∃ W : Nat, z = W := ⟨z.toNat, by omega⟩
    have hv : viewT F ca x = viewW F ca W := by unfold viewT; rw [← hz, if_neg hz1, Int.toNat_natCast]
    have hzz : min x 4096 = (W : Int) := hz.symm
    have hW1 : 1 ≤ W := by omega
    have hW4 : W ≤ 4096 := by omega
    have hW0 : ¬ (W : Int) < 1 := by omega
    have HAT := run.hid (fun (X : World) (hX : Below w.heap.size w X) (i : Int) => at_any (h.below hX).gap i)
    unfold AtIs at HAT
    have hblt := (Array.getElem?_eq_some_iff.1 h.box).1
    have c0 := blk_cell h.box 0
    have c1 := blk_cell h.box 1
    change w.cell? _ = some (.pointer (some ⟨g, 0, none⟩)) at c0
    change w.cell? _ = some (.int .i64 (ca : Nat)) at c1
    have HBT := run.hid (show (∀ s col, backT F W (s + 1) col = if W - 1 < col + wd F s then (s + 1, col) else backT F W s (col + wd F s)) ∧ (∀ col, backT F W 0 col = (0, col)) from ⟨fun _ _ => rfl, fun _ => rfl⟩)
    have HBL := run.hid (backT_le F W ca 0)
    have HWD := run.hid (show ∀ i, wd F i = (F.getD i tv0).2 from fun _ => rfl)
    have HW2 := run.hid hw2
    have HV := run.hid (show viewT F ca x = (textB ((F.drop (backT F W ca 0).1).take (foreT F (F.length - (backT F W ca 0).1) (backT F W ca 0).1 W - (backT F W ca 0).1)), (backT F W ca 0).2) from hv)
    clear h hv hz hz1 hz4 hw2
    generalize viewT F ca x = VT at *
    go_enter Try.func27, Try.ntmps27
    go_upto_block 0 with fail
    go_cut [6, 7] (fun p q wx => p = .int .i64 ((backT F W ca 0).1 : Nat) ∧ q = .int .i64 ((backT F W ca 0).2 : Nat) ∧ Below w.heap.size w wx)
    case first =>
      clear HV HBL
      generalize hN : F.length = N at *
      go_wp2
      go_loopw [6, 7] (fun vs vc wr => ∃ s col : Nat, s ≤ N ∧ vs = .int .i64 s ∧ vc = .int .i64 col ∧ col ≤ W - 1 ∧ backT F W s col = backT F W ca 0 ∧ Below w.heap.size w wr) (fun vs _ _ => (intOf vs).toNat)
      case atStart => exact ⟨ca, 0, hc, rfl, rfl, Nat.zero_le _, rfl, Below.refl _ _⟩
      case round =>
        obtain ⟨s, col, hs, rfl, rfl, hcol, hbk, hbel⟩ := hrel
        have x0 := (hbel.cell (p := ⟨b, 0, none⟩) hblt).trans c0
        cases s with
        | zero =>
          rw [HBT.out.2] at hbk
          have HF := run.hid (And.intro hbk hbel)
          clear hbk hbel HAT HBT
          go_wp2
          go_meet
          exact ⟨by rw [← HF.out.1], by rw [← HF.out.1], HF.out.2⟩
        | succ s =>
          have HA := run.hid (HAT.out wr hbel s)
          have HB := run.hid hbel
          rw [HBT.out.1] at hbk
          have hw1 := HW2.out s
          rw [HWD.out] at hbk hw1
          have HBK := run.hid hbk
          clear HAT hbel HBT hbk HW2 HWD
          go_wp2_with fail
          refine HA.out.mono ?_
          rintro e w2 ⟨hb2, ⟨k2, hk2, -, rfl⟩ | ⟨hno, -⟩⟩
          · obtain rfl : s = k2 := by omega
            have hbb := HB.out.trans (hb2.mono HB.out.size)
            have hbk := HBK.out
            clear HA HB hb2 x0 HBK hk2
            generalize F.getD s tv0 = q at *
            obtain ⟨qt, qw⟩ := q
            dsimp only at hbk hw1 ⊢
            have hb3 := hbb.alloc hbb.size (.cells #[.string qt, .int .i64 (qw : Nat)] 73)
            by_cases hq : W - 1 < col + qw
            · rw [if_pos hq] at hbk
              have hqI : (W : Int) - 1 < (col : Int) + (qw : Int) := by omega
              have HF := run.hid (And.intro hbk hb3)
              clear hbk hb3 hbb
              go_wp2
              go_meet
              exact ⟨by rw [← HF.out.1], by rw [← HF.out.1], HF.out.2⟩
            · rw [if_neg hq] at hbk
              have hqI : ¬ (W : Int) - 1 < (col : Int) + (qw : Int) := by omega
              have HF := run.hid (And.intro hbk hb3)
              clear hbk hb3 hbb
              go_wp2
              go_roundw
              case rel => exact ⟨s, col + qw, by omega, by first | rfl | go_num, by go_num, by omega, HF.out.1, HF.out.2⟩
              case measure => simp [intOf]
          · omega
    case rest =>
      obtain ⟨rfl, rfl, hbel⟩ := hcut
      generalize backT F W ca 0 = bt at *
      obtain ⟨S0, C0⟩ := bt
      dsimp only at HV ⊢
      have hS0 := HBL.out.1
      have hC0 := HBL.out.2 (Nat.zero_le _)
      dsimp only at hS0 hC0
      obtain ⟨E, hE⟩ : ∃ E, E = foreT F (F.length - S0) S0 W := ⟨_, rfl⟩
      rw [← hE] at HV
      have HFO := run.hid (show (∀ k l, k < F.length → foreT F (F.length - k) k l = if l < wd F k then k else foreT F (F.length - (k + 1)) (k + 1) (l - wd F k)) ∧ (∀ l, foreT F (F.length - F.length) F.length l = F.length) from by
        refine ⟨fun k l hk => ?_, fun l => by rw [Nat.sub_self]; rfl⟩
        rw [show F.length - k = (F.length - (k + 1)) + 1 by omega]
        rfl)
      have HE := run.hid hE.symm
      have HSN := run.hid (fun j (hj : j < (F.drop S0).length) => @textL_snoc (F.drop S0) j hj)
      have HLE := run.hid (fun j => textL_le (F.drop S0) j)
      have hdl : (textL (F.drop S0)).length ≤ 65536 := by
        have h : textL F = textL (F.take S0) ++ textL (F.drop S0) := by unfold textL; rw [← List.flatMap_append, List.take_append_drop]
        have h2 : (textL F).length ≤ 65536 := hFs
        rw [h, List.length_append] at h2
        omega
      have HGD := run.hid (show ∀ j, (F.drop S0).getD j tv0 = F.getD (S0 + j) tv0 from fun j => by simp [List.getD_eq_getElem?_getD, List.getElem?_drop])
      have hlnD : (F.drop S0).length = F.length - S0 := List.length_drop
      rw [hlnD] at HSN
      clear hE hlnD HBT HBL
      have hb0 := run.below_one wc (.cells #[.pointer none, .slice none 0 0] 101)
      have HB0 := run.hid (And.intro (built_new wc wc.heap.size (Nat.le_refl _)) (hbel.trans (hb0.mono hbel.size)))
      have hsw := hbel.size
      have hBs : wc.heap.size ≤ (wc.alloc (.cells #[.pointer none, .slice none 0 0] 101)).heap.size := by rw [World.size_alloc]; omega
      clear hb0 hbel
      go_upto_region 11 with fail
      generalize wc.alloc (.cells #[.pointer none, .slice none 0 0] 101) = wB at *
      generalize hBB : wc.heap.size = BB at *
      clear hBB
      generalize hN : F.length = N at *
      clear hN
      go_wp2
      go_loopw [6, 11] (fun vs vl wr => ∃ k l : Nat, S0 ≤ k ∧ k ≤ N ∧ vs = .int .i64 k ∧ vl = .int .i64 l ∧ l ≤ W ∧ Hid (foreT F (N - k) k l = E) ∧ Built BB BB (textL ((F.drop S0).take (k - S0))) wr ∧ Below w.heap.size w wr ∧ BB ≤ wr.heap.size) (fun vs _ _ => ((N : Int) - intOf vs).toNat)
      case atStart => exact ⟨S0, W, Nat.le_refl _, by omega, rfl, rfl, Nat.le_refl _, HE, by rw [Nat.sub_self]; exact HB0.out.1, HB0.out.2, hBs⟩
      case round =>
        obtain ⟨k, l, hk0, hkN, rfl, rfl, hlW, HFK, hbu, hbel, hBr⟩ := hrel
        have x0 := (hbel.cell (p := ⟨b, 0, none⟩) hblt).trans c0
        have HA := run.hid (HAT.out wr hbel k)
        have HB := run.hid (And.intro hbu hbel)
        clear hbu hbel HAT HB0 HE
        go_wp2_with fail
        refine HA.out.mono ?_
        rintro e w2 ⟨hb2, ⟨k2, hk2, hk3, rfl⟩ | ⟨hno, rfl⟩⟩
        · obtain rfl : k = k2 := by omega
          have hfk := HFK.out
          rw [HFO.out.1 k l hk3, HWD.out] at hfk
          have hsn := HSN.out (k - S0) (by omega)
          rw [HGD.out, show S0 + (k - S0) = k by omega, show k - S0 + 1 = k + 1 - S0 by omega] at hsn
          have hle := HLE.out (k + 1 - S0)
          have hw1 := HW2.out k
          rw [HWD.out] at hw1
          have hsz2 := hb2.size
          have hbu2 := built_below HB.out.1 hb2
          have hbel2 := HB.out.2.trans (hb2.mono HB.out.2.size)
          rw [hsn, List.length_append] at hle
          generalize F.getD k tv0 = q at *
          obtain ⟨qt, qw⟩ := q
          dsimp only at hfk hsn hle hw1 ⊢
          have hqs : qt.data.toList.length = qt.size := rfl
          have hb3 := run.below_one w2 (.cells #[.string qt, .int .i64 (qw : Nat)] 73)
          have hbu3 := built_below hbu2 hb3
          have hbel3 := hbel2.trans (hb3.mono hbel2.size)
          clear HA HB hb2 x0 HFK hk2 HFO HSN HLE HGD HW2 HWD hbu2 hbel2
          by_cases hq : l < qw
          · rw [if_pos hq] at hfk
            have HST := run.hid (string_any hbu3 (by rw [World.size_alloc]; omega))
            have HF3 := run.hid (And.intro hfk hbel3)
            clear hbu3 hbel3 hb3 hfk hsn hle
            go_wp2_with fail
            refine HST.out.mono ?_
            rintro e w5 ⟨rfl, -, hbw⟩
            have HF := run.hid (HF3.out.2.trans (hbw.mono hsw))
            have HK := run.hid HF3.out.1
            clear hbw HF3 HST
            go_wp2
            go_ret2
            rw [HV.out]
            dsimp only
            rw [← HK.out]
            exact ⟨rfl, HF.out⟩
          · rw [if_neg hq] at hfk
            have HWR := run.hid (write_any qt hbu3 (by omega) (by rw [World.size_alloc]; omega))
            have HF3 := run.hid (And.intro hfk (And.intro hbel3 hsn))
            have h3s : BB ≤ (w2.alloc (.cells #[.string qt, .int .i64 (qw : Nat)] 73)).heap.size := by rw [World.size_alloc]; omega
            clear hbu3 hbel3 hb3 hfk hsn hle hqs
            go_wp2_with fail
            refine HWR.out.mono ?_
            rintro e w5 ⟨rfl, hbu, hbw, -⟩
            have HF := run.hid (And.intro HF3.out.1 (And.intro hbu (HF3.out.2.1.trans (hbw.mono hsw))))
            have HS := run.hid HF3.out.2.2
            have h5s : BB ≤ w5.heap.size := by have := hbw.size; omega
            clear hbu hbw HF3 HWR
            go_wp2
            go_roundw
            case rel => exact ⟨k + 1, l - qw, by omega, by omega, by go_num, by go_num, by omega, run.hid HF.out.1, by rw [HS.out]; exact HF.out.2.1, HF.out.2.2, h5s⟩
            case measure => simp [intOf]; omega
        · obtain rfl : k = N := by omega
          have hfk := HFK.out
          rw [HFO.out.2 l] at hfk
          have hsz2 := hb2.size
          have hbu2 := built_below HB.out.1 hb2
          have hbel2 := HB.out.2.trans (hb2.mono HB.out.2.size)
          have hb3 := run.below_one w2 (.cells #[.string ⟨#[]⟩, .int .i64 0] 73)
          have hbu3 := built_below hbu2 hb3
          have hbel3 := hbel2.trans (hb3.mono hbel2.size)
          have HST := run.hid (string_any hbu3 (by rw [World.size_alloc]; omega))
          have HF3 := run.hid (And.intro hfk hbel3)
          clear HA HB hb2 x0 HFK HFO HSN HLE HGD HW2 HWD hbu2 hbel2 hbu3 hbel3 hb3 hfk
          go_wp2_with fail
          refine HST.out.mono ?_
          rintro e w5 ⟨rfl, -, hbw⟩
          have HF := run.hid (HF3.out.2.trans (hbw.mono hsw))
          have HK := run.hid HF3.out.1
          clear hbw HF3 HST
          go_wp2
          go_ret2
          rw [HV.out]
          dsimp only
          rw [← HK.out]
          exact ⟨rfl, HF.out⟩
end Go.Proofs.Ytgfjaegjkklcpaa.ed
