/-
  CanvasPlays: pairs made, rows, contracts told at a pair.
-/
import Derived.Test.YtbfheehaagcmeaaDoorCanRefA
import Derived.Test.YtbfheehaagcmeaaDoorCanRefB
import Derived.Laws.ResultCell
import Derived.Laws.OwnMore
import Derived.Test.YtbfheehaagcmeaaDoorCanCircs
namespace Go.Proofs.YtbfheehaagcmeaaDoor.can
open Go.RowKit Go.Proofs
set_option linter.unusedVariables false

set_option maxRecDepth 100000 in
set_option maxHeartbeats 4000000 in
/-- neither is made -/
theorem made_no (a c : Int) (w : World) (ha : -9223372036854775808 ≤ a ∧ a ≤ 9223372036854775807) (hc : -9223372036854775808 ≤ c ∧ c ≤ 9223372036854775807) (h : sizedOk a c = false) :
    Calls Tryd.prog 6 #[.int .i64 a, .int .i64 c] w fun e w' => e = .returned (.tuple #[.agg #[.pointer none, .pointer none], .bool true]) ∧ Below w.heap.size w w' := by
  have H1 := run.hid (fun w => new_no a c w ha hc h)
  have H2 := run.hid (fun w => rnew_no a c w ha hc h)
  go_enter Tryd.func6, Tryd.ntmps6
  go_wp2_with fail
  refine (H1.out _).mono ?_
  rintro e w1 ⟨rfl, rfl⟩
  go_wp2_with fail
  refine (H2.out _).mono ?_
  rintro e w1 ⟨rfl, rfl⟩
  go_wp2
  have hb := run.below_one w (.cells #[.pointer none, .pointer none] 28)
  have e0 : (w.alloc (.cells #[.pointer none, .pointer none] 28)).cell? ⟨w.heap.size, 0, none⟩ = some (.pointer none) := World.cell?_alloc_at _ _ _ _ rfl
  have e1 : (w.alloc (.cells #[.pointer none, .pointer none] 28)).cell? ⟨w.heap.size, 1, none⟩ = some (.pointer none) := World.cell?_alloc_at _ _ _ _ rfl
  generalize w.alloc (.cells #[.pointer none, .pointer none] 28) = wz at *
  refine bodyPost_ret (v := .tuple #[.agg #[.pointer none, .pointer none], .bool true]) ((results_cell_tmp rfl _ _ _).trans ?_) rfl ?_
  · simp [go_sem, e0, e1]
  · exact ⟨rfl, hb⟩

set_option maxRecDepth 100000 in
set_option maxHeartbeats 4000000 in
/-- both are made -/
theorem made_ok (W H : Nat) (w : World) (h1 : W ≤ 4096) (h2 : H ≤ 4096) (h3 : W * H ≤ 1048576) :
    Calls Tryd.prog 6 #[.int .i64 W, .int .i64 H] w fun e w' => ∃ g g2 : Nat, e = .returned (.tuple #[.agg #[.pointer (some ⟨g + 1, 0, none⟩), .pointer (some ⟨g2 + 1, 0, none⟩)], .bool true]) ∧ w.heap.size ≤ g ∧ g + 1 < g2 ∧
      Canvas w.heap.size (g + 1) g W H (fun _ _ => false) w' ∧ RCan w.heap.size (g2 + 1) g2 W H (fun _ _ => false) w' ∧ Below w.heap.size w w' := by
  have H1 := run.hid (fun w => new_ok W H w h1 h2 h3)
  have H2 := run.hid (fun w => rnew_ok W H w h1 h2 h3)
  have C1 := run.hid (fun w1 (h : w.heap.size ≤ w1.heap.size) => canvas_new w.heap.size W H w1 h h1 h2 h3)
  have C2 := run.hid (fun w1 (h : w.heap.size ≤ w1.heap.size) => rcan_new w.heap.size W H w1 h h1 h2 h3)
  have B1 := run.hid (fun w1 : World => run.below_two w1 (.cells (madeCells #[.int .u8 0] (W * H)) 5) (.cells #[.int .i64 W, .int .i64 H, .slice (some ⟨w1.heap.size, 0, none⟩) (W * H) (W * H)] 76))
  have B2 := run.hid (fun w1 : World => run.below_two w1 (.cells (madeCells #[.bool false] (8 * W * H)) 4) (.cells #[.int .i64 W, .int .i64 H, .slice (some ⟨w1.heap.size, 0, none⟩) (8 * W * H) (8 * W * H)] 79))
  have hb := run.below_one w (.cells #[.pointer none, .pointer none] 28)
  have hsz : w.heap.size < (w.alloc (.cells #[.pointer none, .pointer none] 28)).heap.size := by simp
  have HB := run.hid hb
  have hr0 : (w.alloc (.cells #[.pointer none, .pointer none] 28)).rowIs w.heap.size 28 2 fun _ => .pointer none := World.rowIs_alloc w #[.pointer none, .pointer none] 28 (fun _ => .pointer none) (by
    intro i hi
    have : i = 0 ∨ i = 1 := by simp at hi; omega
    rcases this with rfl | rfl <;> rfl)
  clear hb
  go_enter Tryd.func6, Tryd.ntmps6
  go_wp2_with fail
  generalize w.alloc (.cells #[.pointer none, .pointer none] 28) = w0 at *
  refine (H1.out _).mono ?_
  rintro e w1 ⟨rfl, hw1⟩
  have hC1 := C1.out w0 (by omega)
  have hB1 := B1.out w0
  rw [← hw1] at hC1 hB1
  clear hw1
  have hs1 := hB1.size
  generalize hg : w0.heap.size = g at *
  go_wp2_with fail
  refine (H2.out _).mono ?_
  rintro e w2 ⟨rfl, hw2⟩
  have hC2 := C2.out w1 (by omega)
  have hB2 := B2.out w1
  rw [← hw2] at hC2 hB2
  clear hw2
  have hs2 := hB2.size
  have hr2 : w2.rowIs w.heap.size 28 2 fun _ => .pointer none := by
    refine (hr0.of_block ?_)
    exact (hB2.block w.heap.size (by omega)).trans (hB1.block w.heap.size (by omega))
  have e0 := hr2.cell (i := 0) (by omega)
  have e1 := hr2.cell (i := 1) (by omega)
  have f0 := hr2.frozen 0
  have f1 := hr2.frozen 1
  have HC1 := run.hid hC1
  have HC2 := run.hid hC2
  have HR2 := run.hid hr2
  have HBB : Hid (Below w.heap.size w w2) := (HB.out.trans (hB1.mono (by omega))).trans (hB2.mono (by omega))
  have HB2 := run.hid hB2
  generalize hg2 : w1.heap.size = g2 at *
  clear hC1 hC2 hr2 hr0 hB1 hB2
  have hlt1 : g + 1 < g2 := by
    obtain ⟨-, -, d, hc, -⟩ := HC1.out
    have := hc.lt.1
    omega
  have HR3 := run.hid ((HR2.out.set 0 (.pointer (some ⟨g + 1, 0, none⟩))).set 1 (.pointer (some ⟨g2 + 1, 0, none⟩)))
  have HG := run.hid (run.grown_trans (setCell_grown w2 w.heap.size 0 (.pointer (some ⟨g + 1, 0, none⟩))) (setCell_grown _ w.heap.size 1 (.pointer (some ⟨g2 + 1, 0, none⟩))) (.inl rfl))
  go_wp2
  have k0 := HR3.out.cell (i := 0) (by omega)
  have k1 := HR3.out.cell (i := 1) (by omega)
  simp at k0 k1
  have HC3 := run.hid (((HC1.out.below (by rw [hg2]; exact HB2.out)).kept HG.out (by omega) (by omega)))
  have HC4 := run.hid (HC2.out.kept HG.out (by omega) (by omega))
  have HB4 := run.hid (HBB.out.grown HG.out (by omega) (by rintro k ⟨⟩; exact Nat.le_refl _))
  generalize (w2.setCell ⟨w.heap.size, 0, none⟩ (.pointer (some ⟨g + 1, 0, none⟩))).setCell ⟨w.heap.size, 1, none⟩ (.pointer (some ⟨g2 + 1, 0, none⟩)) = wz at *
  refine bodyPost_ret (v := .tuple #[.agg #[.pointer (some ⟨g + 1, 0, none⟩), .pointer (some ⟨g2 + 1, 0, none⟩)], .bool true]) ((results_cell_tmp rfl _ _ _).trans ?_) rfl ?_
  · simp [go_sem, k0, k1]
  · exact ⟨g, g2, rfl, by omega, hlt1, HC3.out, HC4.out, HB4.out⟩
end Go.Proofs.YtbfheehaagcmeaaDoor.can
namespace Go.Proofs.YtbfheehaagcmeaaDoor.can
open Go.RowKit Go.Proofs
set_option linter.unusedVariables false

theorem rowsV_txt (S : Int → Int → Bool) (W H : Nat) : rowsV S W H = ((List.range H).map fun y => rowS S W y).map Value.string := by unfold rowsV; rw [List.map_map]; rfl
abbrev hash : Value := .string ⟨#[35]⟩
abbrev plus : Value := .string ⟨#[43]⟩
/-- the first i texts written over -/
def hashed (xs : List Value) (i : Nat) : List Value := List.replicate i hash ++ xs.drop i
theorem hashed_next {xs : List Value} {i : Nat} (h : i < xs.length) : (hashed xs i).set i hash = hashed xs (i + 1) := by
  unfold hashed
  rw [List.set_append_right _ _ (by simp), List.length_replicate, Nat.sub_self, List.drop_eq_getElem_cons h, List.set_cons_zero, List.replicate_succ', List.append_assoc]
  rfl
theorem hashed_end (xs : List Value) : hashed xs xs.length = List.replicate xs.length hash := by unfold hashed; rw [List.drop_length, List.append_nil]

set_option maxRecDepth 100000 in
set_option maxHeartbeats 4000000 in
theorem lawRows_any (B b g b2 g2 W H : Nat) (S : Int → Int → Bool) (w : World) (hc : Canvas B b g W H S w) (hr : RCan B b2 g2 W H S w) :
    Calls Tryd.prog 11 #[.agg #[.pointer (some ⟨b, 0, none⟩), .pointer (some ⟨b2, 0, none⟩)]] w fun e w' => e = .returned (.bool true) ∧ Below w.heap.size w w' := by
  obtain ⟨is, his, sz0, sz1, sz2⟩ := info_parts info_str
  obtain ⟨hW, hH⟩ : W ≤ 4096 ∧ H ≤ 4096 := by obtain ⟨-, -, d, h, -⟩ := hr; exact ⟨h.wide, h.high⟩
  have hb0 := run.below_one w (.cells #[.pointer (some ⟨b, 0, none⟩), .pointer (some ⟨b2, 0, none⟩)] 28)
  have HC := run.hid (hc.below hb0)
  have HR := run.hid (hr.below hb0)
  have HB0 := run.hid hb0
  have k0 : (w.alloc (.cells #[.pointer (some ⟨b, 0, none⟩), .pointer (some ⟨b2, 0, none⟩)] 28)).cell? ⟨w.heap.size, 0, none⟩ = some (.pointer (some ⟨b, 0, none⟩)) := World.cell?_alloc_at _ _ _ _ rfl
  have k1 : (w.alloc (.cells #[.pointer (some ⟨b, 0, none⟩), .pointer (some ⟨b2, 0, none⟩)] 28)).cell? ⟨w.heap.size, 1, none⟩ = some (.pointer (some ⟨b2, 0, none⟩)) := World.cell?_alloc_at _ _ _ _ rfl
  have hsz : w.heap.size < (w.alloc (.cells #[.pointer (some ⟨b, 0, none⟩), .pointer (some ⟨b2, 0, none⟩)] 28)).heap.size := by simp
  have K0 := run.hid k0
  clear hc hr hb0 k0
  go_enter Tryd.func11, Tryd.ntmps11
  go_upto_region 1 with fail
  generalize w.alloc (.cells #[.pointer (some ⟨b, 0, none⟩), .pointer (some ⟨b2, 0, none⟩)] 28) = w1 at *
  go_wp2_with fail
  refine (rrows_any B b2 g2 W H S w1 HR.out).mono ?_
  rintro e w2 ⟨v3, rfl, hown3, hb2⟩
  have H3 := run.hid hown3
  have hs2 := hb2.size
  have HC2 := run.hid (HC.out.below hb2)
  have k2 := (hb2.cell (p := ⟨w.heap.size, 0, none⟩) hsz).trans K0.out
  have K2 := run.hid k2
  have HB2 := run.hid (HB0.out.trans (hb2.mono (by omega)))
  obtain ⟨a3, c3, rfl⟩ := run.own_value hown3
  have HA3 := run.hid (fun k (hk : (Value.slice a3 H c3).ownBlock = some k) => (hown3.lt k hk).2)
  clear hown3 hb2 k1 HC HR
  go_wp2_with fail
  refine (rows_any B b g W H S w2 HC2.out).mono ?_
  rintro e w3 ⟨v4, rfl, hown4, hb3⟩
  have hs3 := hb3.size
  have HC3 := run.hid (HC2.out.below hb3)
  have H3b := run.hid (run.own_below H3.out hb3)
  have k3 := (hb3.cell (p := ⟨w.heap.size, 0, none⟩) (by show w.heap.size < _; omega)).trans K2.out
  have HB3 := run.hid (HB2.out.trans (hb3.mono (by omega)))
  have H4 := run.hid hown4
  obtain ⟨a4, c4, rfl⟩ := run.own_value hown4
  have hA4 : ∀ k, (Value.slice a4 H c4).ownBlock = some k → k < w3.heap.size := fun k hk => (hown4.lt k hk).2
  have HA4 := run.hid hA4
  clear hA4
  clear hown4 hb3 k2 HC2 H3 HB2
  go_wp2_with fail
  refine (rows_any B b g W H S w3 HC3.out).mono ?_
  rintro e w4 ⟨v5, rfl, hown5, hb4⟩
  have hs4 := hb4.size
  have H3c := run.hid (run.own_below H3b.out hb4)
  have H4b := run.hid (run.own_below H4.out hb4)
  have H5 := run.hid hown5
  have HB4 := run.hid (HB3.out.trans (hb4.mono (by omega)))
  obtain ⟨a5, c5, rfl⟩ := run.own_value hown5
  clear hown5 hb4 k3 HC3 H3b H4 HB3
  obtain ⟨L, hL⟩ : ∃ L : List ByteArray, L = (List.range H).map fun y => rowS S W y := ⟨_, rfl⟩
  have hLl : L.length = H := by rw [hL]; simp
  have hVL : rowsV S W H = L.map Value.string := by rw [hL]; exact rowsV_txt S W H
  have HSM := run.hid (fun u v X hu hv => rsame_eq L u v X hu hv (by omega))
  rw [hVL] at H3c
  have H4c : Hid (w4.ownsRow w2.heap.size 9 1 (.slice a4 H c4) H (L.map Value.string)) := by rw [← hVL]; exact H4b
  have H5c : Hid (w4.ownsRow w3.heap.size 9 1 (.slice a5 H c5) H (L.map Value.string)) := by rw [← hVL]; exact H5
  have HLL := run.hid hLl
  clear hL hLl hVL H4b H5
  go_wp2_with fail
  refine (HSM.out _ _ w4 (run.reads_own H4c.out) (run.reads_own H3c.out)).mono ?_
  rintro e w5 ⟨rfl, hb5⟩
  have hs5 := hb5.size
  have H3d := run.hid (run.own_below H3c.out hb5)
  have H4d := run.hid (run.own_below H4c.out hb5)
  have H5d := run.hid (run.own_below H5c.out hb5)
  have HB5 := run.hid (HB4.out.trans (hb5.mono (by omega)))
  clear hb5 H3c H4c H5c HB4
  go_wp2_with fail
  refine (HSM.out _ _ w5 (run.reads_own H5d.out) (run.reads_own H3d.out)).mono ?_
  rintro e w6 ⟨rfl, hb6⟩
  have hs6 := hb6.size
  have H3 := run.hid (run.own_below H3d.out hb6)
  have H4 := run.hid (run.own_below H4d.out hb6)
  have H5 := run.hid (run.own_below H5d.out hb6)
  have HB6 := run.hid (HB5.out.trans (hb6.mono (by omega)))
  clear hb6 H3d H4d H5d HB5
  have HA := run.hid (fun k (hk : (Value.slice a4 H c4).ownBlock = some k) (hk' : (Value.slice a5 H c5).ownBlock = some k) => by
    have h1 := HA4.out k hk
    have h2 := (H5.out.lt k hk').1
    omega : ∀ k, (Value.slice a4 H c4).ownBlock = some k → (Value.slice a5 H c5).ownBlock ≠ some k)
  generalize hXs : L.map Value.string = XS at *
  have HXS := run.hid hXs
  have hxl : XS.length = H := by rw [← hXs, List.length_map]; exact HLL.out
  have HXL := run.hid hxl
  clear hXs hxl HA4 HSM
  have H4z : Hid (w6.ownsRow w2.heap.size 9 1 (.slice a4 H c4) H (hashed XS 0)) := H4.out
  clear H4
  go_wp2
  go_loopw [6] (fun vi wr => ∃ i : Nat, i ≤ H ∧ vi = .int .i64 i ∧ Hid (wr.ownsRow w2.heap.size 9 1 (.slice a4 H c4) H (hashed XS i)) ∧ Hid (wr.ownsRow w3.heap.size 9 1 (.slice a5 H c5) H XS) ∧ Hid (wr.ownsRow w1.heap.size 9 1 (.slice a3 H c3) H XS) ∧ Hid (Below w.heap.size w wr) ∧ w3.heap.size ≤ wr.heap.size) (fun vi _ => (H - intOf vi).toNat)
  case atStart => exact ⟨0, by omega, rfl, H4z, H5, H3, HB6, by omega⟩
  case round =>
    clear H4z H5 H3 HB6
    obtain ⟨i, hi, rfl, H4, H5, H3, HB, hsw⟩ := hrel
    by_cases hil : i < H
    · obtain ⟨g4, c4', e4⟩ := own_some H4.out (by omega)
      simp only [Value.slice.injEq, true_and] at e4
      obtain ⟨rfl, rfl⟩ := e4
      obtain ⟨ho, hg⟩ := H4.out.stored i hash
      have hx := hashed_next (xs := XS) (i := i) (by rw [HXL.out]; exact hil)
      rw [hx] at ho
      have hl4 := (H4.out.lt g4 rfl).1
      have hcl : ∃ u, wr.cell? ⟨g4, i, none⟩ = some u := by
        rw [H4.out.cellAt i (by omega)]
        have : i < (hashed XS i).length := by unfold hashed; simp; rw [HXL.out]; omega
        exact ⟨_, List.getElem?_eq_getElem this⟩
      obtain ⟨u0, hcl⟩ := hcl
      have hfz := H4.out.frozenAt i
      have HO := run.hid ho
      have h5 := run.own_kept H5.out hg (fun k hk hk' => HA.out k (hk'.symm ▸ rfl) hk)
      have h3 := run.own_kept H3.out hg (fun k hk hk' => by have := HA3.out k hk; cases hk'; omega)
      have hb := HB.out.grown hg HB.out.size (by rintro k ⟨⟩; omega)
      have hsg := hg.size
      have HSW := run.hid (Nat.le_trans hsw hsg)
      clear hsg
      have H5' := run.hid h5
      have H3' := run.hid h3
      have HB' := run.hid hb
      clear ho hg hx h5 h3 hb H4 H5 H3 HB
      go_wp2
      clear hcl hfz
      go_roundw
      case rel => exact ⟨i + 1, by omega, by go_num, HO, H5', H3', HB', HSW.out⟩
      case measure => simp [intOf]; omega
    · obtain rfl : i = H := by omega
      generalize wr = wz at *
      generalize hhx : hashed XS i = HX at *
      have HHX := run.hid hhx
      clear hhx
      have H4z : Hid (wz.ownsRow w2.heap.size 9 1 (.slice a4 i c4) (i + 0) (HX ++ List.replicate 0 plus)) := by show World.ownsRow _ _ _ _ _ _ _; rw [List.replicate_zero, List.append_nil]; exact H4.out
      clear H4 hil
      go_wp2
      go_loopw [7, 4] (fun vi va wr => ∃ k : Nat, k ≤ 20 ∧ vi = .int .i64 k ∧ Hid (wr.ownsRow w2.heap.size 9 1 va (i + k) (HX ++ List.replicate k plus)) ∧ Hid (wr.ownsRow w3.heap.size 9 1 (.slice a5 i c5) i XS) ∧ Hid (wr.ownsRow w1.heap.size 9 1 (.slice a3 i c3) i XS) ∧ Hid (Below w.heap.size w wr) ∧ w3.heap.size ≤ wr.heap.size ∧ Hid (∀ k, va.ownBlock = some k → (Value.slice a5 i c5).ownBlock ≠ some k)) (fun vi _ _ => (20 - intOf vi).toNat)
      case atStart => exact ⟨0, by omega, rfl, H4z, H5, H3, HB, hsw, HA⟩
      case round =>
        clear H4z H5 H3 HB hsw
        obtain ⟨k, hk, rfl, H4, H5, H3, HB, hsw, HAv⟩ := hrel
        by_cases hkl : k < 20
        · have hrp := run.hid (show HX ++ List.replicate (k + 1) plus = (HX ++ List.replicate k plus) ++ [plus] by rw [List.replicate_succ', List.append_assoc])
          have hww : w2.heap.size ≤ wr.heap.size := by omega
          have hw2 : w.heap.size ≤ w2.heap.size := by omega
          go_wp2_with (at_builtin; refine run.wpList_append_any _ rfl _ _ 59 rfl w2.heap.size 9 is (.string ByteArray.empty) 1 16 Tryd.underlying59 his sz0 sz1 sz2 rfl (by decide) _ _ _ rfl (H4.out.alloc _) _ 1 [plus] rfl (run.readsN_new wr [plus] 1 1 _ rfl) (by intro u hu; simp only [List.mem_singleton] at hu; subst hu; rfl) (by unfold maxLen; omega) (by omega) (by simp; omega) ?_)
          intro v7 w7 hown7 hgrow7 _ hst7
          have h5 := run.own_kept (H5.out.alloc (.cells #[plus] 9)) hgrow7 (fun k hk hk' => HAv.out k hk' hk)
          have h3 := run.own_kept (H3.out.alloc (.cells #[plus] 9)) hgrow7 (fun k hk hk' => by have h1 := HA3.out k hk; have h2 := (H4.out.lt k hk').1; omega)
          have ha := apart_left hst7 HAv.out (H5.out.alloc (.cells #[plus] 9))
          have hb := run.below_append (HB.out.alloc HB.out.size _) (run.own_mono (H4.out.alloc (.cells #[plus] 9)) hw2) hgrow7 (by simp; omega)
          have hsg := hgrow7.size
          have HSW : Hid (w3.heap.size ≤ w7.heap.size) := by show _ ≤ _; have := hsg; simp at this; omega
          have HO : Hid (w7.ownsRow w2.heap.size 9 1 v7 (i + (k + 1)) (HX ++ List.replicate (k + 1) plus)) := by show World.ownsRow _ _ _ _ _ _ _; rw [hrp.out, List.append_assoc]; exact hown7
          have H5' := run.hid h5
          have H3' := run.hid h3
          have HB' := run.hid hb
          have HA' := run.hid ha
          clear hown7 hgrow7 hst7 h5 h3 ha hb hsg H4 H5 H3 HB HAv
          go_wp2
          go_roundw
          case rel => exact ⟨k + 1, by omega, by go_num, HO, H5', H3', HB', HSW.out, HA'⟩
          case measure => simp [intOf]; omega
        · obtain rfl : k = 20 := by omega
          generalize wr = wy at *
          have HE := run.hid (show HX = List.replicate i hash by rw [← HHX.out]; unfold hashed; rw [List.drop_of_length_le (by rw [HXL.out]; exact Nat.le_refl _), List.append_nil])
          obtain ⟨ga, ca, rfl⟩ := own_some H4.out (by omega)
          go_wp2
          go_loopw [8] (fun vi wr => ∃ j : Nat, j ≤ i + 20 ∧ vi = .int .i64 j ∧ wr = wy) (fun vi _ => (i + 20 - intOf vi).toNat)
          case atStart => exact ⟨0, by omega, rfl, rfl⟩
          case round =>
            obtain ⟨j, hj, rfl, rfl⟩ := hrel
            by_cases hjl : j < i + 20
            · have hcell := H4.out.cellAt j (by omega)
              rw [HE.out] at hcell
              by_cases hji : j < i
              · have hc : wr.cell? ⟨ga, j, none⟩ = some hash := by rw [hcell, List.getElem?_append_left (by simp; omega)]; simp [hji]
                clear hcell
                go_wp2
                go_roundw
                case rel => exact ⟨j + 1, by omega, by go_num, trivial⟩
                case measure => simp [intOf]; omega
              · have hc : wr.cell? ⟨ga, j, none⟩ = some plus := by rw [hcell, List.getElem?_append_right (by simp; omega), List.length_replicate, List.getElem?_replicate, if_pos (by omega)]
                clear hcell
                go_wp2
                go_roundw
                case rel => exact ⟨j + 1, by omega, by go_num, trivial⟩
                case measure => simp [intOf]; omega
            · obtain rfl : j = i + 20 := by omega
              have HSM := run.hid (rsame_eq L (.slice a5 i c5) (.slice a3 i c3) wr (by rw [HXS.out]; exact run.reads_own H5.out) (by rw [HXS.out]; exact run.reads_own H3.out) (by rw [HLL.out]; omega))
              go_wp2_with fail
              refine HSM.out.mono ?_
              rintro e w9 ⟨rfl, hb9⟩
              have HF := run.hid (HB.out.trans (hb9.mono HB.out.size))
              go_wp2
              go_ret
              exact ⟨rfl, HF.out⟩
end Go.Proofs.YtbfheehaagcmeaaDoor.can
namespace Go.Proofs.YtbfheehaagcmeaaDoor.can
open Go.RowKit Go.Proofs
set_option linter.unusedVariables false

/-- a world that came of another by writing into two blocks and by new memory -/
structure Two (n g1 g2 : Nat) (w w' : World) : Prop where
  below : Below n w w'
  block : ∀ k, k < w.heap.size → k ≠ g1 → k ≠ g2 → w'.heap[k]? = w.heap[k]?
theorem Two.refl (n g1 g2 : Nat) (w : World) : Two n g1 g2 w w := ⟨Below.refl _ _, fun _ _ _ _ => rfl⟩
theorem Two.trans {n g1 g2 : Nat} {a b c : World} (h : Two n g1 g2 a b) (k : Two n g1 g2 b c) : Two n g1 g2 a c :=
  ⟨h.below.trans k.below, fun i hi h1 h2 => (k.block i (Nat.lt_of_lt_of_le hi h.below.size) h1 h2).trans (h.block i hi h1 h2)⟩
theorem Two.of_below {n g1 g2 : Nat} {w w' : World} (h : Below w.heap.size w w') (hn : n ≤ w.heap.size) : Two n g1 g2 w w' := ⟨h.mono hn, fun k hk _ _ => h.block k hk⟩
theorem Two.of_one {n g1 g2 : Nat} {w w' : World} (h : w.grownBy w' (some g1)) (hn : n ≤ w.heap.size) (hg : n ≤ g1) : Two n g1 g2 w w' :=
  ⟨(Below.refl _ _).grown h hn (by rintro k ⟨⟩; exact hg), fun k hk h1 _ => h.block k hk (by simpa using h1)⟩
theorem Two.of_two {n g1 g2 : Nat} {w w' : World} (h : w.grownBy w' (some g2)) (hn : n ≤ w.heap.size) (hg : n ≤ g2) : Two n g1 g2 w w' :=
  ⟨(Below.refl _ _).grown h hn (by rintro k ⟨⟩; exact hg), fun k hk _ h2 => h.block k hk (by simpa using h2)⟩
theorem Two.cell {n g1 g2 : Nat} {w w' : World} (h : Two n g1 g2 w w') {a : Addr} {v : Value} (hc : w.cell? a = some v) (h1 : a.block ≠ g1) (h2 : a.block ≠ g2) : w'.cell? a = some v :=
  (World.cell?_of_block (h.block a.block (World.block_lt_of_cell? w a hc) h1 h2)).trans hc

/-- a pair of canvases in a world that came of w0 -/
structure At (w0 : World) (n b g b2 g2 W H : Nat) (S R : Int → Int → Bool) (w : World) : Prop where
  c : Canvas n b g W H S w
  r : RCan n b2 g2 W H R w
  dots : Dots w
  low : 2 < n
  n1 : b ≠ g2
  n2 : g ≠ g2
  n3 : b2 ≠ g
  two : Two n g g2 w0 w
section
variable {w0 w w' : World} {n b g b2 g2 W H : Nat} {S R S' R' : Int → Int → Bool}
theorem At.lt (h : At w0 n b g b2 g2 W H S R w) : b < w.heap.size ∧ g < w.heap.size ∧ b2 < w.heap.size ∧ g2 < w.heap.size := by
  obtain ⟨-, -, d, h1, -⟩ := h.c
  obtain ⟨-, -, d2, h2, -⟩ := h.r
  exact ⟨h1.lt.1, h1.lt.2, h2.lt.1, h2.lt.2⟩
theorem At.le (h : At w0 n b g b2 g2 W H S R w) : n ≤ w.heap.size := by
  have := h.c.1
  have := h.lt.1
  omega
theorem At.next (h : At w0 n b g b2 g2 W H S R w) (hb : Below w.heap.size w w') : At w0 n b g b2 g2 W H S R w' :=
  ⟨h.c.below hb, h.r.below hb, h.dots.below hb (Nat.lt_of_lt_of_le h.low h.le), h.low, h.n1, h.n2, h.n3, h.two.trans (.of_below hb h.le)⟩
theorem At.draw (h : At w0 n b g b2 g2 W H S R w) (hc : Canvas n b g W H S' w') (hg : w.grownBy w' (some g)) : At w0 n b g b2 g2 W H S' R w' :=
  ⟨hc, h.r.kept hg h.n3 (Ne.symm h.n2), h.dots.of hg (by have := h.low; have := hc.2.1; omega), h.low, h.n1, h.n2, h.n3, h.two.trans (.of_one hg h.le hc.2.1)⟩
theorem At.rdraw (h : At w0 n b g b2 g2 W H S R w) (hc : RCan n b2 g2 W H R' w') (hg : w.grownBy w' (some g2)) : At w0 n b g b2 g2 W H S R' w' :=
  ⟨h.c.kept hg h.n1 h.n2, hc, h.dots.of hg (by have := h.low; have := hc.2.1; omega), h.low, h.n1, h.n2, h.n3, h.two.trans (.of_two hg h.le hc.2.1)⟩
theorem At.drew (h : At w0 n b g b2 g2 W H S R w) : At w0 n b g b2 g2 W H S R w.drew := h.next ((Below.refl _ _).drew)
theorem At.from (h : At w0 n b g b2 g2 W H S R w) : At w n b g b2 g2 W H S R w := ⟨h.c, h.r, h.dots, h.low, h.n1, h.n2, h.n3, .refl _ _ _ _⟩
theorem At.mono (h : At w0 n b g b2 g2 W H S R w) {w1 : World} (ht : Two n g g2 w1 w0) : At w1 n b g b2 g2 W H S R w := ⟨h.c, h.r, h.dots, h.low, h.n1, h.n2, h.n3, ht.trans h.two⟩

theorem dot_at (h : At w0 n b g b2 g2 W H S R w) (x y : Int) : Calls Tryd.prog 19 #[.pointer (some ⟨b, 0, none⟩), .int .i64 x, .int .i64 y] w fun e w' => e = .returned (.bool (inside W H x y)) ∧ At w0 n b g b2 g2 W H (plot S x y) R w' :=
  (dot_any n b g W H S x y w h.dots h.c).mono fun e w' ⟨he, hc, hg⟩ => ⟨he, h.draw hc hg⟩
theorem rdot_at (h : At w0 n b g b2 g2 W H S R w) (x y : Int) : Calls Tryd.prog 28 #[.pointer (some ⟨b2, 0, none⟩), .int .i64 x, .int .i64 y] w fun e w' => e = .returned (.bool (inside W H x y)) ∧ At w0 n b g b2 g2 W H S (plot R x y) w' :=
  (rdot_any n b2 g2 W H R x y w h.r).mono fun e w' ⟨he, hc, hg⟩ => ⟨he, h.rdraw hc hg⟩
theorem has_at (h : At w0 n b g b2 g2 W H S R w) (x y : Int) : Calls Tryd.prog 22 #[.pointer (some ⟨b, 0, none⟩), .int .i64 x, .int .i64 y] w fun e w' => e = .returned (.bool (inside W H x y && S x y)) ∧ At w0 n b g b2 g2 W H S R w' :=
  (has_any n b g W H S x y w h.dots h.c).mono fun e w' ⟨he, hb⟩ => ⟨he, h.next hb⟩
theorem rhas_at (h : At w0 n b g b2 g2 W H S R w) (x y : Int) : Calls Tryd.prog 29 #[.pointer (some ⟨b2, 0, none⟩), .int .i64 x, .int .i64 y] w fun e w' => e = .returned (.bool (inside W H x y && R x y)) ∧ At w0 n b g b2 g2 W H S R w' :=
  (rhas_any n b2 g2 W H R x y w h.r).mono fun e w' ⟨he, k, hb⟩ => ⟨he, by subst hb; exact h.next (drewN_below _ w k)⟩

def lineIn (x0 y0 x1 y1 : Int) : Bool := [x0, y0, x1, y1].all inPlane
def lineS (S : Int → Int → Bool) (x0 y0 x1 y1 : Int) : Int → Int → Bool := if lineIn x0 y0 x1 y1 then plots S (lineL x0 y0 x1 y1 (lineN x0 y0 x1 y1).toNat) else S
theorem lineIn_spec {x0 y0 x1 y1 : Int} (h : lineIn x0 y0 x1 y1 = true) : inPlane x0 = true ∧ inPlane y0 = true ∧ inPlane x1 = true ∧ inPlane y1 = true := by
  simpa [lineIn, and_assoc] using h
theorem line_at (h : At w0 n b g b2 g2 W H S R w) (x0 y0 x1 y1 : Int) : Calls Tryd.prog 20 #[.pointer (some ⟨b, 0, none⟩), .int .i64 x0, .int .i64 y0, .int .i64 x1, .int .i64 y1] w fun e w' => e = .returned (.int .i64 (if lineIn x0 y0 x1 y1 then 0 else 2)) ∧ At w0 n b g b2 g2 W H (lineS S x0 y0 x1 y1) R w' := by
  cases hp : lineIn x0 y0 x1 y1 with
  | true => exact (line_any n b g W H S x0 y0 x1 y1 w h.low h.dots h.c (lineIn_spec hp)).mono fun e w' ⟨he, hc, hg⟩ => ⟨he, by unfold lineS; rw [if_pos hp]; exact h.draw hc hg⟩
  | false => exact (line_no b x0 y0 x1 y1 w hp).mono fun e w' ⟨he, hb⟩ => ⟨he, by unfold lineS; rw [hp]; exact h.next hb⟩
theorem rline_at (h : At w0 n b g b2 g2 W H S R w) (x0 y0 x1 y1 : Int) : Calls Tryd.prog 30 #[.pointer (some ⟨b2, 0, none⟩), .int .i64 x0, .int .i64 y0, .int .i64 x1, .int .i64 y1] w fun e w' => e = .returned (.int .i64 (if lineIn x0 y0 x1 y1 then 0 else 2)) ∧ At w0 n b g b2 g2 W H S (lineS R x0 y0 x1 y1) w' := by
  cases hp : lineIn x0 y0 x1 y1 with
  | true => exact (rline_any n b2 g2 W H R x0 y0 x1 y1 w h.r (lineIn_spec hp)).mono fun e w' ⟨he, hc, hg⟩ => ⟨he, by unfold lineS; rw [if_pos hp]; exact h.rdraw hc hg⟩
  | false => exact (rline_no b2 x0 y0 x1 y1 w hp).mono fun e w' ⟨he, hb⟩ => ⟨he, by unfold lineS; rw [hp]; subst hb; exact h⟩

def circIn (x y r : Int) : Bool := [x, y].all inPlane && decide (0 ≤ r ∧ r ≤ 1048576)
def circS (S : Int → Int → Bool) (x y r : Int) : Int → Int → Bool := if circIn x y r then plots S (circL x y r.toNat (circN r.toNat)) else S
theorem circIn_spec {x y r : Int} (h : circIn x y r = true) : inPlane x = true ∧ inPlane y = true ∧ 0 ≤ r ∧ r ≤ 1048576 := by
  simpa [circIn, and_assoc] using h
theorem circIn_no {x y r : Int} (h : circIn x y r = false) : [x, y].all inPlane = false ∨ r < 0 ∨ 1048576 < r := by
  unfold circIn at h
  rcases Bool.and_eq_false_iff.1 h with h | h
  · exact .inl h
  · have := of_decide_eq_false h
    omega
theorem circle_at (h : At w0 n b g b2 g2 W H S R w) (x y r : Int) : Calls Tryd.prog 21 #[.pointer (some ⟨b, 0, none⟩), .int .i64 x, .int .i64 y, .int .i64 r] w fun e w' => e = .returned (.int .i64 (if circIn x y r then 0 else 2)) ∧ At w0 n b g b2 g2 W H (circS S x y r) R w' := by
  cases hp : circIn x y r with
  | true =>
    obtain ⟨h1, h2, h3, h4⟩ := circIn_spec hp
    have := circle_any n b g W H S x y r.toNat w h.low h.dots h.c h1 h2 (by omega)
    rw [Int.toNat_of_nonneg h3] at this
    exact this.mono fun e w' ⟨he, hc, hg⟩ => ⟨he, by unfold circS; rw [if_pos hp]; exact h.draw hc hg⟩
  | false => exact (circle_no b x y r w (circIn_no hp)).mono fun e w' ⟨he, hb⟩ => ⟨he, by unfold circS; rw [hp]; exact h.next hb⟩
theorem rcircle_at (h : At w0 n b g b2 g2 W H S R w) (x y r : Int) : Calls Tryd.prog 31 #[.pointer (some ⟨b2, 0, none⟩), .int .i64 x, .int .i64 y, .int .i64 r] w fun e w' => e = .returned (.int .i64 (if circIn x y r then 0 else 2)) ∧ At w0 n b g b2 g2 W H S (circS R x y r) w' := by
  cases hp : circIn x y r with
  | true =>
    obtain ⟨h1, h2, h3, h4⟩ := circIn_spec hp
    have := rcircle_any n b2 g2 W H R x y r.toNat w h.r h1 h2 (by omega)
    rw [Int.toNat_of_nonneg h3] at this
    exact this.mono fun e w' ⟨he, hc, hg⟩ => ⟨he, by unfold circS; rw [if_pos hp]; exact h.rdraw hc hg⟩
  | false => exact (rcircle_no b2 x y r w (circIn_no hp)).mono fun e w' ⟨he, hb⟩ => ⟨he, by unfold circS; rw [hp]; subst hb; exact h⟩
theorem rows_at (h : At w0 n b g b2 g2 W H S S w) : Calls Tryd.prog 11 #[.agg #[.pointer (some ⟨b, 0, none⟩), .pointer (some ⟨b2, 0, none⟩)]] w fun e w' => e = .returned (.bool true) ∧ At w0 n b g b2 g2 W H S S w' :=
  (lawRows_any n b g b2 g2 W H S w h.c h.r).mono fun e w' ⟨he, hb⟩ => ⟨he, h.next hb⟩
end
end Go.Proofs.YtbfheehaagcmeaaDoor.can
