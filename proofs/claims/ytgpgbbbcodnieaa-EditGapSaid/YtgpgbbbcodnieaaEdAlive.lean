/-
  What every program must do: alive.
-/
import Derived.Test.YtgpgbbbcodnieaaEdD
import Derived.Test.YtgpgbbbcodnieaaEdGapK
namespace Go.Proofs.Ytgpgbbbcodnieaa.ed
open Go Go.RowKit Go.Proofs
set_option linter.unusedVariables false
def tAB : ByteArray := ⟨#[97, 98]⟩
def tX : ByteArray := ⟨#[120]⟩
def tABX : ByteArray := ⟨#[97, 98, 120]⟩
theorem alive_ins : (insT (newE tAB) tX).1 = true ∧ textB (insT (newE tAB) tX).2.F = tABX := by decide +kernel
theorem alive_undo : (undoT (insT (newE tAB) tX).2).1 = true ∧ textB (undoT (insT (newE tAB) tX).2).2.F = tAB := by decide +kernel
theorem alive_redo : (redoT (undoT (insT (newE tAB) tX).2).2).1 = true ∧ textB (redoT (undoT (insT (newE tAB) tX).2).2).2.F = tABX ∧ (redoT (undoT (insT (newE tAB) tX).2).2).2.ca = 3 := by decide +kernel
theorem src_new {w : World} {cs : Array Value} {t : TypeId} {m : Nat} (h1 : ∀ v ∈ cs.toList, v.oneCell' = true) (hm : cs.size = m) : Src 1 (w.alloc (.cells cs t)) (some ⟨w.heap.size, 0, none⟩) m m cs.toList := by
  refine ⟨by rw [Array.length_toList, hm, Nat.mul_one], h1, .inr ⟨w.heap.size, 0, rfl, by rw [World.size_alloc]; omega, fun j v hj => ?_⟩⟩
  rw [Nat.zero_add, blk_cell (heap_alloc_new w (.cells cs t))]
  rw [Array.getElem?_toList] at hj
  exact hj
set_option maxRecDepth 100000 in
set_option maxHeartbeats 4000000 in
theorem alive_any (w : World) : Calls Try.prog 8 #[] w fun e w' => e = .returned (.bool true) ∧ Below w.heap.size w w' := by
  have HNEW := run.hid (new_l tAB w (by decide))
  have HOK := run.hid (show EdOk (newE tAB) ∧ EdOk (insT (newE tAB) tX).2 ∧ EdOk (undoT (insT (newE tAB) tX).2).2 ∧ EdOk (redoT (undoT (insT (newE tAB) tX).2).2).2 from ⟨ok_new _, ok_ins (ok_new _) _, ok_undo (ok_ins (ok_new _) _), ok_redo (ok_undo (ok_ins (ok_new _) _))⟩)
  obtain ⟨a1, a2⟩ := alive_ins
  obtain ⟨u1, u2⟩ := alive_undo
  obtain ⟨r1, r2, r3⟩ := alive_redo
  have HI := run.hid (fun (B b : Nat) (X : World) (h : EdL B b (newE tAB) X) (hB : B ≤ X.heap.size) => ins_l h (ok_new _) hB tX (by decide))
  rw [a1] at HI
  generalize newE tAB = s0 at *
  generalize (insT s0 tX).2 = s1 at *
  have HU := run.hid (fun (B b : Nat) (X : World) (h : EdL B b s1 X) (hB : B ≤ X.heap.size) => undo_l h HOK.out.2.1 hB)
  rw [u1] at HU
  have HT1 := run.hid (fun (B b : Nat) (X : World) (h : EdL B b s1 X) => text_l h HOK.out.2.1)
  rw [a2] at HT1
  generalize (undoT s1).2 = s2 at *
  have HR := run.hid (fun (B b : Nat) (X : World) (h : EdL B b s2 X) (hB : B ≤ X.heap.size) => redo_l h HOK.out.2.2.1 hB)
  rw [r1] at HR
  have HT2 := run.hid (fun (B b : Nat) (X : World) (h : EdL B b s2 X) => text_l h HOK.out.2.2.1)
  rw [u2] at HT2
  generalize (redoT s2).2 = s3 at *
  have HT3 := run.hid (fun (B b : Nat) (X : World) (h : EdL B b s3 X) => text_l h HOK.out.2.2.2)
  rw [r2] at HT3
  have HC := run.hid (fun (B b : Nat) (X : World) (h : EdL B b s3 X) => caret_l h)
  rw [r3] at HC
  clear a1 a2 u1 u2 r1 r2 r3
  go_enter Try.func8, Try.ntmps8
  go_wp2_with fail
  refine HNEW.out.mono ?_
  rintro e w1 ⟨b, rfl, hE1, hb1⟩
  have HI1 := run.hid (HI.out _ b w1 hE1 hb1.size)
  have HB1 := run.hid hb1
  clear HNEW HI hE1 hb1
  go_wp2_with fail
  refine HI1.out.mono ?_
  rintro e w2 ⟨rfl, hE2, hb2⟩
  have HB2 := run.hid (HB1.out.trans hb2)
  have HT := run.hid (HT1.out _ b w2 hE2)
  have HE2 := run.hid hE2
  clear HI1 HB1 hE2 hb2 HT1
  go_wp2_with fail
  refine HT.out.mono ?_
  rintro e w3 ⟨rfl, hb3⟩
  have HB3 := run.hid (HB2.out.trans (hb3.mono HB2.out.size))
  have HUU := run.hid (HU.out _ b w3 (HE2.out.below hb3) HB3.out.size)
  clear HT HB2 HE2 hb3 HU
  go_wp2_with fail
  refine HUU.out.mono ?_
  rintro e w4 ⟨rfl, hE4, hb4⟩
  have HB4 := run.hid (HB3.out.trans hb4)
  have HT := run.hid (HT2.out _ b w4 hE4)
  have HE4 := run.hid hE4
  clear HUU HB3 hE4 hb4 HT2
  go_wp2_with fail
  refine HT.out.mono ?_
  rintro e w5 ⟨rfl, hb5⟩
  have HB5 := run.hid (HB4.out.trans (hb5.mono HB4.out.size))
  have HRR := run.hid (HR.out _ b w5 (HE4.out.below hb5) HB5.out.size)
  clear HT HB4 HE4 hb5 HR
  go_wp2_with fail
  refine HRR.out.mono ?_
  rintro e w6 ⟨rfl, hE6, hb6⟩
  have HB6 := run.hid (HB5.out.trans hb6)
  have HE6 := run.hid hE6
  have HNG := run.hid (edI.new_any (w := w6.alloc (.cells #[.int .i64 1, .int .i64 2, .int .i64 3] 3)) (some ⟨w6.heap.size, 0, none⟩) 3 3 [.int .i64 1, .int .i64 2, .int .i64 3] (src_new (cs := #[.int .i64 1, .int .i64 2, .int .i64 3]) (by decide) rfl) (by decide))
  clear HRR HB5 hE6 hb6
  go_wp2_with fail
  refine HNG.out.mono ?_
  rintro e w7 ⟨g, lb, cap, A, rfl, hG, hHc, hg, hl, hb7⟩
  have hs6 : (w6.alloc (.cells #[.int .i64 1, .int .i64 2, .int .i64 3] 3)).heap.size = w6.heap.size + 1 := World.size_alloc _ _
  have hb67 := (run.below_one w6 (.cells #[.int .i64 1, .int .i64 2, .int .i64 3] 3)).trans (hb7.mono (by omega))
  have hs7 := hb67.size
  have hglt := (Array.getElem?_eq_some_iff.1 hG.hg).1
  have hllt := (Array.getElem?_eq_some_iff.1 hG.hl).1
  have hk78 := (Kept.refl (fun _ => False) w7).alloc (.cells #[.int .i64 8] 3)
  have hGI := edI.insert_any (hG.kept hk78 (fun h => h) (fun h => h)) hHc (by decide) 1 (some ⟨w7.heap.size, 0, none⟩) 1 1 [.int .i64 8] (src_new (cs := #[.int .i64 8]) (by decide) rfl) (by omega) (by omega) (by omega) (fun b off e => by simp only [Option.some.injEq, Addr.mk.injEq] at e; omega)
  have HGI := run.hid hGI
  have HB67 := run.hid (And.intro hb67 (And.intro (show w6.heap.size ≤ g by omega) (show w6.heap.size ≤ lb by omega)))
  clear HNG hG hHc hb7 hs6 hb67 hk78 hGI
  go_wp2_with fail
  refine HGI.out.mono ?_
  rintro e w9 ⟨rfl, lb', n', cap', U', A', hG', -, hN', hlb', hmx, hk⟩
  have hLEN := edI.len_any hG' (by omega)
  rw [show 1 + 1 + (n' - U') = 4 by omega] at hLEN
  have hk7 : Below w6.heap.size w7 w9 := ((run.below_one w7 (.cells #[.int .i64 8] 3)).mono hs7).trans (hk.below (by rw [World.size_alloc]; omega) (fun k hk' h => by have := HB67.out.2; omega))
  have hb69 := HB67.out.1.trans hk7
  have hE9 := HE6.out.below hb69
  have HB9 := run.hid (HB6.out.trans (hb69.mono HB6.out.size))
  have HT9 := run.hid (fun (X : World) (hX : Below w9.heap.size w9 X) => HT3.out _ b X (hE9.below hX))
  have HC9 := run.hid (fun (X : World) (hX : Below w9.heap.size w9 X) => HC.out _ b X (hE9.below hX))
  have HL9 := run.hid (fun (X : World) (hX : Below w9.heap.size w9 X) => edI.len_any (hG'.kept (Kept.of_below (S := fun _ => False) hX) (fun h => h) (fun h => h)) (by omega))
  rw [show 1 + 1 + (n' - U') = 4 by omega] at HL9
  clear HGI hG' hN' hlb' hmx hk hLEN hk7 hb69 hE9 HE6 HB6 HB67 HT3 HC hglt hllt hs7 hg hl HOK
  have x1 : tABX.toList = [97, 98, 120] := by decide +kernel
  have x2 : tAB.toList = [97, 98] := by decide +kernel
  go_wp2_with fail
  refine (HT9.out w9 (Below.refl _ _)).mono ?_
  rintro e w10 ⟨rfl, hb10⟩
  have HB10 := run.hid hb10
  clear hb10
  go_wp2_with fail
  refine (HC9.out w10 HB10.out).mono ?_
  rintro e w11 ⟨rfl, hb11⟩
  have HB11 := run.hid (HB10.out.trans (hb11.mono HB10.out.size))
  clear hb11 HB10
  go_wp2_with fail
  refine (HL9.out w11 HB11.out).mono ?_
  rintro e w12 ⟨rfl, hs12⟩
  have HF := run.hid (HB9.out.trans ((HB11.out.trans (hs12.below.mono HB11.out.size)).mono HB9.out.size))
  clear hs12 HB11 HB9 HT9 HC9 HL9
  go_wp2
  go_ret
  exact ⟨rfl, HF.out⟩
end Go.Proofs.Ytgpgbbbcodnieaa.ed
