/-
  The walks of the layer cluster: Joins.
-/
import Derived.Test.YtfncneedpnikbaaCluOne
import Derived.Test.YtfncneedpnikbaaCluUse
import Derived.Deep.DeepBigQuietO
namespace Go.Proofs.Ytfncneedpnikbaa.clu
open Go.RowKit Go.Proofs
open Go.Proofs.Ytfncneedpnikbaa.wid Go.Proofs.Ytfncneedpnikbaa.utf
set_option linter.unusedVariables false

/-- do they join? -/
def joins (a b : ByteArray) : Bool := decide (told (a ++ b) ≠ told a ++ told b)

set_option maxRecDepth 100000 in
set_option maxHeartbeats 4000000 in
theorem joins_any (a b : ByteArray) (w : World) (ha : a.size ≤ 274877906944) (hb : b.size ≤ 274877906944) : Calls Try.prog 16 #[.string a, .string b] w fun e w' => e = .returned (.bool (joins a b)) ∧ Below w.heap.size w w' := by
  have H1 := run.hid (fun w => split_use (a ++ b) w (by rw [ByteArray.size_append]; omega))
  have H2 := run.hid (fun w => split_use a w (by omega))
  have H3 := run.hid (fun w => split_use b w (by omega))
  have hl1 := told_length (a ++ b)
  have hl2 := told_length a
  have hl3 := told_length b
  rw [ByteArray.size_append] at hl1
  have HJ := run.hid (show joins a b = decide (told (a ++ b) ≠ told a ++ told b) from rfl)
  generalize hX : told (a ++ b) = X at *
  generalize told a = Y at *
  generalize told b = Z at *
  clear hX
  have HLEN := run.hid (show X.length ≠ Y.length + Z.length → joins a b = true from fun h => by rw [HJ.out]; exact decide_eq_true (nes_len (by rw [List.length_append]; exact h)))
  have HEND := run.hid (show X.length = Y.length + Z.length → (∀ j, j < X.length → X.getD j (ByteArray.empty, 0) = (Y ++ Z).getD j (ByteArray.empty, 0)) → joins a b = false from fun h1 h2 => by rw [HJ.out]; simp [eqs_end (by rw [List.length_append]; exact h1) h2])
  have HAT := run.hid (show ∀ k, X.getD k (ByteArray.empty, 0) ≠ (Y ++ Z).getD k (ByteArray.empty, 0) → joins a b = true from fun k h => by rw [HJ.out]; exact decide_eq_true (nes_at h))
  have HLE := run.hid (fun i => @told_add Y Z i)
  have HGE := run.hid (fun i => @told_sub Y Z i)
  generalize joins a b = jn at *
  go_enter Try.func16, Try.ntmps16
  go_wp2_with fail
  refine (H1.out _).mono ?_
  rintro e w1 ⟨v1, rfl, -, hr1, hb1⟩
  go_wp2_with fail
  refine (H2.out _).mono ?_
  rintro e w2 ⟨v2, rfl, -, hr2, hb2⟩
  go_wp2_with fail
  refine (H3.out _).mono ?_
  rintro e w3 ⟨v3, rfl, -, hr3, hb3⟩
  have hB := (hb1.trans (hb2.mono hb1.size)).trans (hb3.mono (Nat.le_trans hb1.size hb2.size))
  have R1 := run.hid ((hr1.below hb2).below hb3)
  have R2 := run.hid (hr2.below hb3)
  have R3 := run.hid hr3
  obtain ⟨a1, c1, rfl, -⟩ := hr1
  obtain ⟨a2, c2, rfl, -⟩ := hr2
  obtain ⟨a3, c3, rfl, -⟩ := hr3
  clear H1 H2 H3 hb1 hb2 hb3 HJ
  by_cases hlen : X.length = Y.length + Z.length
  · have hlenH := run.hid hlen
    have hle1 := Nat.le_of_eq hlen
    have hle2 := Nat.le_of_eq hlen.symm
    clear hlen HLEN
    go_wp2
    go_loopw [28] (fun vi wr => ∃ i : Nat, i ≤ X.length ∧ vi = .int .i64 i ∧ Below w3.heap.size w3 wr ∧ Hid (∀ j, j < i → X.getD j (ByteArray.empty, 0) = (Y ++ Z).getD j (ByteArray.empty, 0))) (fun vi _ => (X.length - intOf vi).toNat)
    case atStart => exact ⟨0, by omega, rfl, Below.refl _ _, run.hid (eqs_start _ _)⟩
    case round =>
      obtain ⟨i, hi, rfl, hbel, HS⟩ := hrel
      by_cases hlt : i < X.length
      · obtain ⟨a', cap', e1, hrow⟩ := R1.out
        simp only [Value.slice.injEq] at e1
        obtain ⟨rfl, -, rfl⟩ := e1
        obtain ⟨b1, o1, rfl, hlb1, hx0, hx1⟩ := hrow i hlt
        replace hx0 := (hbel.cell (p := ⟨b1, o1 + i * 2, none⟩) hlb1).trans hx0
        replace hx1 := (hbel.cell (p := ⟨b1, o1 + i * 2 + 1, none⟩) hlb1).trans hx1
        clear hrow
        have HA := run.hid (HAT.out i)
        by_cases hY : i < Y.length
        · obtain ⟨a', cap', e1, hrow⟩ := R2.out
          simp only [Value.slice.injEq] at e1
          obtain ⟨rfl, -, rfl⟩ := e1
          obtain ⟨b2, o2, rfl, hlb2, hy0, hy1⟩ := hrow i hY
          replace hy0 := (hbel.cell (p := ⟨b2, o2 + i * 2, none⟩) hlb2).trans hy0
          replace hy1 := (hbel.cell (p := ⟨b2, o2 + i * 2 + 1, none⟩) hlb2).trans hy1
          clear hrow
          have HN := run.hid (fun h => eqs_next HS.out (h : X.getD i (ByteArray.empty, 0) = (Y ++ Z).getD i (ByteArray.empty, 0)))
          rw [HLE.out i hY] at HA HN
          generalize X.getD i (ByteArray.empty, 0) = q at *
          generalize Y.getD i (ByteArray.empty, 0) = r at *
          obtain ⟨qs, qw⟩ := q
          obtain ⟨rs, rw_⟩ := r
          dsimp only at hx0 hx1 hy0 hy1
          have hz0 := run.cell_old wr (.cells #[.string qs, .int .i64 qw] 30) hy0
          have hz1 := run.cell_old wr (.cells #[.string qs, .int .i64 qw] 30) hy1
          obtain ⟨hb0, hb1⟩ := new_two wr (.string qs) (.int .i64 qw) 30
          have hbn := hbel.alloc hbel.size (.cells #[.string qs, .int .i64 qw] 30)
          go_upto_region 7 with fail
          generalize wr.alloc (.cells #[.string qs, .int .i64 qw] 30) = wq at *
          by_cases h1 : qs = rs
          · subst h1
            by_cases h2 : qw = rw_
            · subst h2
              have HS2 := run.hid (HN.out rfl)
              clear HA HN HS
              have hg1 : ¬ ((Y.length : Int) ≤ (i : Int)) := by omega
              have hg2 : (decide ((Y.length : Int) ≤ (i : Int))) = false := decide_eq_false hg1
              go_quiet (fail)
              go_wp2
              go_roundw
              case rel => exact ⟨i + 1, by omega, by go_num, below_drewN hbn _, HS2⟩
              case measure => simp [intOf]; omega
            · have hj := run.hid (HA.out (by intro e; simp only [Prod.mk.injEq] at e; exact h2 e.2))
              clear HA HN HS
              go_quiet (fail)
              go_wp2
              go_ret
              exact ⟨by rw [hj.out]; rfl, below_drewN (hB.trans (hbn.mono hB.size)) _⟩
          · have hj := run.hid (HA.out (by intro e; simp only [Prod.mk.injEq] at e; exact h1 e.1))
            have hE : (qs.toList == rs.toList) = false := by rw [toList_eq_iff]; exact decide_eq_false h1
            clear HA HN HS
            go_quiet (fail)
            go_wp2
            go_ret
            exact ⟨by rw [hj.out]; rfl, below_drewN (hB.trans (hbn.mono hB.size)) _⟩
        · obtain ⟨m, hm⟩ : ∃ m, i = Y.length + m := ⟨i - Y.length, by omega⟩
          have HM := run.hid hm
          have hsub : (i : Int) - (Y.length : Int) = (m : Int) := by omega
          have hmZ : m < Z.length := by omega
          have hmX : Y.length ≤ i := by omega
          have hmm : i - Y.length = m := by omega
          clear hm
          obtain ⟨a', cap', e1, hrow⟩ := R3.out
          simp only [Value.slice.injEq] at e1
          obtain ⟨rfl, -, rfl⟩ := e1
          obtain ⟨b3, o3, rfl, hlb3, hy0, hy1⟩ := hrow m hmZ
          replace hy0 := (hbel.cell (p := ⟨b3, o3 + m * 2, none⟩) hlb3).trans hy0
          replace hy1 := (hbel.cell (p := ⟨b3, o3 + m * 2 + 1, none⟩) hlb3).trans hy1
          clear hrow
          have HN := run.hid (fun h => eqs_next HS.out (h : X.getD i (ByteArray.empty, 0) = (Y ++ Z).getD i (ByteArray.empty, 0)))
          rw [HGE.out i hmX, hmm] at HA HN
          clear hmm
          generalize X.getD i (ByteArray.empty, 0) = q at *
          generalize Z.getD m (ByteArray.empty, 0) = r at *
          obtain ⟨qs, qw⟩ := q
          obtain ⟨rs, rw_⟩ := r
          dsimp only at hx0 hx1 hy0 hy1
          have hg1 : ((Y.length : Int) ≤ (i : Int)) := by omega
          have hg2 : (decide ((Y.length : Int) ≤ (i : Int))) = true := decide_eq_true hg1
          have hg4 : ¬ ((i : Int) < (Y.length : Int)) := by omega
          have hg5 : (decide ((i : Int) < (Y.length : Int))) = false := decide_eq_false hg4
          have hz0 := run.cell_old wr (.cells #[.string qs, .int .i64 qw] 30) hy0
          have hz1 := run.cell_old wr (.cells #[.string qs, .int .i64 qw] 30) hy1
          obtain ⟨hb0, hb1⟩ := new_two wr (.string qs) (.int .i64 qw) 30
          have hbn := hbel.alloc hbel.size (.cells #[.string qs, .int .i64 qw] 30)
          go_upto_region 7 with fail
          generalize wr.alloc (.cells #[.string qs, .int .i64 qw] 30) = wq at *
          by_cases h1 : qs = rs
          · subst h1
            by_cases h2 : qw = rw_
            · subst h2
              have HS2 := run.hid (HN.out rfl)
              clear HA HN HS
              go_quiet (fail)
              go_wp2
              go_roundw
              case rel => exact ⟨i + 1, by omega, by go_num, below_drewN hbn _, HS2⟩
              case measure => simp [intOf]; omega
            · have hj := run.hid (HA.out (by intro e; simp only [Prod.mk.injEq] at e; exact h2 e.2))
              clear HA HN HS
              go_quiet (fail)
              go_wp2
              go_ret
              exact ⟨by rw [hj.out]; rfl, below_drewN (hB.trans (hbn.mono hB.size)) _⟩
          · have hj := run.hid (HA.out (by intro e; simp only [Prod.mk.injEq] at e; exact h1 e.1))
            have hE : (qs.toList == rs.toList) = false := by rw [toList_eq_iff]; exact decide_eq_false h1
            clear HA HN HS
            go_quiet (fail)
            go_wp2
            go_ret
            exact ⟨by rw [hj.out]; rfl, below_drewN (hB.trans (hbn.mono hB.size)) _⟩
      · obtain rfl : i = X.length := by omega
        have hj := run.hid (HEND.out hlenH.out HS.out)
        go_wp2
        go_ret
        exact ⟨by rw [hj.out]; rfl, hB.trans (hbel.mono hB.size)⟩
  · have hj := run.hid (HLEN.out hlen)
    generalize X.length = n1 at *
    generalize Y.length = n2 at *
    generalize Z.length = n3 at *
    go_wp2
    go_ret
    exact ⟨by rw [hj.out]; rfl, hB⟩

end Go.Proofs.Ytfncneedpnikbaa.clu
