/-
  The walks of the layer wrap: wide, join, fit, tail, blanks.
-/
import Derived.Test.YtmjmmoecplndmaaWrpFlow
import Derived.Test.YtmjmmoecplndmaaWrpBuild
namespace Go.Proofs.Ytmjmmoecplndmaa.wrp
open Go.RowKit Go.Proofs
open Go.Proofs.Ytmjmmoecplndmaa.wid Go.Proofs.Ytmjmmoecplndmaa.utf Go.Proofs.Ytmjmmoecplndmaa.clu
set_option linter.unusedVariables false

/-- how wide clusters are together -/
def wideT (X : List TV) : Nat := (X.map (·.2)).sum
/-- the bytes of clusters -/
def catL (X : List TV) : List UInt8 := X.flatMap fun q => q.1.data.toList
def joinT (X : List TV) : ByteArray := ⟨(catL X).toArray⟩
/-- how many of the first ones fit -/
def fitT : List TV → Nat → Nat
  | [], _ => 0
  | q :: t, left => if q.2 ≤ left then fitT t (left - q.2) + 1 else 0

theorem wideT_append (a b : List TV) : wideT (a ++ b) = wideT a + wideT b := by simp [wideT]
theorem wideT_take {l : List TV} {i : Nat} (h : i < l.length) : wideT (l.take (i + 1)) = wideT (l.take i) + (l.getD i t0).2 := by
  rw [List.take_succ_eq_append_getElem h, wideT_append]
  simp [wideT, List.getD_eq_getElem?_getD, h]
theorem wideT_take_le (l : List TV) (i : Nat) : wideT (l.take i) ≤ wideT l := by
  have h : wideT l = wideT (l.take i) + wideT (l.drop i) := by rw [← wideT_append, List.take_append_drop]
  omega
theorem catL_append (a b : List TV) : catL (a ++ b) = catL a ++ catL b := by simp [catL]
theorem catL_take {l : List TV} {i : Nat} (h : i < l.length) : catL (l.take (i + 1)) = catL (l.take i) ++ (l.getD i t0).1.data.toList := by
  rw [List.take_succ_eq_append_getElem h, catL_append]
  simp [catL, List.getD_eq_getElem?_getD, h]
theorem catL_take_le (l : List TV) (i : Nat) : (catL (l.take i)).length ≤ (catL l).length := by
  have h : catL l = catL (l.take i) ++ catL (l.drop i) := by rw [← catL_append, List.take_append_drop]
  rw [h, List.length_append]; omega
theorem fitT_cons (q : TV) (t : List TV) (left : Nat) : fitT (q :: t) left = if q.2 ≤ left then fitT t (left - q.2) + 1 else 0 := rfl
theorem fitT_at {X : List TV} {i left : Nat} (h : i < X.length) : fitT (X.drop i) left = if (X.getD i t0).2 ≤ left then fitT (X.drop (i + 1)) (left - (X.getD i t0).2) + 1 else 0 := by
  rw [List.drop_eq_getElem_cons h, fitT_cons]
  simp [List.getD_eq_getElem?_getD, h]
theorem fitT_le : ∀ (X : List TV) (n : Nat), fitT X n ≤ X.length
  | [], _ => Nat.le_refl _
  | q :: t, n => by
    rw [fitT_cons]
    split
    · have := fitT_le t (n - q.2); simp only [List.length_cons]; omega
    · omega

set_option maxHeartbeats 1000000 in
theorem wide_any (v : Value) (X : List TV) (w : World) (hv : Reads2 w v X) (hX : X.length ≤ 1099511627776) (hS : wideT X ≤ 4611686018427387904) : Calls Try.prog 10 #[v] w fun e w' => e = .returned (.int .i64 (wideT X : Nat)) ∧ Below w.heap.size w w' := by
  obtain ⟨a, cap, rfl, ha⟩ := hv
  have HA := run.hid ha
  clear ha
  have HT := run.hid (fun i => @wideT_take X i)
  have HL := run.hid (fun i => wideT_take_le X i)
  have HEND := run.hid (show X.take X.length = X from List.take_of_length_le (Nat.le_refl _))
  generalize hN : X.length = N at *
  go_enter Try.func10, Try.ntmps10
  go_wp2
  go_loopw [3, 8] (fun vs vi wr => ∃ i : Nat, i ≤ N ∧ vi = .int .i64 i ∧ vs = .int .i64 (wideT (X.take i) : Nat) ∧ Below w.heap.size w wr) (fun _ vi _ => ((N : Int) - intOf vi).toNat)
  case atStart => exact ⟨0, by omega, rfl, rfl, Below.refl _ _⟩
  case round =>
    obtain ⟨i, hi, rfl, rfl, hbel⟩ := hrel
    by_cases hlt : i < N
    · obtain ⟨b1, o1, rfl, hlb1, hx0, hx1⟩ := HA.out i hlt
      replace hx0 := (hbel.cell (p := ⟨b1, o1 + i * 2, none⟩) hlb1).trans hx0
      replace hx1 := (hbel.cell (p := ⟨b1, o1 + i * 2 + 1, none⟩) hlb1).trans hx1
      have HTi := run.hid (HT.out i (by omega))
      have hle := HL.out (i + 1)
      rw [HTi.out] at hle
      unfold t0 at HTi hle
      generalize X.getD i (ByteArray.empty, 0) = q at *
      obtain ⟨qs, qw⟩ := q
      dsimp only at hx0 hx1 HTi hle
      have hbn := hbel.alloc hbel.size (.cells #[.string qs, .int .i64 qw] 29)
      generalize wideT (X.take i) = sm at *
      clear HA HL HT hN HEND
      go_wp2
      go_roundw
      case rel => exact ⟨i + 1, by omega, by go_num, by rw [HTi.out]; go_num, hbn⟩
      case measure => simp [intOf]; omega
    · obtain rfl : i = N := by omega
      rw [HEND.out]
      go_wp2
      go_ret
      exact ⟨rfl, hbel⟩

set_option maxHeartbeats 1000000 in
theorem join_any (v : Value) (X : List TV) (w : World) (hv : Reads2 w v X) (hX : X.length ≤ 1099511627776) (hS : (catL X).length ≤ 35184372088832) : Calls Try.prog 11 #[v] w fun e w' => e = .returned (.string (joinT X)) ∧ Below w.heap.size w w' := by
  obtain ⟨a, cap, rfl, ha⟩ := hv
  have HA := run.hid ha
  clear ha
  have HT := run.hid (fun i => @catL_take X i)
  have HL := run.hid (fun i => catL_take_le X i)
  have HEND := run.hid (show X.take X.length = X from List.take_of_length_le (Nat.le_refl _))
  have HJ : Hid (joinT X = ⟨(catL X).toArray⟩) := rfl
  generalize joinT X = jt at *
  generalize hN : X.length = N at *
  have hstart : Hid (Built w.heap.size w.heap.size [] (w.alloc (.cells #[.pointer none, .slice none 0 0] 65))) := built_new w _ (Nat.le_refl _)
  have hbel0 := run.below_one w (.cells #[.pointer none, .slice none 0 0] 65)
  go_enter Try.func11, Try.ntmps11
  go_wp2
  go_loopw [8] (fun vi wr => ∃ i : Nat, i ≤ N ∧ vi = .int .i64 i ∧ Hid (Built w.heap.size w.heap.size (catL (X.take i)) wr) ∧ Below w.heap.size w wr) (fun vi _ => ((N : Int) - intOf vi).toNat)
  case atStart => exact ⟨0, by omega, rfl, hstart, hbel0⟩
  case round =>
    obtain ⟨i, hi, rfl, HB, hbel⟩ := hrel
    by_cases hlt : i < N
    · obtain ⟨b1, o1, rfl, hlb1, hx0, hx1⟩ := HA.out i hlt
      replace hx0 := (hbel.cell (p := ⟨b1, o1 + i * 2, none⟩) hlb1).trans hx0
      replace hx1 := (hbel.cell (p := ⟨b1, o1 + i * 2 + 1, none⟩) hlb1).trans hx1
      have HTi := run.hid (HT.out i (by omega))
      have hle := HL.out (i + 1)
      rw [HTi.out] at hle
      unfold t0 at HTi hle
      generalize X.getD i (ByteArray.empty, 0) = q at *
      obtain ⟨qs, qw⟩ := q
      dsimp only at hx0 hx1 HTi hle
      rw [List.length_append] at hle
      have hbn := hbel.alloc hbel.size (.cells #[.string qs, .int .i64 qw] 29)
      have hsz : qs.data.toList.length = qs.size := rfl
      rw [hsz] at hle
      have HW := run.hid (write_any w.heap.size w.heap.size (catL (X.take i)) qs (wr.alloc (.cells #[.string qs, .int .i64 qw] 29)) (Lib.IsBuilderF.alloc HB.out _) (by omega) hbn.size)
      rw [← HTi.out] at HW
      clear HA HL HT hN HEND HB HTi hsz
      go_wp2_with fail
      refine HW.out.mono ?_
      rintro e w2 ⟨rfl, hb2, hbel2⟩
      have HB2 := run.hid hb2
      have hbel3 := hbn.trans hbel2
      clear hb2 hbel2 HW hx0 hx1
      go_wp2
      go_roundw
      case rel => exact ⟨i + 1, by omega, by go_num, HB2, hbel3⟩
      case measure => simp [intOf]; omega
    · obtain rfl : i = N := by omega
      rw [HEND.out] at HB
      have HS := run.hid (string_any w.heap.size w.heap.size (catL X) wr HB.out hbel.size)
      rw [← HJ.out] at HS
      clear HA HL HT hN HEND HB HJ
      go_wp2_with fail
      refine HS.out.mono ?_
      rintro e w2 ⟨rfl, -, hb2⟩
      have hbel2 := hbel.trans hb2
      go_wp2
      go_ret
      exact ⟨rfl, hbel2⟩

end Go.Proofs.Ytmjmmoecplndmaa.wrp
