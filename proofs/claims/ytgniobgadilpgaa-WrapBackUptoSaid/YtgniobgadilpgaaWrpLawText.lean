/-
  The walks of the helpers of the law WrapBack: text, back.
-/
import Derived.Test.YtgniobgadilpgaaWrpRef2
import Derived.Test.YtgniobgadilpgaaWrpBackPlain
namespace Go.Proofs.Ytgniobgadilpgaa.wrp
open Go.RowKit Go.Proofs
open Go.Proofs.Ytgniobgadilpgaa.wid Go.Proofs.Ytgniobgadilpgaa.utf Go.Proofs.Ytgniobgadilpgaa.clu
set_option linter.unusedVariables false

set_option maxHeartbeats 2000000 in
theorem lawText_any (v : Value) (X : List TV) (w : World) (hv : Reads2 w v X) (hX : X.length ≤ 1099511627776) (hS : (catL X).length ≤ 35184372088832) : Calls Try.prog 27 #[v] w fun e w' => e = .returned (.string (joinT X)) ∧ Below w.heap.size w w' := by
  obtain ⟨i0, hi, hz0, hz1, hz2⟩ := info_parts info_byte
  obtain ⟨a, cap, rfl, ha⟩ := hv
  have HA := run.hid ha
  clear ha
  have HT := run.hid (fun i => @catL_take X i)
  have HL := run.hid (fun i => catL_take_le X i)
  have HEND := run.hid (show X.take X.length = X from List.take_of_length_le (Nat.le_refl _))
  have HJ : Hid (joinT X = ⟨(catL X).toArray⟩) := rfl
  generalize joinT X = jt at *
  generalize hN : X.length = N at *
  go_enter Try.func27, Try.ntmps27
  go_wp2
  go_loopw [3, 4] (fun vb vi wr => ∃ i : Nat, i ≤ N ∧ vi = .int .i64 i ∧ wr.ownsRow w.heap.size 5 1 vb (catL (X.take i)).length (Lib.byteCells (catL (X.take i))) ∧ Below w.heap.size w wr) (fun _ vi _ => ((N : Int) - intOf vi).toNat)
  case atStart => exact ⟨0, by omega, rfl, World.ownsRow_nil _ _ _ _, Below.refl _ _⟩
  case round =>
    obtain ⟨i, hi', rfl, hown, hbel⟩ := hrel
    have hbd := HL.out i
    by_cases hlt : i < N
    · obtain ⟨b1, o1, rfl, hlb1, hx0, hx1⟩ := HA.out i hlt
      replace hx0 := (hbel.cell (p := ⟨b1, o1 + i * 2, none⟩) hlb1).trans hx0
      clear hx1
      have HTi := run.hid (HT.out i (by omega))
      have hle := HL.out (i + 1)
      rw [HTi.out, List.length_append] at hle
      unfold t0 at HTi hle
      generalize X.getD i (ByteArray.empty, 0) = q at *
      obtain ⟨qs, qw⟩ := q
      dsimp only at hx0 HTi hle
      have e2 : qs.data.toList.length = qs.size := rfl
      rw [e2] at hle
      clear e2
      have hsz1 := hbel.size
      have HCN : Hid (catL (X.take (i + 1)) = catL (X.take i) ++ qs.data.toList) := HTi
      generalize catL (X.take i) = tk at *
      clear HA HT HL hN HEND HJ HTi
      go_wp2_with (at_builtin; refine Lib.wpList_append_own_string _ rfl _ _ 41 9 rfl w.heap.size 5 i0 Try.underlying41 Try.underlying9 hi hz0 hz1 hz2 _ _ _ rfl hown _ rfl (by unfold maxLen; omega) (by omega) hsz1 ?_)
      intro v' w3 hown3 hgrow hnil
      have hbel3 := run.below_append hbel hown hgrow hsz1
      rw [Lib.strCells_eq, ← Lib.byteCells_append, show tk.length + qs.size = (tk ++ qs.data.toList).length by rw [List.length_append]; rfl, ← HCN.out] at hown3
      clear hown hgrow hnil hbel hx0
      go_wp2
      go_roundw
      case rel => exact ⟨i + 1, by omega, by go_num, hown3, hbel3⟩
      case measure => simp [intOf]; omega
    · obtain rfl : i = N := by omega
      rw [HEND.out] at hown
      have hconv := conv_bytes hown
      rw [← HJ.out] at hconv
      clear hown hbd HA HT HL hN HEND HJ
      go_wp2
      go_ret
      exact ⟨rfl, hbel⟩

def strB (fin : Nat) : ByteArray := ⟨(backL fin).toArray⟩
theorem lawBack_any (t : ByteArray) (wd : Int) (fin : Nat) (l : ByteArray) (hf : fin ≤ 3) (w : World) : Calls Try.prog 26 #[.agg #[.string t, .int .i64 wd, .int .i8 fin, .string l]] w fun e w' => e = .returned (.string (strB fin)) ∧ Below w.heap.size w w' := by
  have hbel := run.below_one w (.cells #[.string t, .int .i64 wd, .int .i8 fin, .string l] 43)
  have hnew := run.heap_new w (.cells #[.string t, .int .i64 wd, .int .i8 fin, .string l] 43)
  have hc2 : (w.alloc (.cells #[.string t, .int .i64 wd, .int .i8 fin, .string l] 43)).cell? ⟨w.heap.size, 2, none⟩ = some (.int .i8 fin) := by simp only [World.cell?]; rw [hnew]; rfl
  clear hnew
  rcases (show fin = 0 ∨ fin = 1 ∨ fin = 2 ∨ fin = 3 from by omega) with rfl | rfl | rfl | rfl
  all_goals
    go_enter Try.func26, Try.ntmps26
    go_wp2
    go_ret
    exact ⟨rfl, hbel⟩


end Go.Proofs.Ytgniobgadilpgaa.wrp
