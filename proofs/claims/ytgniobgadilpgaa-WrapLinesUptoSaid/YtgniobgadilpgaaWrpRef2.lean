/-
  The walks of the document's layer wrap: Text, Blanks.
-/
import Derived.Test.YtgniobgadilpgaaWrpRef
import Derived.Test.YtgniobgadilpgaaWrpAlign
namespace Go.Proofs.Ytgniobgadilpgaa.wrp
open Go.RowKit Go.Proofs
open Go.Proofs.Ytgniobgadilpgaa.wid Go.Proofs.Ytgniobgadilpgaa.utf Go.Proofs.Ytgniobgadilpgaa.clu
set_option linter.unusedVariables false

theorem bv_bytes (l : List UInt8) : bv (l.map UInt8.toNat) = Lib.byteCells l := by
  unfold bv Lib.byteCells
  rw [List.map_map]; rfl
theorem str_bytes (l : List UInt8) : str (l.map UInt8.toNat) = ⟨l.toArray⟩ := by
  unfold str
  rw [List.map_map]
  have e : l.map (UInt8.ofNat ∘ UInt8.toNat) = l := by
    conv => rhs; rw [← List.map_id l]
    apply List.map_congr_left
    intro a _
    simp
  rw [e]
theorem conv_bytes {B : Nat} {w : World} {v : Value} {l : List UInt8} (h : w.ownsRow B 5 1 v l.length (Lib.byteCells l)) :
    (convert 41 9 v).run Try.prog w = .ok (.string ⟨l.toArray⟩) w := by
  have h2 : w.ownsRow B 5 1 v (l.map UInt8.toNat).length (bv (l.map UInt8.toNat)) := by rw [bv_bytes, List.length_map]; exact h
  have h3 := conv_own h2
  rw [str_bytes] at h3
  exact h3

set_option maxHeartbeats 2000000 in
theorem refJoin_any (v : Value) (X : List TV) (w : World) (hv : Reads2 w v X) (hX : X.length ≤ 1099511627776) (hS : (catL X).length ≤ 35184372088832) : Calls Try.prog 58 #[v] w fun e w' => e = .returned (.string (joinT X)) ∧ Below w.heap.size w w' := by
  obtain ⟨i0, hi, hz0, hz1, hz2⟩ := info_parts info_byte
  obtain ⟨a, cap, rfl, ha⟩ := hv
  have HA := run.hid ha
  clear ha
  have HT := run.hid (fun i => @catL_take X i)
  have HL := run.hid (fun i => catL_take_le X i)
  have HEND := run.hid (show X.take X.length = X from List.take_of_length_le (Nat.le_refl _))
  have HJ : Hid (joinT X = ⟨(catL X).toArray⟩) := rfl
  generalize joinT X = jt at *
  generalize hN : X.length = N at *
  go_enter Try.func58, Try.ntmps58
  go_wp2
  go_loopw [3, 4] (fun vb vi wr => ∃ i : Nat, i ≤ N ∧ vi = .int .i64 i ∧ wr.ownsRow w.heap.size 5 1 vb (catL (X.take i)).length (Lib.byteCells (catL (X.take i))) ∧ Below w.heap.size w wr) (fun _ vi _ => ((N : Int) - intOf vi).toNat)
  case atStart => exact ⟨0, by omega, rfl, World.ownsRow_nil _ _ _ _, Below.refl _ _⟩
  case round =>
    obtain ⟨i, hi', rfl, hown, hbel⟩ := hrel
    have hbd := HL.out i
    by_cases hlt : i < N
    · obtain ⟨b1, o1, rfl, hlb1, hx0, hx1⟩ := HA.out i hlt
      replace hx0 := (hbel.cell (p := ⟨b1, o1 + i * 2, none⟩) hlb1).trans hx0
      clear hx1
      have HTi := run.hid (HT.out i (by omega))
      have hle := HL.out (i + 1)
      rw [HTi.out, List.length_append] at hle
      unfold t0 at HTi hle
      generalize X.getD i (ByteArray.empty, 0) = q at *
      obtain ⟨qs, qw⟩ := q
      dsimp only at hx0 HTi hle
      have e2 : qs.data.toList.length = qs.size := rfl
      rw [e2] at hle
      clear e2
      have hsz1 := hbel.size
      have HCN : Hid (catL (X.take (i + 1)) = catL (X.take i) ++ qs.data.toList) := HTi
      generalize catL (X.take i) = tk at *
      clear HA HT HL hN HEND HJ HTi
      go_wp2_with (at_builtin; refine Lib.wpList_append_own_string _ rfl _ _ 41 9 rfl w.heap.size 5 i0 Try.underlying41 Try.underlying9 hi hz0 hz1 hz2 _ _ _ rfl hown _ rfl (by unfold maxLen; omega) (by omega) hsz1 ?_)
      intro v' w3 hown3 hgrow hnil
      have hbel3 := run.below_append hbel hown hgrow hsz1
      rw [Lib.strCells_eq, ← Lib.byteCells_append, show tk.length + qs.size = (tk ++ qs.data.toList).length by rw [List.length_append]; rfl, ← HCN.out] at hown3
      clear hown hgrow hnil hbel hx0
      go_wp2
      go_roundw
      case rel => exact ⟨i + 1, by omega, by go_num, hown3, hbel3⟩
      case measure => simp [intOf]; omega
    · obtain rfl : i = N := by omega
      rw [HEND.out] at hown
      have hconv := conv_bytes hown
      rw [← HJ.out] at hconv
      clear hown hbd HA HT HL hN HEND HJ
      go_wp2
      go_ret
      exact ⟨rfl, hbel⟩

theorem blanksL_snoc (n : Nat) : blanksL n ++ [32] = blanksL (n + 1) := by unfold blanksL; rw [List.replicate_succ']
theorem blanksL_len (n : Nat) : (blanksL n).length = n := by unfold blanksL; rw [List.length_replicate]

set_option maxHeartbeats 2000000 in
theorem refBlanks_any (n : Nat) (w : World) (hn : n ≤ 35184372088832) : Calls Try.prog 57 #[.int .i64 n] w fun e w' => e = .returned (.string (blanksT n)) ∧ Below w.heap.size w w' := by
  obtain ⟨i0, hi, hz0, hz1, hz2⟩ := info_parts info_byte
  have HJ : Hid (blanksT n = ⟨(blanksL n).toArray⟩) := rfl
  generalize blanksT n = jt at *
  go_enter Try.func57, Try.ntmps57
  go_wp2
  go_loopw [3, 4] (fun vb vi wr => ∃ i : Nat, i ≤ n ∧ vi = .int .i64 i ∧ wr.ownsRow w.heap.size 5 1 vb i (Lib.byteCells (blanksL i)) ∧ Below w.heap.size w wr) (fun _ vi _ => ((n : Int) - intOf vi).toNat)
  case atStart => exact ⟨0, by omega, rfl, World.ownsRow_nil _ _ _ _, Below.refl _ _⟩
  case round =>
    obtain ⟨i, hi', rfl, hown, hbel⟩ := hrel
    by_cases hlt : i < n
    · have hsz1 := hbel.size
      have HSN := run.hid (blanksL_snoc i)
      go_wp2_with (at_builtin; refine run.wpList_append_any _ rfl _ _ 41 rfl w.heap.size 5 i0 (.int .u8 0) 1 1 Try.underlying41 hi hz0 hz1 hz2 rfl (by decide) _ i _ rfl (hown.alloc _) _ 1 [.int .u8 32] rfl (run.readsN_new wr [.int .u8 32] 1 1 _ rfl) (by intro u hu; simp only [List.mem_singleton] at hu; subst hu; rfl) (by unfold maxLen; omega) (by omega) (by simp; omega) ?_)
      intro v' w3 hown3 hgrow hold hstep
      have hbel3 := run.below_append (hbel.alloc hsz1 _) (hown.alloc _) hgrow (by simp; omega)
      have h3 : w3.ownsRow w.heap.size 5 1 v' (i + 1) (Lib.byteCells (blanksL (i + 1))) := by
        rw [← HSN.out, Lib.byteCells_append]; exact hown3
      clear hown hgrow hold hstep hbel hown3
      go_wp2
      go_roundw
      case rel => exact ⟨i + 1, by omega, by go_num, h3, hbel3⟩
      case measure => simp [intOf]; omega
    · obtain rfl : i = n := by omega
      have hconv := conv_bytes (l := blanksL i) (by rw [blanksL_len]; exact hown)
      rw [← HJ.out] at hconv
      clear hown HJ
      go_wp2
      go_ret
      exact ⟨rfl, hbel⟩

end Go.Proofs.Ytgniobgadilpgaa.wrp
