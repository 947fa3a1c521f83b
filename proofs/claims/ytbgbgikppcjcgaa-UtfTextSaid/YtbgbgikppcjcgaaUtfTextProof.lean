/-
  Proved here: 'UtfTextSaid': of every list of numbers the program tells the bytes that the document tells, and the list stays. No condition.
-/
import Derived.Test.YtbgbgikppcjcgaaRows
import Derived.Test.YtbgbgikppcjcgaaUtfLawText
import Derived.ProofKit
import Derived.OpenShut
import Derived.SizedLaws
namespace Go.Proofs.Ytbgbgikppcjcgaa.utfText
open Go.ChangeShapes Go.WideShapes Go.ChangeAt Go.RowKit
open Go.ChangeMaps (open_string shut_string)
set_option linter.unusedVariables false

theorem own : ownKnob Try.prog.godebug = none := by kernel_rfl
theorem laidOut : laidOutB Try.prog = true := by kernel_rfl

set_option maxRecDepth 100000 in
theorem lifted (os : Os) (started : os.Started) (H : Type) (enc : TypeId × Value → H) :
    ReturnsInHanded {} Try.checked os 5 .any (Rows.utfTextSpec.pre6 enc Try.prog Try.f5 Rows.utfTextRow.domain false) (Rows.utfTextSpec.post enc Try.prog Try.f5 false true false false) := by
  refine returnsInHanded_of_change_sized (C := Try.checked) own started (by kernel_rfl) Try.func5
    (ChangeSpec.witness6 (enc := enc) (C := Try.checked) false ⟨#[], #[.slice none 0 0], []⟩ 8 (by kernel_rfl) (by kernel_rfl) (by kernel_rfl) (by kernel_rfl)) ?_
  intro W base args ds gs before hval0 hW _ hsz0 _
  have hsz : (DataW.weightsEach Try.prog (Try.f5.params.toList ++ Rows.utfTextSpec.plain.varTypes Try.prog) (ds ++ gs)).all (· ≤ reachBytes) = true := hsz0
  clear hsz0
  have hval : ∀ (j : Nat) t v, Try.f5.params[j]? = some t → args[j]? = some v → Value.okWide Try.prog W .any base t v := hval0
  have hW' := hW
  obtain ⟨p, q, hA0, hV, rfl, hfz, hnd⟩ := hW
  have hA : DataW.TrodAll enc Try.prog W 0 (fun _ => true) true Try.f5.params.toList args.toList ds p := hA0
  rw [Try.params5] at hA hval hsz
  obtain ⟨v0, vs0, d0, ds0, p0, q0, hargs, hds0, rfl, h0, r0⟩ := trodAll_cons hA
  obtain ⟨rfl, rfl, rfl⟩ := trodAll_nil r0
  have hds : ds = [d0] := hds0
  clear hds0
  obtain rfl : args = #[v0] := by cases args; simp_all
  obtain ⟨rfl, rfl⟩ := trodVars_none hV
  rw [List.append_nil] at hsz
  have k0 := h0
  have lt0 : ∀ x ∈ p0, x.block < W.heap.size := by obtain ⟨m, hm⟩ := k0; exact DataW.trod_lt m _ _ _ hm
  obtain ⟨a0, len0, cap0, rfl⟩ := okWide_slice Try.underlying32 (hval 0 32 v0 rfl rfl)
  obtain ⟨z0, w0, wz0, hz0⟩ : ∃ zs : List Int, run.Reads W (.slice a0 len0 cap0) (zs.map (Value.int .i32)) ∧ (∀ n ∈ zs, (Lit.int .i32 n).wf = true) ∧ zs.length * 4 ≤ 140737488351232 := by
    obtain ⟨fuel, hf⟩ := h0
    rcases open_ints Try.underlying32 Try.underlying21 (by kernel_rfl) hf with ⟨hcs, hx⟩ | ⟨x, l, c, zs, hcs, _, hl, hm, hz, hx, hcell, hwz⟩
    · simp [Value.cells] at hcs
      obtain ⟨rfl, rfl, rfl⟩ := hcs
      exact ⟨[], ⟨none, 0, rfl, fun h => absurd rfl h, fun _ => rfl⟩, by simp, by simp⟩
    · simp [Value.cells] at hcs
      obtain ⟨rfl, rfl, rfl⟩ := hcs
      have hlen : zs.length = cap0 := by simpa using hz
      have hmin : (zs.take len0).length = len0 := by simp; omega
      refine ⟨zs.take len0, ?_, fun n hn => hwz n (List.mem_of_mem_take hn), ?_⟩
      · refine ⟨some x, cap0, by simp; omega, fun hne => ?_, fun h => by cases h⟩
        have h0 : 0 < len0 := by
          rcases Nat.eq_zero_or_pos len0 with h | h
          · subst h; simp at hne
          · exact h
        obtain ⟨b, off, spot⟩ := x
        have hc := hcell 0 (by omega)
        have hspot : spot = none := by simpa [Addr.add] using World.cell?_spot hc
        subst hspot
        have hc2 : ∀ i, i < zs.length → W.cell? ⟨b, off + i, none⟩ = some (.int .i32 (zs.getD i 0)) := by
          intro i hi
          have := hcell i hi
          unfold Addr.add at this
          split at this
          · rename_i h; subst h; exact this
          · exact this
        refine ⟨b, off, rfl, run.lt_of_cell (hc2 0 (by omega)), ?_⟩
        intro i u hi
        have hi2 : i < len0 := by
          rcases Nat.lt_or_ge i len0 with h | h
          · exact h
          · rw [List.getElem?_eq_none (by simp; omega)] at hi; cases hi
        rw [List.getElem?_map, List.getElem?_take_of_lt hi2] at hi
        rw [hc2 i (by omega)]
        simpa [List.getD_eq_getElem?_getD, List.getElem?_eq_getElem (show i < zs.length by omega)] using hi
      · rw [hmin]
        have h1 := sized_slice hsz (j := 0) (t := 32) (e := 21) (elems := lits .i32 (zs.take len0)) (spare := lits .i32 (zs.drop len0)) rfl (by rw [hds]; exact congrArg some (congrArg Prod.fst hx)) Try.underlying32
        have hb : Try.prog.bytesOf 21 = 4 := by kernel_rfl
        rw [hb] at h1
        simp only [lits, List.length_map, reachBytes, List.length_take, List.length_drop] at h1
        have hc : len0 ≤ zs.length := by omega
        have hs : min len0 zs.length + (zs.length - len0) = zs.length := by omega
        rw [hs] at h1
        have := Nat.mul_le_mul_right 4 hc
        omega
  clear hA0 hval0
  refine (utf.lawText_any (.slice a0 len0 cap0) z0 W w0 hz0).mono fun e W' ⟨he, bel⟩ => ?_
  subst he
  subst hds
  exact ⟨_, rfl, _, _, _, [], _, [], hW', trodAll_mk1 (shut_bool Try.underlying4 _), (trodAll_cons_mk (Below.trod laidOut (by kernel_rfl) (of_decide_eq_true (by kernel_rfl)) k0 bel lt0) trodAll_mk0), rfl, bel.frame _, fun h => by cases h⟩

theorem over : Rows.utfTextRow.holds Try.pinned (OpenSpec.ofChange Rows.utfTextSpec) :=
  OpenClaim.holds_of_wide 5 Try.f5 rfl rfl rfl rfl rfl rfl rfl ⟨rfl, rfl, rfl, rfl, rfl⟩ rfl rfl rfl rfl rfl (by kernel_rfl) Try.func5 (by kernel_rfl)
    (of_decide_eq_true (by kernel_rfl)) (by unfold Func.isWrapper; first | (rw [if_pos (by decide +kernel)]; kernel_rfl) | (rw [if_neg (by decide +kernel)]; exact ⟨rfl, rfl⟩))
    (fun os started H enc _ => lifted os started H enc)

theorem proved : Rows.UtfTextSaid := over
#print axioms proved
end Go.Proofs.Ytbgbgikppcjcgaa.utfText
