/-
  Proved here: 'UtfJoinsUptoSaid': behind what is clean any bytes are read as they would be alone. Condition: what is read is of bulk at most 1048576.
-/
import Derived.Test.YtbgbgikppcjcgaaRows
import Derived.Test.YtbgbgikppcjcgaaUtfLawJoins
import Derived.Test.YtbgbgikppcjcgaaBulk
import Derived.ProofKit
import Derived.OpenShut
import Derived.SizedLaws
import Derived.JoinedCond
import Derived.Deep.CondSized
namespace Go.Proofs.Ytbgbgikppcjcgaa.utfJoins
open Go.ChangeShapes Go.WideShapes Go.ChangeAt Go.RowKit
open Go.ChangeMaps (open_string shut_string)
set_option linter.unusedVariables false

theorem own : ownKnob Try.prog.godebug = none := by kernel_rfl
theorem laidOut : laidOutB Try.prog = true := by kernel_rfl

set_option maxRecDepth 100000 in
theorem contract (H : Type) (enc : TypeId × Value → H) (W : World) (base : Nat) (args : Array Value) (ds gs : List (DataW H)) (before : List MemPlace)
    (hval0 : ∀ (j : Nat) t v, Try.f9.params[j]? = some t → args[j]? = some v → Value.okWide Try.prog W .any base t v)
    (hW : DataW.Whole enc Try.prog Try.f9.params.toList Rows.utfJoinsSpec.vars false W args.toList ds gs before) (hk0 : Rows.uptoSmall H (ds ++ gs) = true) :
    Calls Try.prog 9 args W fun e W' => ∃ v, e = .returned v ∧ Rows.utfJoinsSpec.post enc Try.prog Try.f9 false true false false W args v W' := by
  have hval : ∀ (j : Nat) t v, Try.f9.params[j]? = some t → args[j]? = some v → Value.okWide Try.prog W .any base t v := hval0
  have hW' := hW
  obtain ⟨p, q, hA0, hV, rfl, hfz, hnd⟩ := hW
  have hA : DataW.TrodAll enc Try.prog W 0 (fun _ => true) true Try.f9.params.toList args.toList ds p := hA0
  rw [Try.params9] at hA hval
  obtain ⟨v0, vs0, d0, ds0, p0, q0, hargs, hds0, rfl, h0, r0⟩ := trodAll_cons hA
  obtain ⟨v1, vs1, d1, ds1, p1, q1, rfl, rfl, rfl, h1, r1⟩ := trodAll_cons r0
  obtain ⟨rfl, rfl, rfl⟩ := trodAll_nil r1
  have hds : ds = [d0, d1] := hds0
  clear hds0
  obtain rfl : args = #[v0, v1] := by cases args; simp_all
  obtain ⟨rfl, rfl⟩ := trodVars_none hV
  rw [List.append_nil] at hk0
  have hk := bulks.bound hk0
  clear hk0
  have k0 := h0
  have lt0 : ∀ x ∈ p0, x.block < W.heap.size := by obtain ⟨m, hm⟩ := k0; exact DataW.trod_lt m _ _ _ hm
  obtain ⟨a0, len0, cap0, rfl⟩ := okWide_slice Try.underlying32 (hval 0 32 v0 rfl rfl)
  obtain ⟨z0, w0, wz0, hz0⟩ : ∃ zs : List Int, run.Reads W (.slice a0 len0 cap0) (zs.map (Value.int .i32)) ∧ (∀ n ∈ zs, (Lit.int .i32 n).wf = true) ∧ zs.length ≤ 1048576 := by
    obtain ⟨fuel, hf⟩ := h0
    rcases open_ints Try.underlying32 Try.underlying21 (by kernel_rfl) hf with ⟨hcs, hx⟩ | ⟨x, l, c, zs, hcs, _, hl, hm, hz, hx, hcell, hwz⟩
    · simp [Value.cells] at hcs
      obtain ⟨rfl, rfl, rfl⟩ := hcs
      exact ⟨[], ⟨none, 0, rfl, fun h => absurd rfl h, fun _ => rfl⟩, by simp, by simp⟩
    · simp [Value.cells] at hcs
      obtain ⟨rfl, rfl, rfl⟩ := hcs
      have hlen : zs.length = cap0 := by simpa using hz
      have hmin : (zs.take len0).length = len0 := by simp; omega
      refine ⟨zs.take len0, ?_, fun n hn => hwz n (List.mem_of_mem_take hn), ?_⟩
      · refine ⟨some x, cap0, by simp; omega, fun hne => ?_, fun h => by cases h⟩
        have h0 : 0 < len0 := by
          rcases Nat.eq_zero_or_pos len0 with h | h
          · subst h; simp at hne
          · exact h
        obtain ⟨b, off, spot⟩ := x
        have hc := hcell 0 (by omega)
        have hspot : spot = none := by simpa [Addr.add] using World.cell?_spot hc
        subst hspot
        have hc2 : ∀ i, i < zs.length → W.cell? ⟨b, off + i, none⟩ = some (.int .i32 (zs.getD i 0)) := by
          intro i hi
          have := hcell i hi
          unfold Addr.add at this
          split at this
          · rename_i h; subst h; exact this
          · exact this
        refine ⟨b, off, rfl, run.lt_of_cell (hc2 0 (by omega)), ?_⟩
        intro i u hi
        have hi2 : i < len0 := by
          rcases Nat.lt_or_ge i len0 with h | h
          · exact h
          · rw [List.getElem?_eq_none (by simp; omega)] at hi; cases hi
        rw [List.getElem?_map, List.getElem?_take_of_lt hi2] at hi
        rw [hc2 i (by omega)]
        simpa [List.getD_eq_getElem?_getD, List.getElem?_eq_getElem (show i < zs.length by omega)] using hi
      · rw [hmin]
        have h1 := bulks.part_le (H := H) (d := d0) (l := ds) (by rw [hds]; simp)
        simp only [Prod.mk.injEq] at hx
        rw [hx.1] at h1
        have h2 := bulks.slice_le (H := H) ((zs.take len0).map fun n => .lit (.int .i32 n)) ((zs.drop len0).map fun n => .lit (.int .i32 n))
        simp only [List.length_map] at h2
        have h3 : Rows.uptoBulk (DataW.slice ((zs.take len0).map fun n => (DataW.lit (.int .i32 n) : DataW H)) ((zs.drop len0).map fun n => .lit (.int .i32 n))) ≤ Rows.uptoBulkAll ds := h1
        omega
  have k1 := h1
  have lt1 : ∀ x ∈ p1, x.block < W.heap.size := by obtain ⟨m, hm⟩ := k1; exact DataW.trod_lt m _ _ _ hm
  obtain ⟨s1, rfl, hd1, hp1, hs1⟩ := open_string Try.underlying9 (hval 1 9 v1 rfl rfl) h1
  subst hd1
  have hz1 : s1.size ≤ 1048576 := by
    have h1 := bulks.part_le (H := H) (d := .lit (.string s1.data.toList)) (l := ds) (by rw [hds]; simp)
    rw [bulks.string_eq] at h1
    have h2 : s1.data.toList.length = s1.size := rfl
    omega
  clear hA0 hval0
  refine (utf.lawJoins_any (.slice a0 len0 cap0) z0 s1 W w0 hz0 hz1).mono fun e W' ⟨he, bel⟩ => ?_
  subst he
  subst hds
  exact ⟨_, rfl, _, _, _, [], _, [], hW', trodAll_mk1 (shut_bool Try.underlying4 _), (trodAll_cons_mk (Below.trod laidOut (by kernel_rfl) (of_decide_eq_true (by kernel_rfl)) k0 bel lt0) (trodAll_cons_mk (Below.trod laidOut (by kernel_rfl) (of_decide_eq_true (by kernel_rfl)) k1 bel lt1) trodAll_mk0)), rfl, bel.frame _, fun h => by cases h⟩

set_option maxRecDepth 100000 in
theorem lifted (os : Os) (started : os.Started) (H : Type) (enc : TypeId × Value → H) (F : Stop.Interp) :
    ReturnsInHanded {} Try.checked os 9 .any ((Rows.OpenSpec.upto Rows.utfJoinsSpec).pre6 enc Try.prog Try.f9 Rows.utfJoinsUptoRow.domain false) (((Rows.OpenSpec.upto Rows.utfJoinsSpec).at F).post enc Try.prog Try.f9 false true false false) := by
  refine returnsInHanded_of_cond (C := Try.checked) (s := Rows.OpenSpec.upto Rows.utfJoinsSpec) (k := Rows.uptoSmall) rfl own started (by kernel_rfl) Try.func9
    (OpenSpec.witness (enc := enc) (C := Try.checked) (s := Rows.OpenSpec.upto Rows.utfJoinsSpec) (k := Rows.uptoSmall) rfl false ⟨#[], #[.slice none 0 0, .string ByteArray.empty], []⟩ 8 (by kernel_rfl) (by kernel_rfl) (by kernel_rfl)
      (x := ([.nil, .lit (.string [])], [], [])) (by kernel_rfl) rfl (by kernel_rfl)) ?_
  intro W base args ds gs before hval hW _ hk _
  exact contract H enc W base args ds gs before hval hW hk

theorem over : Rows.utfJoinsUptoRow.holds Try.pinned (Rows.OpenSpec.upto Rows.utfJoinsSpec) :=
  OpenClaim.holds_of_cond 9 Try.f9 rfl rfl rfl rfl rfl rfl rfl ⟨rfl, rfl, rfl, rfl, rfl⟩ rfl rfl rfl rfl rfl (by kernel_rfl) Try.func9 (by kernel_rfl)
    (of_decide_eq_true (by kernel_rfl)) (by unfold Func.isWrapper; first | (rw [if_pos (by decide +kernel)]; kernel_rfl) | (rw [if_neg (by decide +kernel)]; exact ⟨rfl, rfl⟩))
    (fun os started H enc _ F => lifted os started H enc F)

theorem proved : Rows.UtfJoinsUptoSaid := over
#print axioms proved
end Go.Proofs.Ytbgbgikppcjcgaa.utfJoins
