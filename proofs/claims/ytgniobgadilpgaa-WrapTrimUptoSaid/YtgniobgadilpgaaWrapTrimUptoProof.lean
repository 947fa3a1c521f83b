/-
  Proved here: 'WrapTrimUptoSaid': Trim is the document's, for any text and mark (of bulk at most 1048576 together), any width and any place.
-/
import Derived.Test.YtgniobgadilpgaaRows
import Derived.Test.YtgniobgadilpgaaWrpLawTrim
import Derived.Test.YtgniobgadilpgaaBulk
import Derived.ProofKit
import Derived.OpenShut
import Derived.SizedLaws
import Derived.Lib.SmallJoins
import Derived.JoinedCond
import Derived.Deep.CondSized
namespace Go.Proofs.Ytgniobgadilpgaa.wrapTrim
open Go.ChangeShapes Go.WideShapes Go.ChangeAt Go.RowKit
open Go.ChangeMaps (open_string shut_string)
set_option linter.unusedVariables false

theorem own : ownKnob Try.prog.godebug = none := by kernel_rfl
theorem laidOut : laidOutB Try.prog = true := by kernel_rfl

set_option maxRecDepth 100000 in
theorem contract (H : Type) (enc : TypeId × Value → H) (W : World) (base : Nat) (args : Array Value) (ds gs : List (DataW H)) (before : List MemPlace)
    (hval0 : ∀ (j : Nat) t v, Try.f6.params[j]? = some t → args[j]? = some v → Value.okWide Try.prog W .any base t v)
    (hW : DataW.Whole enc Try.prog Try.f6.params.toList Rows.wrapTrimSpec.vars false W args.toList ds gs before) (hk0 : Rows.uptoSmall H (ds ++ gs) = true) :
    Calls Try.prog 6 args W fun e W' => ∃ v, e = .returned v ∧ Rows.wrapTrimSpec.post enc Try.prog Try.f6 false true false false W args v W' := by
  have hval : ∀ (j : Nat) t v, Try.f6.params[j]? = some t → args[j]? = some v → Value.okWide Try.prog W .any base t v := hval0
  have hW' := hW
  obtain ⟨p, q, hA0, hV, rfl, hfz, hnd⟩ := hW
  have hA : DataW.TrodAll enc Try.prog W 0 (fun _ => true) true Try.f6.params.toList args.toList ds p := hA0
  rw [Try.params6] at hA hval
  obtain ⟨v0, vs0, d0, ds0, p0, q0, hargs, hds0, rfl, h0, r0⟩ := trodAll_cons hA
  obtain ⟨v1, vs1, d1, ds1, p1, q1, rfl, rfl, rfl, h1, r1⟩ := trodAll_cons r0
  obtain ⟨rfl, rfl, rfl⟩ := trodAll_nil r1
  have hds : ds = [d0, d1] := hds0
  clear hds0
  obtain rfl : args = #[v0, v1] := by cases args; simp_all
  obtain ⟨rfl, rfl⟩ := trodVars_none hV
  rw [List.append_nil] at hk0
  have hk := bulks.bound hk0
  clear hk0
  have k0 := h0
  have lt0 : ∀ x ∈ p0, x.block < W.heap.size := by obtain ⟨m, hm⟩ := k0; exact DataW.trod_lt m _ _ _ hm
  obtain ⟨s0, rfl, hd0, hp0, hs0⟩ := open_string Try.underlying9 (hval 0 9 v0 rfl rfl) h0
  subst hd0
  have hz0 : s0.size ≤ 1048576 := by
    have h1 := bulks.part_le (H := H) (d := .lit (.string s0.data.toList)) (l := ds) (by rw [hds]; simp)
    rw [bulks.string_eq] at h1
    have h2 : s0.data.toList.length = s0.size := rfl
    omega
  have k1 := h1
  have lt1 : ∀ x ∈ p1, x.block < W.heap.size := by obtain ⟨m, hm⟩ := k1; exact DataW.trod_lt m _ _ _ hm
  obtain ⟨u0, u1, u2, y0, y1, y2, m, rfl, hd1, hp1, t0, t1, t2⟩ := Joins.open_agg3 Try.underlying36 (by kernel_rfl) (by kernel_rfl) (hval 1 36 v1 rfl rfl) h1
  obtain ⟨a0, e0, f0, -⟩ := DataW.trod_int Try.underlying3 t0
  obtain ⟨s1, e1, f1, -⟩ := DataW.trod_string Try.underlying9 t1
  obtain ⟨a2, e2, f2, -⟩ := DataW.trod_int Try.underlying29 t2
  simp only [List.cons.injEq, and_true] at e0 e1 e2
  subst e0 e1 e2 f0 f1 f2
  subst hd1
  have hz1 : s1.size ≤ 1048576 := by
    have h1 := bulks.part_le (H := H) (d := .agg [.lit (.int .i64 a0), .lit (.string s1.data.toList), .lit (.int .i8 a2)]) (l := ds) (by rw [hds]; simp)
    have h3 := bulks.part_le (H := H) (d := .lit (.string s1.data.toList)) (l := [.lit (.int .i64 a0), .lit (.string s1.data.toList), .lit (.int .i8 a2)]) (by simp)
    rw [bulks.string_eq] at h3
    have h4 : Rows.uptoBulk (DataW.agg (H := H) [.lit (.int .i64 a0), .lit (.string s1.data.toList), .lit (.int .i8 a2)]) = Rows.uptoBulkAll (H := H) [.lit (.int .i64 a0), .lit (.string s1.data.toList), .lit (.int .i8 a2)] + 1 := by simp [Rows.uptoBulk, Nat.add_comm]
    have h2 : s1.data.toList.length = s1.size := rfl
    omega
  clear hA0 hval0
  refine (wrp.lawTrim_any s0 a0 s1 a2 W hz0 hz1).mono fun e W' ⟨he, bel⟩ => ?_
  subst he
  subst hds
  exact ⟨_, rfl, _, _, _, [], _, [], hW', trodAll_mk1 (shut_bool Try.underlying4 _), (trodAll_cons_mk (Below.trod laidOut (by kernel_rfl) (of_decide_eq_true (by kernel_rfl)) k0 bel lt0) (trodAll_cons_mk (Below.trod laidOut (by kernel_rfl) (of_decide_eq_true (by kernel_rfl)) k1 bel lt1) trodAll_mk0)), rfl, bel.frame _, fun h => by cases h⟩

set_option maxRecDepth 100000 in
theorem lifted (os : Os) (started : os.Started) (H : Type) (enc : TypeId × Value → H) (F : Stop.Interp) :
    ReturnsInHanded {} Try.checked os 6 .any ((Rows.OpenSpec.upto Rows.wrapTrimSpec).pre6 enc Try.prog Try.f6 Rows.wrapTrimUptoRow.domain false) (((Rows.OpenSpec.upto Rows.wrapTrimSpec).at F).post enc Try.prog Try.f6 false true false false) := by
  refine returnsInHanded_of_cond (C := Try.checked) (s := Rows.OpenSpec.upto Rows.wrapTrimSpec) (k := Rows.uptoSmall) rfl own started (by kernel_rfl) Try.func6
    (OpenSpec.witness (enc := enc) (C := Try.checked) (s := Rows.OpenSpec.upto Rows.wrapTrimSpec) (k := Rows.uptoSmall) rfl false ⟨#[], #[.string ByteArray.empty, .agg #[.int .i64 0, .string ByteArray.empty, .int .i8 0]], []⟩ 8 (by kernel_rfl) (by kernel_rfl) (by kernel_rfl)
      (x := ([.lit (.string []), .agg [.lit (.int .i64 0), .lit (.string []), .lit (.int .i8 0)]], [], [])) (by kernel_rfl) rfl (by kernel_rfl)) ?_
  intro W base args ds gs before hval hW _ hk _
  exact contract H enc W base args ds gs before hval hW hk

theorem over : Rows.wrapTrimUptoRow.holds Try.pinned (Rows.OpenSpec.upto Rows.wrapTrimSpec) :=
  OpenClaim.holds_of_cond 6 Try.f6 rfl rfl rfl rfl rfl rfl rfl ⟨rfl, rfl, rfl, rfl, rfl⟩ rfl rfl rfl rfl rfl (by kernel_rfl) Try.func6 (by kernel_rfl)
    (of_decide_eq_true (by kernel_rfl)) (by unfold Func.isWrapper; first | (rw [if_pos (by decide +kernel)]; kernel_rfl) | (rw [if_neg (by decide +kernel)]; exact ⟨rfl, rfl⟩))
    (fun os started H enc _ F => lifted os started H enc F)

theorem proved : Rows.WrapTrimUptoSaid := over
#print axioms proved
end Go.Proofs.Ytgniobgadilpgaa.wrapTrim
