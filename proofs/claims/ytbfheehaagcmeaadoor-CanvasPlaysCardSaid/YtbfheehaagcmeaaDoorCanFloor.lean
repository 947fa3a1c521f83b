/-
  The walks of math.Floor and of the document's 'finite'.
-/
import Derived.Test.YtbfheehaagcmeaaDoorCanSparks
import Derived.Test.YtbfheehaagcmeaaDoorCanTurn
namespace Go.Proofs.YtbfheehaagcmeaaDoor.can
open Go.RowKit Go.Proofs Go.Proofs.YtbfheehaagcmeaaDoor.flo
set_option linter.unusedVariables false

theorem call_floor {x : Nat} (hx : numW D x = true) (w : World) : (callFunc 71 #[F x]).run Tryd.prog w = .ok (.value (F (floorW x))) w := by
  rw [run_callFunc_extern Tryd.func71 (by kernel_rfl) (by kernel_rfl) (by kernel_rfl) (e := Extern.MathFloor.toIntegral "math.archFloor" .down) (by kernel_rfl)]
  rcases (show rungW D x < D.infRung ∨ rungW D x = D.infRung by unfold numW at hx; simp at hx; omega) with h1 | h1
  · obtain ⟨m, i, e, -⟩ := read_fin D h1
    have hd : FloatKind.f64.decode x = .number (negW D x) m i := e
    have hf : floorW x = FloatKind.f64.encode ((FloatKind.f64.decode x).integral .down) := rfl
    have hk : Extern.MathFloor.toIntegral "math.archFloor" .down #[F x] = pure (F (FloatKind.f64.encode ((FloatKind.f64.decode x).integral .down))) := by
      have h0 : Extern.MathFloor.toIntegral "math.archFloor" .down #[F x] = Extern.MathFloor.toIntegral.match_1 (fun _ => Sem Value) (FloatKind.f64.decode x) (fun s t => _) (fun d => pure (F (FloatKind.f64.encode (d.integral .down)))) := rfl
      rw [h0, hd]
    rw [hk, hf]
    rfl
  · have e := read_inf D hfD h1
    have hd : FloatKind.f64.decode x = .infinity (negW D x) := e
    have hf : floorW x = FloatKind.f64.encode ((FloatKind.f64.decode x).integral .down) := rfl
    have hk : Extern.MathFloor.toIntegral "math.archFloor" .down #[F x] = pure (F (FloatKind.f64.encode ((FloatKind.f64.decode x).integral .down))) := by
      have h0 : Extern.MathFloor.toIntegral "math.archFloor" .down #[F x] = Extern.MathFloor.toIntegral.match_1 (fun _ => Sem Value) (FloatKind.f64.decode x) (fun s t => _) (fun d => pure (F (FloatKind.f64.encode (d.integral .down)))) := rfl
      rw [h0, hd]
    rw [hk, hf]
    rfl

set_option maxRecDepth 100000 in
set_option maxHeartbeats 400000 in
theorem floor_any (x : Nat) (hx : numW D x = true) (w : World) : Calls Tryd.prog 63 #[F x] w fun e w' => e = .returned (F (floorW x)) ∧ w = w' := by
  have K := call_floor hx
  clear hx
  generalize floorW x = y at *
  go_enter Tryd.func63, Tryd.ntmps63
  go_wp2
  go_ret
  exact ⟨rfl, rfl⟩

theorem sub_self_order {x r : Nat} (h : num r = oop .sub (num x) (num x)) : (D.order r 0 == some .eq) = finW D x := by
  cases hx : finW D x with
  | true =>
    have hn := num_fin hx
    have e := sub_fin D hx hx
    have e2 : oop .sub (num x) (num x) = D.sub x x := by
      rw [oop_num (.inr (.inl rfl))]; rfl
    rw [e2, e] at h
    have hr : numW D r = true := by
      cases hc : numW D r with
      | true => rfl
      | false => rw [num_none hc] at h; cases h
    rw [num_some hr] at h
    have h' := Option.some.inj h
    have hz : rungW D r = 0 := by rw [h', toW_rung, Int.sub_self]; exact nr_zero D _
    have h0 : numW D 0 = true := by decide +kernel
    rw [order_key D hfD hr h0, rung_zero_key hz]
    rfl
  | false =>
    have e2 : oop .sub (num x) (num x) = none := by
      rcases fin_cases x with ⟨h1, -⟩ | ⟨h1, h2, -⟩ | ⟨-, -, h3⟩
      · rw [num_none h1]; rfl
      · rw [oop_num (.inr (.inl rfl))]
        show D.sub x x = none
        unfold Ieee.Format.sub
        rw [read_inf D hfD h2]
        cases negW D x <;> rfl
      · rw [h3] at hx; cases hx
    rw [e2] at h
    have hr : numW D r = false := by
      cases hc : numW D r with
      | false => rfl
      | true => rw [num_some hc] at h; cases h
    rw [order_nan D hfD (.inl hr)]
    rfl
end Go.Proofs.YtbfheehaagcmeaaDoor.can
