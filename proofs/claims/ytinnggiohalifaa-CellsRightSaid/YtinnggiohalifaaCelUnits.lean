/-
  The walk of the layer cells: units, for each function that it is handed. (Printed by gen_celunits.py.)
-/
import Derived.Test.YtinnggiohalifaaCelUnit
namespace Go.Proofs.Ytinnggiohalifaa.cel
open Go Go.RowKit Go.Proofs
set_option linter.unusedVariables false

/-- a cell that is short enough to be looked at -/
def Fit (c : CV) : Prop := c.text.size ≤ 1099511627776 ∧ -128 ≤ c.wide ∧ c.wide ≤ 127
theorem unit_at (a : Option Addr) (cap : Nat) (L : List CV) (w : World) (i : Nat) (hi : i < L.length) (h : Reads5 w (.slice a L.length cap) L) (hL : ∀ c ∈ L, Fit c) (b off : Nat) (ha : a = some ⟨b, off, none⟩) :
    Calls Try.prog 71 #[.slice (some ⟨b, off + i * 5, none⟩) (L.length - i) (cap - i)] w fun e w' => e = .returned (.int .i64 (unitT (L.drop i) : Nat)) ∧ Below w.heap.size w w' := by
  subst ha
  obtain ⟨a', c', e, hc⟩ := h
  simp only [Value.slice.injEq] at e
  obtain ⟨rfl, -, -⟩ := e
  have hat : ∀ k, k < L.length → Cell5 w b (off + k * 5) (L.getD k z0) := fun k hk => by
    obtain ⟨b', off', e, -, h0, h1, h2, h3, h4⟩ := hc k hk
    simp only [Option.some.injEq, Addr.mk.injEq, and_true] at e
    obtain ⟨rfl, rfl⟩ := e
    exact ⟨h0, h1, h2, h3, h4⟩
  have hd : L.drop i = L.getD i z0 :: L.drop (i + 1) := by
    rw [List.drop_eq_getElem_cons hi]
    simp [List.getD_eq_getElem?_getD, hi]
  rw [hd]
  have hf := hL (L.getD i z0) (by rw [List.getD_eq_getElem?_getD, List.getElem?_eq_getElem hi]; exact List.getElem_mem _)
  refine unit_any b (off + i * 5) (L.length - i) (cap - i) _ _ w (by rw [List.length_drop]; omega) (hat i hi) (fun d t' ht => ?_) hf.1 hf.2
  have h1 : i + 1 < L.length := by
    have := congrArg List.length ht
    rw [List.length_drop, List.length_cons] at this
    omega
  have := hat (i + 1) h1
  rw [show off + (i + 1) * 5 = off + i * 5 + 5 by omega] at this
  have e2 : L.getD (i + 1) z0 = d := by
    have h2 := congrArg (fun l : List CV => l[0]?) ht
    simp only [List.getElem?_drop, Nat.add_zero, List.getElem?_cons_zero] at h2
    rw [List.getD_eq_getElem?_getD, h2]; rfl
  rw [e2] at this
  exact this

set_option maxRecDepth 100000 in
set_option maxHeartbeats 2000000 in
theorem units_whole (a : Option Addr) (cap : Nat) (L : List CV) (q0 : Value) (w : World) (Inv : Nat → World → Prop) (hcap : L.length ≤ cap) (hN : L.length ≤ 140737488355328) (hL : ∀ c ∈ L, Fit c)
    (h0 : Inv 0 w) (hR : ∀ i w', Inv i w' → Reads5 w' (.slice a L.length cap) L) (hB : ∀ i w' w'', Inv i w' → Below w'.heap.size w' w'' → Inv i w'')
    (hS : ∀ i w', i < L.length → Inv i w' → Calls Try.prog 72 #[.int .i64 i, .int .i64 (unitT (L.drop i) : Nat), q0] w' fun e w'' => e = .returned (.tuple #[]) ∧ Inv (i + max (unitT (L.drop i)) 1) w'') :
    Calls Try.prog 47 #[.slice a L.length cap, .func (.func 72) #[] #[q0]] w fun e w' => e = .returned (.tuple #[]) ∧ Inv L.length w' := by
  obtain ⟨it, hinf, -, hsz, -⟩ := info_parts info_cell
  have HU := run.hid (fun i w' (hi : i < L.length) (h : Inv i w') => unit_at a cap L w' i hi (hR i w' h) hL)
  have HS := run.hid hS
  have HB := run.hid hB
  have HLE := run.hid (fun i (hi : i < L.length) => show unitT (L.drop i) ≤ L.length - i ∧ unitT (L.drop i) ≤ 2 from by have := unitT_le (L.drop i); rw [List.length_drop] at this; exact ⟨this.2, this.1⟩)
  have HA := run.hid (fun i w' (hi : i < L.length) (h : Inv i w') => show ∃ b off, a = some ⟨b, off, none⟩ from by obtain ⟨a', c', e, hc⟩ := hR i w' h; simp only [Value.slice.injEq] at e; obtain ⟨rfl, -, -⟩ := e; obtain ⟨b, off, rfl, -⟩ := hc i hi; exact ⟨b, off, rfl⟩)
  have H0 := run.hid h0
  clear hS hB hR h0 hL
  generalize hNN : L.length = N at *
  clear hNN
  go_enter Try.func47, Try.ntmps47
  go_wp2
  go_loopw [4] (fun vi wr => ∃ i : Nat, i ≤ N ∧ vi = .int .i64 i ∧ Hid (Inv i wr)) (fun vi _ => ((N : Int) - intOf vi).toNat)
  case atStart => exact ⟨0, Nat.zero_le _, rfl, H0⟩
  case round =>
    obtain ⟨i, hi, rfl, HI⟩ := hrel
    by_cases hlt : i < N
    · obtain ⟨b, off, rfl⟩ := HA.out i wr hlt HI.out
      have hcc : i < cap := by omega
      have HUi := run.hid (HU.out i wr hlt HI.out b off rfl)
      obtain ⟨hu1, hu2⟩ := HLE.out i hlt
      have HSi := run.hid (fun w' h => HS.out i w' hlt h)
      generalize unitT (L.drop i) = u at *
      clear HU HS HLE HA H0
      go_wp2_with fail
      refine HUi.out.mono ?_
      rintro e w1 ⟨rfl, hb1⟩
      have HI1 := run.hid (HB.out i wr w1 HI.out hb1)
      clear HUi hb1 HI
      go_wp2_with fail
      refine (HSi.out w1 HI1.out).mono ?_
      rintro e w2 ⟨rfl, hI2⟩
      have HI2 := run.hid hI2
      clear hI2 HSi HI1
      obtain ⟨j, hj⟩ : ∃ j, j = max u 1 := ⟨_, rfl⟩
      have hji : max ((u : Nat) : Int) 1 = ((j : Nat) : Int) := by omega
      have hj1 : 1 ≤ j := by omega
      have hj2 : i + j ≤ N := by omega
      rw [← hj] at HI2
      clear hj
      go_wp2
      go_roundw
      case rel => exact ⟨i + j, by omega, by go_num, HI2⟩
      case measure => simp [intOf]; omega
    · obtain rfl : i = N := by omega
      clear HU HS HLE HA H0
      go_wp2
      first | go_end0 | (refine bodyPost_ret (results_none rfl _ _ _) rfl ?_)
      exact ⟨rfl, HI.out⟩

set_option maxRecDepth 100000 in
set_option maxHeartbeats 2000000 in
theorem units_mend (a : Option Addr) (cap : Nat) (L : List CV) (q0 q1 : Value) (w : World) (Inv : Nat → World → Prop) (hcap : L.length ≤ cap) (hN : L.length ≤ 140737488355328) (hL : ∀ c ∈ L, Fit c)
    (h0 : Inv 0 w) (hR : ∀ i w', Inv i w' → Reads5 w' (.slice a L.length cap) L) (hB : ∀ i w' w'', Inv i w' → Below w'.heap.size w' w'' → Inv i w'')
    (hS : ∀ i w', i < L.length → Inv i w' → Calls Try.prog 48 #[.int .i64 i, .int .i64 (unitT (L.drop i) : Nat), q0, q1] w' fun e w'' => e = .returned (.tuple #[]) ∧ Inv (i + max (unitT (L.drop i)) 1) w'') :
    Calls Try.prog 47 #[.slice a L.length cap, .func (.func 48) #[] #[q0, q1]] w fun e w' => e = .returned (.tuple #[]) ∧ Inv L.length w' := by
  obtain ⟨it, hinf, -, hsz, -⟩ := info_parts info_cell
  have HU := run.hid (fun i w' (hi : i < L.length) (h : Inv i w') => unit_at a cap L w' i hi (hR i w' h) hL)
  have HS := run.hid hS
  have HB := run.hid hB
  have HLE := run.hid (fun i (hi : i < L.length) => show unitT (L.drop i) ≤ L.length - i ∧ unitT (L.drop i) ≤ 2 from by have := unitT_le (L.drop i); rw [List.length_drop] at this; exact ⟨this.2, this.1⟩)
  have HA := run.hid (fun i w' (hi : i < L.length) (h : Inv i w') => show ∃ b off, a = some ⟨b, off, none⟩ from by obtain ⟨a', c', e, hc⟩ := hR i w' h; simp only [Value.slice.injEq] at e; obtain ⟨rfl, -, -⟩ := e; obtain ⟨b, off, rfl, -⟩ := hc i hi; exact ⟨b, off, rfl⟩)
  have H0 := run.hid h0
  clear hS hB hR h0 hL
  generalize hNN : L.length = N at *
  clear hNN
  go_enter Try.func47, Try.ntmps47
  go_wp2
  go_loopw [4] (fun vi wr => ∃ i : Nat, i ≤ N ∧ vi = .int .i64 i ∧ Hid (Inv i wr)) (fun vi _ => ((N : Int) - intOf vi).toNat)
  case atStart => exact ⟨0, Nat.zero_le _, rfl, H0⟩
  case round =>
    obtain ⟨i, hi, rfl, HI⟩ := hrel
    by_cases hlt : i < N
    · obtain ⟨b, off, rfl⟩ := HA.out i wr hlt HI.out
      have hcc : i < cap := by omega
      have HUi := run.hid (HU.out i wr hlt HI.out b off rfl)
      obtain ⟨hu1, hu2⟩ := HLE.out i hlt
      have HSi := run.hid (fun w' h => HS.out i w' hlt h)
      generalize unitT (L.drop i) = u at *
      clear HU HS HLE HA H0
      go_wp2_with fail
      refine HUi.out.mono ?_
      rintro e w1 ⟨rfl, hb1⟩
      have HI1 := run.hid (HB.out i wr w1 HI.out hb1)
      clear HUi hb1 HI
      go_wp2_with fail
      refine (HSi.out w1 HI1.out).mono ?_
      rintro e w2 ⟨rfl, hI2⟩
      have HI2 := run.hid hI2
      clear hI2 HSi HI1
      obtain ⟨j, hj⟩ : ∃ j, j = max u 1 := ⟨_, rfl⟩
      have hji : max ((u : Nat) : Int) 1 = ((j : Nat) : Int) := by omega
      have hj1 : 1 ≤ j := by omega
      have hj2 : i + j ≤ N := by omega
      rw [← hj] at HI2
      clear hj
      go_wp2
      go_roundw
      case rel => exact ⟨i + j, by omega, by go_num, HI2⟩
      case measure => simp [intOf]; omega
    · obtain rfl : i = N := by omega
      clear HU HS HLE HA H0
      go_wp2
      first | go_end0 | (refine bodyPost_ret (results_none rfl _ _ _) rfl ?_)
      exact ⟨rfl, HI.out⟩

set_option maxRecDepth 100000 in
set_option maxHeartbeats 2000000 in
theorem units_paste (a : Option Addr) (cap : Nat) (L : List CV) (q0 q1 q2 q3 q4 : Value) (w : World) (Inv : Nat → World → Prop) (hcap : L.length ≤ cap) (hN : L.length ≤ 140737488355328) (hL : ∀ c ∈ L, Fit c)
    (h0 : Inv 0 w) (hR : ∀ i w', Inv i w' → Reads5 w' (.slice a L.length cap) L) (hB : ∀ i w' w'', Inv i w' → Below w'.heap.size w' w'' → Inv i w'')
    (hS : ∀ i w', i < L.length → Inv i w' → Calls Try.prog 67 #[.int .i64 i, .int .i64 (unitT (L.drop i) : Nat), q0, q1, q2, q3, q4] w' fun e w'' => e = .returned (.tuple #[]) ∧ Inv (i + max (unitT (L.drop i)) 1) w'') :
    Calls Try.prog 47 #[.slice a L.length cap, .func (.func 67) #[] #[q0, q1, q2, q3, q4]] w fun e w' => e = .returned (.tuple #[]) ∧ Inv L.length w' := by
  obtain ⟨it, hinf, -, hsz, -⟩ := info_parts info_cell
  have HU := run.hid (fun i w' (hi : i < L.length) (h : Inv i w') => unit_at a cap L w' i hi (hR i w' h) hL)
  have HS := run.hid hS
  have HB := run.hid hB
  have HLE := run.hid (fun i (hi : i < L.length) => show unitT (L.drop i) ≤ L.length - i ∧ unitT (L.drop i) ≤ 2 from by have := unitT_le (L.drop i); rw [List.length_drop] at this; exact ⟨this.2, this.1⟩)
  have HA := run.hid (fun i w' (hi : i < L.length) (h : Inv i w') => show ∃ b off, a = some ⟨b, off, none⟩ from by obtain ⟨a', c', e, hc⟩ := hR i w' h; simp only [Value.slice.injEq] at e; obtain ⟨rfl, -, -⟩ := e; obtain ⟨b, off, rfl, -⟩ := hc i hi; exact ⟨b, off, rfl⟩)
  have H0 := run.hid h0
  clear hS hB hR h0 hL
  generalize hNN : L.length = N at *
  clear hNN
  go_enter Try.func47, Try.ntmps47
  go_wp2
  go_loopw [4] (fun vi wr => ∃ i : Nat, i ≤ N ∧ vi = .int .i64 i ∧ Hid (Inv i wr)) (fun vi _ => ((N : Int) - intOf vi).toNat)
  case atStart => exact ⟨0, Nat.zero_le _, rfl, H0⟩
  case round =>
    obtain ⟨i, hi, rfl, HI⟩ := hrel
    by_cases hlt : i < N
    · obtain ⟨b, off, rfl⟩ := HA.out i wr hlt HI.out
      have hcc : i < cap := by omega
      have HUi := run.hid (HU.out i wr hlt HI.out b off rfl)
      obtain ⟨hu1, hu2⟩ := HLE.out i hlt
      have HSi := run.hid (fun w' h => HS.out i w' hlt h)
      generalize unitT (L.drop i) = u at *
      clear HU HS HLE HA H0
      go_wp2_with fail
      refine HUi.out.mono ?_
      rintro e w1 ⟨rfl, hb1⟩
      have HI1 := run.hid (HB.out i wr w1 HI.out hb1)
      clear HUi hb1 HI
      go_wp2_with fail
      refine (HSi.out w1 HI1.out).mono ?_
      rintro e w2 ⟨rfl, hI2⟩
      have HI2 := run.hid hI2
      clear hI2 HSi HI1
      obtain ⟨j, hj⟩ : ∃ j, j = max u 1 := ⟨_, rfl⟩
      have hji : max ((u : Nat) : Int) 1 = ((j : Nat) : Int) := by omega
      have hj1 : 1 ≤ j := by omega
      have hj2 : i + j ≤ N := by omega
      rw [← hj] at HI2
      clear hj
      go_wp2
      go_roundw
      case rel => exact ⟨i + j, by omega, by go_num, HI2⟩
      case measure => simp [intOf]; omega
    · obtain rfl : i = N := by omega
      clear HU HS HLE HA H0
      go_wp2
      first | go_end0 | (refine bodyPost_ret (results_none rfl _ _ _) rfl ?_)
      exact ⟨rfl, HI.out⟩
end Go.Proofs.Ytinnggiohalifaa.cel
