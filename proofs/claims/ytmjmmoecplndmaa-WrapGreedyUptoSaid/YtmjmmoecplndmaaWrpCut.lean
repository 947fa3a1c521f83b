/-
  The walks of the layer wrap: the cutters.
-/
import Derived.Test.YtmjmmoecplndmaaWrpRows
import Derived.Laws.EntriesVeiled
namespace Go.Proofs.Ytmjmmoecplndmaa.wrp
open Go.RowKit Go.Proofs
open Go.Proofs.Ytmjmmoecplndmaa.wid Go.Proofs.Ytmjmmoecplndmaa.utf Go.Proofs.Ytmjmmoecplndmaa.clu
set_option linter.unusedVariables false

theorem ways_any (w : World) : Calls Try.prog 14 #[] w fun e w' => e = .returned (.agg #[.func (.func 34) #[] #[], .func (.func 35) #[] #[]]) ∧ Below w.heap.size w w' := by
  go_enter Try.func14, Try.ntmps14
  go_wp2
  refine bodyPost_ret (v := .agg #[.func (.func 34) #[] #[], .func (.func 35) #[] #[]]) ?_ ?_ ?_
  rotate_left
  · rfl
  rotate_left
  · exact results_cell_row rfl _ _ w.heap.size 45 #[.func (.func 34) #[] #[], .func (.func 35) #[] #[]] (0, 0) _ rfl (by first | exact heap_alloc_new w _ | simp) Try.underlying45 rfl (by kernel_rfl)
  exact ⟨rfl, (Below.refl _ _).alloc (Nat.le_refl _) _⟩

theorem char_any (v : Value) (k : Nat) (w : World) : Calls Try.prog 35 #[v, .int .i64 k] w fun e w' => e = .returned (.tuple #[.int .i64 k, .int .i64 0]) ∧ w' = w := by
  go_enter Try.func35, Try.ntmps35
  go_wp2
  go_ret2
  exact ⟨rfl, rfl⟩

theorem word_any (v : Value) (X : List TV) (k : Nat) (w : World) (hv : RS w v X) (hk : k < X.length) (hX : X.length ≤ 1099511627776) : Calls Try.prog 34 #[v, .int .i64 k] w fun e w' =>
    e = .returned (match lastSp X k with | some j => .tuple #[.int .i64 j, .int .i64 1] | none => .tuple #[.int .i64 k, .int .i64 0]) ∧ w' = w := by
  obtain ⟨a, cap, rfl, -, ha⟩ := hv
  have HA := run.hid ha
  clear ha
  obtain ⟨R, hR⟩ : ∃ R, R = (match lastSp X k with | some j => Value.tuple #[.int .i64 j, .int .i64 1] | none => .tuple #[.int .i64 k, .int .i64 0]) := ⟨_, rfl⟩
  rw [← hR]
  have HR := run.hid hR
  have HAT := run.hid (fun j h => @lastSp_at X j h)
  have HNX := run.hid (fun j h => @lastSp_next X j h)
  have HZ := run.hid (fun h => @lastSp_zero X h)
  clear hR
  generalize hN : X.length = N at *
  go_enter Try.func34, Try.ntmps34
  go_wp2
  go_loop [6] (fun vj => (∃ j : Nat, j ≤ k ∧ vj = .int .i64 j ∧ Hid (lastSp X k = lastSp X j)) ∨ (vj = .int .i64 (-1) ∧ Hid (lastSp X k = none))) (fun vj => (intOf vj + 1).toNat)
  case atStart => exact .inl ⟨k, by omega, rfl, rfl⟩
  case round =>
    rcases hrel with ⟨j, hj, rfl, HJ⟩ | ⟨rfl, HJ⟩
    · obtain ⟨b1, o1, rfl, hlb1, hx0, hx1⟩ := HA.out j (by omega)
      have H1 := run.hid (HAT.out j)
      have H2 := run.hid (fun i (e : j = i + 1) (h : (X.getD j t0).1 ≠ sp) => show lastSp X j = lastSp X i from by subst e; exact HNX.out i h)
      have H3 := run.hid (fun (e : j = 0) (h : (X.getD j t0).1 ≠ sp) => show lastSp X j = none from by subst e; exact HZ.out h)
      generalize X.getD j t0 = q at *
      obtain ⟨qs, qw⟩ := q
      dsimp only at hx0 hx1 H1
      have hbeq := sp_eq qs
      by_cases h9 : qs = sp
      · have HN : Hid (R = .tuple #[.int .i64 j, .int .i64 1]) := by show _ = _; rw [HR.out, HJ.out, H1.out h9]
        rw [decide_eq_true h9] at hbeq
        clear HA HAT HNX HZ HR HJ hN H1 H2 H3 h9
        go_wp2
        go_ret2
        exact ⟨by rw [HN.out]; rfl, rfl⟩
      · rw [decide_eq_false h9] at hbeq
        by_cases hj0 : j = 0
        · have HN : Hid (lastSp X k = none) := by show _ = _; rw [HJ.out, H3.out hj0 h9]
          subst hj0
          rw [Nat.zero_mul, Nat.add_zero] at hx0 hx1
          clear HA HAT HNX HZ HR HJ hN H1 H2 H3 h9
          go_wp2
          go_round
          case rel => exact .inr ⟨by go_num, HN⟩
          case measure => simp [intOf]
        · obtain ⟨i, rfl⟩ : ∃ i, j = i + 1 := ⟨j - 1, by omega⟩
          have HN : Hid (lastSp X k = lastSp X i) := by show _ = _; rw [HJ.out, H2.out i rfl h9]
          clear HA HAT HNX HZ HR HJ hN H1 H2 H3 h9
          go_wp2
          go_round
          case rel => exact .inl ⟨i, by omega, by go_num, HN⟩
          case measure => simp [intOf]; omega
    · have HN : Hid (R = .tuple #[.int .i64 k, .int .i64 0]) := by show _ = _; rw [HR.out, HJ.out]
      clear HA HAT HNX HZ HR HJ hN
      go_wp2
      go_ret2
      exact ⟨by rw [HN.out]; rfl, rfl⟩

end Go.Proofs.Ytmjmmoecplndmaa.wrp
