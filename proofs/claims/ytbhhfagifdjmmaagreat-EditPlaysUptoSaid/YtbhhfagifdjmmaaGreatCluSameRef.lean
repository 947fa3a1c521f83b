/-
  Two lists of clusters held against each other: the document's function.
-/
import Derived.Test.YtbhhfagifdjmmaaGreatCluSameC
namespace Go.Proofs.YtbhhfagifdjmmaaGreat.clu
open Go.RowKit Go.Proofs
open Go.Proofs.YtbhhfagifdjmmaaGreat.wid Go.Proofs.YtbhhfagifdjmmaaGreat.utf
set_option linter.unusedVariables false

set_option maxRecDepth 100000 in
set_option maxHeartbeats 4000000 in
theorem refSameC_any (u v : Value) (X Y : List CV) (w : World) (hu : ReadsI w u X) (hv : ReadsI w v Y) (hX : X.length ≤ 1099511627776) (hY : Y.length ≤ 1099511627776) : Calls Tryz.prog 70 #[u, v] w fun e w' => e = .returned (.bool (sameC X Y)) ∧ Below w.heap.size w w' := by
  have HLEN := run.hid (fun h : X.length ≠ Y.length => sameC_len h)
  have HEND := run.hid (fun (h1 : X.length = Y.length) (h2 : ∀ j, j < X.length → X.getD j c0 = Y.getD j c0) => (show sameC X Y = true from by rw [ceq_end h1 h2]; exact sameC_self _))
  have HAT := run.hid (fun k (h : X.getD k c0 ≠ Y.getD k c0) => sameC_at h)
  have R1 := run.hid hu
  have R2 := run.hid hv
  obtain ⟨a1, k1, rfl, -⟩ := hu
  obtain ⟨a2, k2, rfl, -⟩ := hv
  generalize sameC X Y = sm at *
  go_enter Tryz.func70, Tryz.ntmps70
  by_cases hlen : X.length = Y.length
  · have hlenH := run.hid hlen
    have hle1 := Nat.le_of_eq hlen
    have hle2 := Nat.le_of_eq hlen.symm
    clear hlen HLEN
    go_wp2
    go_loopw [5] (fun vi wr => ∃ i : Nat, i ≤ X.length ∧ vi = .int .i64 i ∧ Below w.heap.size w wr ∧ Hid (∀ j, j < i → X.getD j c0 = Y.getD j c0)) (fun vi _ => (X.length - intOf vi).toNat)
    case atStart => exact ⟨0, by omega, rfl, Below.refl _ _, run.hid (ceq_start _ _)⟩
    case round =>
      obtain ⟨i, hi, rfl, hbel, HS⟩ := hrel
      by_cases hlt : i < X.length
      · obtain ⟨a', cap', e1, hrow⟩ := R1.out
        simp only [Value.slice.injEq] at e1
        obtain ⟨rfl, -, rfl⟩ := e1
        obtain ⟨b1, o1, rfl, hlb1, hx0, hx1⟩ := hrow i hlt
        replace hx0 := (hbel.cell (p := ⟨b1, o1 + i * 2, none⟩) hlb1).trans hx0
        replace hx1 := (hbel.cell (p := ⟨b1, o1 + i * 2 + 1, none⟩) hlb1).trans hx1
        clear hrow
        have hltY : i < Y.length := by omega
        obtain ⟨a', cap', e1, hrow⟩ := R2.out
        simp only [Value.slice.injEq] at e1
        obtain ⟨rfl, -, rfl⟩ := e1
        obtain ⟨b2, o2, rfl, hlb2, hy0, hy1⟩ := hrow i hltY
        replace hy0 := (hbel.cell (p := ⟨b2, o2 + i * 2, none⟩) hlb2).trans hy0
        replace hy1 := (hbel.cell (p := ⟨b2, o2 + i * 2 + 1, none⟩) hlb2).trans hy1
        clear hrow
        have HA := run.hid (HAT.out i)
        have HN := run.hid (fun h => ceq_next HS.out (h : X.getD i c0 = Y.getD i c0))
        generalize X.getD i c0 = q at *
        generalize Y.getD i c0 = r at *
        obtain ⟨qs, qw⟩ := q
        obtain ⟨rs, rw_⟩ := r
        dsimp only at hx0 hx1 hy0 hy1
        go_upto_region 6 with fail
        by_cases h1 : qs = rs
        · subst h1
          by_cases h2 : qw = rw_
          · subst h2
            have HS2 := run.hid (HN.out rfl)
            clear HA HN HS
            go_quiet (fail)
            go_wp2
            go_roundw
            case rel => exact ⟨i + 1, by omega, by go_num, below_drewN hbel _, HS2⟩
            case measure => simp [intOf]; omega
          · have hj := run.hid (HA.out (by intro e; simp only [Prod.mk.injEq] at e; exact h2 e.2))
            have hE : (qw == rw_) = false := by simpa using h2
            clear HA HN HS
            go_quiet (fail)
            go_wp2
            go_ret
            exact ⟨by rw [hj.out]; rfl, below_drewN hbel _⟩
        · have hj := run.hid (HA.out (by intro e; simp only [Prod.mk.injEq] at e; exact h1 e.1))
          have hE : (qs.toList == rs.toList) = false := by rw [toList_eq_iff]; exact decide_eq_false h1
          clear HA HN HS
          go_quiet (fail)
          go_wp2
          go_ret
          exact ⟨by rw [hj.out]; rfl, below_drewN hbel _⟩
      · obtain rfl : i = X.length := by omega
        have hj := run.hid (HEND.out hlenH.out HS.out)
        go_wp2
        go_ret
        exact ⟨by rw [hj.out]; rfl, hbel⟩
  · have hj := run.hid (HLEN.out hlen)
    generalize X.length = n1 at *
    generalize Y.length = n2 at *
    go_wp2
    go_ret
    exact ⟨by rw [hj.out]; rfl, Below.refl _ _⟩
theorem refSameC_eq (u v : Value) (X : List CV) (w : World) (hu : ReadsI w u X) (hv : ReadsI w v X) (hX : X.length ≤ 1099511627776) : Calls Tryz.prog 70 #[u, v] w fun e w' => e = .returned (.bool true) ∧ Below w.heap.size w w' := by
  have := refSameC_any u v X X w hu hv hX hX
  rwa [sameC_self] at this

end Go.Proofs.YtbhhfagifdjmmaaGreat.clu
