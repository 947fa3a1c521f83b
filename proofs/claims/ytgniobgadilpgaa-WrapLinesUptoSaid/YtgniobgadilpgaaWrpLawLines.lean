/-
  The walk of the law WrapLines.
-/
import Derived.Test.YtgniobgadilpgaaWrpSameL
import Derived.Test.YtgniobgadilpgaaWrpSpoilL
namespace Go.Proofs.Ytgniobgadilpgaa.wrp
open Go.RowKit Go.Proofs
open Go.Proofs.Ytgniobgadilpgaa.wid Go.Proofs.Ytgniobgadilpgaa.utf Go.Proofs.Ytgniobgadilpgaa.clu
set_option linter.unusedVariables false

def twoL {α : Type} (a b : α) : Nat → α := fun j => if j = 0 then a else b
theorem rack_twoL {w : World} {B e sz n : Nat} {va vb : Value} {xs : List Value} (ha : w.ownsRow B e sz va n xs) (hb : w.ownsRow B e sz vb n xs) : run.Rack B e sz 2 (twoL va vb) (fun _ => n) (fun _ => xs) w := by
  intro j hj
  unfold twoL
  split
  · exact ha
  · exact hb
theorem apart_twoL {va vb : Value} {m : Nat} (ha : ∀ k, va.ownBlock = some k → k < m) (hb : ∀ k, vb.ownBlock = some k → m ≤ k) : run.Apart 2 (twoL va vb) := by
  intro i j hi hj hne k hk hk'
  unfold twoL at hk hk'
  rcases (show (i = 0 ∧ j = 1) ∨ (i = 1 ∧ j = 0) from by omega) with ⟨rfl, rfl⟩ | ⟨rfl, rfl⟩
  · simp at hk hk'
    have h1 := ha k hk
    have h2 := hb k hk'
    omega
  · simp at hk hk'
    have h1 := hb k hk
    have h2 := ha k hk'
    omega

set_option maxRecDepth 100000 in
set_option maxHeartbeats 4000000 in
theorem lawLines_any (s : ByteArray) (wd mode : Int) (w : World) (hs : s.size ≤ 1048576) : Calls Try.prog 10 #[.string s, .int .i64 wd, .int .i8 mode] w fun e w' => e = .returned (.bool true) ∧ Below w.heap.size w w' := by
  have HK := run.hid (fun w => wakes_any w)
  have H1 := run.hid (fun w => refLines_any s wd mode w (by omega))
  have H2 := run.hid (fun w => lines_any s wd mode w (by omega))
  have H3 := run.hid (fun w => count_any s wd mode w (by omega))
  have hll : (linesT s wd mode).length ≤ 4194305 := by
    have hfl := flow_len s
    unfold linesT
    split
    · simp
    · have h2 := linesTo_len wd.toNat (modeOf mode) (rowsT (flow s)) _ (Nat.le_refl _)
      have h3 := weigh_take (rowsT (flow s)) (rowsT (flow s)).length
      have h4 := rowsT_weigh (flow s)
      omega
  generalize linesT s wd mode = X at *
  go_enter Try.func10, Try.ntmps10
  go_wp2_with fail
  refine (H1.out _).mono ?_
  rintro e w1 ⟨v1, rfl, hown1, hb1⟩
  obtain ⟨a1, k1, rfl⟩ := run.own_value hown1
  have hs1 := hb1.size
  have R1 := run.hid (rls_own hown1)
  clear hown1 H1
  go_wp2_with fail
  refine (H2.out _).mono ?_
  rintro e w2 ⟨v2, rfl, hown2, hb2⟩
  obtain ⟨a2, k2, rfl⟩ := run.own_value hown2
  have hs2 := hb2.size
  go_wp2_with fail
  refine (H2.out _).mono ?_
  rintro e w3 ⟨v3, rfl, hown3, hb3⟩
  obtain ⟨a3, k3, rfl⟩ := run.own_value hown3
  have hs3 := hb3.size
  have d3 := hb2.trans (hb3.mono hs2)
  have O2 := run.hid (run.own_below hown2 hb3)
  have O3 := run.hid (run.own_mono hown3 hs2)
  have hA := run.hid (apart_twoL (va := .slice a2 X.length k2) (vb := .slice a3 X.length k3) (fun k hk => (hown2.lt k hk).2) (fun k hk => (hown3.lt k hk).1))
  clear hown2 hown3 hb2 hb3
  go_wp2_with fail
  refine (sameLines_eq _ _ X _ (rls_own O2.out) (R1.out.below d3) (by omega)).mono ?_
  rintro e w4 ⟨rfl, hb4⟩
  have hs4 := hb4.size
  have d4 := d3.trans (hb4.mono d3.size)
  replace O2 := run.hid (run.own_below O2.out hb4)
  replace O3 := run.hid (run.own_below O3.out hb4)
  clear hb4 d3
  go_wp2_with fail
  refine (sameLines_eq _ _ X _ (rls_own O3.out) (R1.out.below d4) (by omega)).mono ?_
  rintro e w5 ⟨rfl, hb5⟩
  have hs5 := hb5.size
  have d5 := d4.trans (hb5.mono d4.size)
  replace O2 := run.hid (run.own_below O2.out hb5)
  replace O3 := run.hid (run.own_below O3.out hb5)
  clear hb5 d4
  go_wp2_with fail
  refine (H3.out _).mono ?_
  rintro e w6 ⟨rfl, hb6⟩
  have hs6 := hb6.size
  have d6 := d5.trans (hb6.mono d5.size)
  replace O2 := run.hid (run.own_below O2.out hb6)
  replace O3 := run.hid (run.own_below O3.out hb6)
  clear hb6 d5 H3
  have hsd6 := d6.size
  have HSP := run.hid (spoilL_any w1.heap.size 2 (twoL (.slice a2 X.length k2) (.slice a3 X.length k3)) (fun _ => X.length) (fun _ => cells4 X) w6.heap.size 0 2 (w6.alloc (.cells #[.slice a2 X.length k2, .slice a3 X.length k3] 39)) (rack_twoL (O2.out.alloc _) (O3.out.alloc _)) hA.out (by omega) (fun j hj => by omega)
    (fun j hj => by
      have hn := run.heap_new w6 (.cells #[.slice a2 X.length k2, .slice a3 X.length k3] 39)
      rcases (show j = 0 ∨ j = 1 from by omega) with rfl | rfl
      · simp only [World.cell?]; rw [hn]; rfl
      · simp only [World.cell?]; rw [hn]; rfl)
    (fun j hj k hk e => by
      subst e
      unfold twoL at hk
      split at hk
      · have := (O2.out.lt _ hk).2; omega
      · have := (O3.out.lt _ hk).2; omega)
    (by simp) (by simp; omega))
  go_wp2_with fail
  refine HSP.out.mono ?_
  rintro e w7 ⟨rfl, hb7⟩
  have d7 := (d6.alloc hsd6 _).trans hb7
  have hs7 := d7.size
  clear HSP O2 O3 hA hb7 d6
  go_wp2_with fail
  refine (H2.out _).mono ?_
  rintro e w8 ⟨v8, rfl, hown8, hb8⟩
  have d8 := d7.trans (hb8.mono hs7)
  have R8 := run.hid (rls_own hown8)
  clear hown8 H2
  go_wp2_with fail
  refine (sameLines_eq _ _ X _ R8.out (R1.out.below d8) (by omega)).mono ?_
  rintro e w9 ⟨rfl, hb9⟩
  have d9 := d8.trans (hb9.mono d8.size)
  go_wp2_with fail
  refine (HK.out _).mono ?_
  rintro e w10 ⟨rfl, hb10⟩
  have d10 := d9.trans (hb10.mono d9.size)
  have hb := hb1.trans (d10.mono hs1)
  go_wp2
  go_ret
  exact ⟨rfl, hb⟩

end Go.Proofs.Ytgniobgadilpgaa.wrp
