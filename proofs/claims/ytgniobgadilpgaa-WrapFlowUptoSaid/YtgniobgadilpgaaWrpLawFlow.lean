/-
  The walk of the law WrapFlow.
-/
import Derived.Test.YtgniobgadilpgaaWrpLawWakes
import Derived.Test.YtgniobgadilpgaaWrpRefFlow
import Derived.Test.YtgniobgadilpgaaWrpSpoilC
import Derived.Test.YtgniobgadilpgaaCluSameRef
namespace Go.Proofs.Ytgniobgadilpgaa.wrp
open Go.RowKit Go.Proofs
open Go.Proofs.Ytgniobgadilpgaa.wid Go.Proofs.Ytgniobgadilpgaa.utf Go.Proofs.Ytgniobgadilpgaa.clu
set_option linter.unusedVariables false

theorem rs_stay {w w' : World} {v : Value} {X : List TV} {B : Nat} (h : RS w v X) (hB : w.heap.size ≤ B) (hb : Below B w w') : RS w' v X := h.below (hb.mono hB)
theorem same_use (u v : Value) (X : List TV) (w : World) (hu : RS w u X) (hv : RS w v X) (hX : X.length ≤ 1099511627776) : Calls Try.prog 14 #[u, v] w fun e w' => e = .returned (.bool true) ∧ Below w.heap.size w w' :=
  refSameC_eq u v (upI X) w (readsI_up hu.reads) (readsI_up hv.reads) (by rw [upI_length]; exact hX)

def two {α : Type} (a b : α) : Nat → α := fun j => if j = 0 then a else b
theorem rack_two {w : World} {B e sz n : Nat} {va vb : Value} {xs : List Value} (ha : w.ownsRow B e sz va n xs) (hb : w.ownsRow B e sz vb n xs) : run.Rack B e sz 2 (two va vb) (fun _ => n) (fun _ => xs) w := by
  intro j hj
  unfold two
  split
  · exact ha
  · exact hb
theorem apart_two {va vb : Value} {m : Nat} (ha : ∀ k, va.ownBlock = some k → k < m) (hb : ∀ k, vb.ownBlock = some k → m ≤ k) : run.Apart 2 (two va vb) := by
  intro i j hi hj hne k hk hk'
  unfold two at hk hk'
  rcases (show (i = 0 ∧ j = 1) ∨ (i = 1 ∧ j = 0) from by omega) with ⟨rfl, rfl⟩ | ⟨rfl, rfl⟩
  · simp at hk hk'
    have h1 := ha k hk
    have h2 := hb k hk'
    omega
  · simp at hk hk'
    have h1 := hb k hk
    have h2 := ha k hk'
    omega

set_option maxRecDepth 100000 in
set_option maxHeartbeats 4000000 in
theorem lawFlow_any (s : ByteArray) (w : World) (hs : s.size ≤ 1048576) : Calls Try.prog 3 #[.string s] w fun e w' => e = .returned (.bool true) ∧ Below w.heap.size w w' := by
  have HK := run.hid (fun w => wakes_any w)
  have H1 := run.hid (fun w => refFlow_any s w (by omega))
  have H2 := run.hid (fun w => flow_any s w (by omega))
  have hfl : (flow s).length ≤ 4194304 := by have := flow_len s; omega
  generalize flow s = X at *
  go_enter Try.func3, Try.ntmps3
  go_wp2_with fail
  refine (H1.out _).mono ?_
  rintro e w1 ⟨v1, rfl, hown1, hb1⟩
  have hs1 := hb1.size
  have R1 := run.hid (rs_own hown1)
  clear hown1 H1
  go_wp2_with fail
  refine (H2.out _).mono ?_
  rintro e w2 ⟨v2, rfl, hown2, hb2⟩
  obtain ⟨a2, k2, rfl⟩ := run.own_value hown2
  have hs2 := hb2.size
  have c2 := hb1.trans (hb2.mono hs1)
  go_wp2_with fail
  refine (H2.out _).mono ?_
  rintro e w3 ⟨v3, rfl, hown3, hb3⟩
  obtain ⟨a3, k3, rfl⟩ := run.own_value hown3
  have hs3 := hb3.size
  have d3 := hb2.trans (hb3.mono hs2)
  have O2 := run.hid (run.own_below hown2 hb3)
  have O3 := run.hid (run.own_mono hown3 hs2)
  have hA := run.hid (apart_two (va := .slice a2 X.length k2) (vb := .slice a3 X.length k3) (fun k hk => (hown2.lt k hk).2) (fun k hk => (hown3.lt k hk).1))
  clear hown2 hown3 hb2 hb3 c2
  go_wp2_with fail
  refine (same_use _ _ X _ (rs_own O2.out) (R1.out.below d3) (by omega)).mono ?_
  rintro e w4 ⟨rfl, hb4⟩
  have hs4 := hb4.size
  have d4 := d3.trans (hb4.mono d3.size)
  replace O2 := run.hid (run.own_below O2.out hb4)
  replace O3 := run.hid (run.own_below O3.out hb4)
  clear hb4 d3
  go_wp2_with fail
  refine (same_use _ _ X _ (rs_own O3.out) (R1.out.below d4) (by omega)).mono ?_
  rintro e w5 ⟨rfl, hb5⟩
  have hs5 := hb5.size
  have d5 := d4.trans (hb5.mono d4.size)
  replace O2 := run.hid (run.own_below O2.out hb5)
  replace O3 := run.hid (run.own_below O3.out hb5)
  clear hb5 d4
  have hsd5 := d5.size
  have HSP := run.hid (spoilC_any w1.heap.size 2 (two (.slice a2 X.length k2) (.slice a3 X.length k3)) (fun _ => X.length) (fun _ => cells2 X) w5.heap.size 0 2 (w5.alloc (.cells #[.slice a2 X.length k2, .slice a3 X.length k3] 22)) (rack_two (O2.out.alloc _) (O3.out.alloc _)) hA.out (by omega) (fun j hj => by omega)
    (fun j hj => by
      have hn := run.heap_new w5 (.cells #[.slice a2 X.length k2, .slice a3 X.length k3] 22)
      rcases (show j = 0 ∨ j = 1 from by omega) with rfl | rfl
      · simp only [World.cell?]; rw [hn]; rfl
      · simp only [World.cell?]; rw [hn]; rfl)
    (fun j hj k hk e => by
      subst e
      unfold two at hk
      split at hk
      · have := (O2.out.lt _ hk).2; omega
      · have := (O3.out.lt _ hk).2; omega)
    (by simp) (by simp; omega))
  go_wp2_with fail
  refine HSP.out.mono ?_
  rintro e w6 ⟨rfl, hb6⟩
  have d6 := (d5.alloc hsd5 _).trans hb6
  have hs6 := d6.size
  clear HSP O2 O3 hA hb6 d5
  go_wp2_with fail
  refine (H2.out _).mono ?_
  rintro e w7 ⟨v7, rfl, hown7, hb7⟩
  have d7 := d6.trans (hb7.mono hs6)
  have R7 := run.hid (rs_own hown7)
  clear hown7 H2
  go_wp2_with fail
  refine (same_use _ _ X _ R7.out (R1.out.below d7) (by omega)).mono ?_
  rintro e w8 ⟨rfl, hb8⟩
  have d8 := d7.trans (hb8.mono d7.size)
  go_wp2_with fail
  refine (HK.out _).mono ?_
  rintro e w9 ⟨rfl, hb9⟩
  have d9 := d8.trans (hb9.mono d8.size)
  have hb := hb1.trans (d9.mono hs1)
  go_wp2
  go_ret
  exact ⟨rfl, hb⟩

end Go.Proofs.Ytgniobgadilpgaa.wrp
