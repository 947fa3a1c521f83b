/-
  Helpers of EditGap: two lists of numbers are the same; all of a gap, told twice.
-/
import Derived.Test.YtgpgbbbcodnieaaEdRefG
import Derived.BigQuiet
import Derived.Laws.OwnMore
namespace Go.Proofs.Ytgpgbbbcodnieaa.ed
open Go Go.RowKit Go.Proofs
set_option linter.unusedVariables false
theorem drewN_belowE (B : Nat) (w : World) (n : Nat) : Below B w (w.drewN n) := ⟨rfl, rfl, rfl, Nat.le_refl _, fun _ _ => rfl⟩
theorem own_someE {w : World} {B e sz n : Nat} {v : Value} {xs : List Value} (h : w.ownsRow B e sz v n xs) (hn : 0 < n) : ∃ g cap, v = .slice (some ⟨g, 0, none⟩) n cap := by
  rcases h.2 with ⟨rfl, h0⟩ | ⟨g, cap, cur, rfl, -⟩
  · omega
  · exact ⟨g, cap, rfl⟩
theorem reads_int {w : World} {u : Value} {zs : List Int} (h : run.ReadsN 1 w u zs.length (iv zs)) {k : Nat} (hk : k < zs.length) : ∃ b off c, u = .slice (some ⟨b, off, none⟩) zs.length c ∧ b < w.heap.size ∧ w.cell? ⟨b, off + k, none⟩ = some (.int .i64 (zs.getD k 0)) := by
  obtain ⟨-, a, c, rfl, hc, -⟩ := h
  obtain ⟨b, off, rfl, hlt, hcell⟩ := hc (by intro e; have := congrArg List.length e; rw [iv_length, List.length_nil] at this; omega)
  exact ⟨b, off, c, rfl, hlt, hcell k _ (iv_get hk)⟩
set_option maxRecDepth 100000 in
set_option maxHeartbeats 2000000 in
theorem ints_same (zs : List Int) (u v : Value) (w : World) (hu : run.ReadsN 1 w u zs.length (iv zs)) (hv : run.ReadsN 1 w v zs.length (iv zs)) (hl : zs.length ≤ 17592186043904) :
    Calls Try.prog 29 #[u, v] w fun e w' => e = .returned (.bool true) ∧ Below w.heap.size w w' := by
  have HU := run.hid hu
  have HV := run.hid hv
  obtain ⟨-, a1, c1, rfl, -, -⟩ := hu
  obtain ⟨-, a2, c2, rfl, -, -⟩ := hv
  generalize hN : zs.length = N at *
  have HN := run.hid hN
  go_enter Try.func29, Try.ntmps29
  go_wp2
  go_loopw [5] (fun vi wr => ∃ i : Nat, i ≤ N ∧ vi = .int .i64 i ∧ Below w.heap.size w wr) (fun vi _ => (N - intOf vi).toNat)
  case atStart => exact ⟨0, by omega, rfl, Below.refl _ _⟩
  case round =>
    obtain ⟨i, hi, rfl, hb⟩ := hrel
    by_cases hil : i < N
    · obtain ⟨b1, o1, c1', e1, l1, g1⟩ := reads_int (zs := zs) (by rw [HN.out]; exact HU.out) (k := i) (by rw [HN.out]; exact hil)
      obtain ⟨b2, o2, c2', e2, l2, g2⟩ := reads_int (zs := zs) (by rw [HN.out]; exact HV.out) (k := i) (by rw [HN.out]; exact hil)
      simp only [Value.slice.injEq] at e1 e2
      obtain ⟨rfl, -, rfl⟩ := e1
      obtain ⟨rfl, -, rfl⟩ := e2
      have k1 := (hb.cell (p := ⟨b1, o1 + i, none⟩) l1).trans g1
      have k2 := (hb.cell (p := ⟨b2, o2 + i, none⟩) l2).trans g2
      have hs := hb.size
      clear g1 g2 hN
      generalize zs.getD i 0 = tx at *
      have HB := run.hid hb
      clear hb
      go_upto_region 6 with fail
      go_quiet (fail)
      have HB2 := run.hid (HB.out.trans (drewN_belowE _ wr nq))
      clear k1 k2 HB
      go_wp2
      go_roundw
      case rel => exact ⟨i + 1, by omega, by go_num, HB2.out⟩
      case measure => simp [intOf]; omega
    · obtain rfl : i = N := by omega
      have HB := run.hid hb
      clear hb hN
      go_wp2
      go_ret
      exact ⟨rfl, HB.out⟩
/-- the first i are written over -/
def over (z : Value) (xs : List Value) (i : Nat) : List Value := List.replicate i z ++ xs.drop i
theorem over_next {z : Value} {xs : List Value} {i : Nat} (h : i < xs.length) : (over z xs i).set i z = over z xs (i + 1) := by
  unfold over
  rw [List.set_append, List.length_replicate, if_neg (Nat.lt_irrefl i), Nat.sub_self, List.drop_eq_getElem_cons h, List.set_cons_zero, List.replicate_succ', List.append_assoc]
  rfl
theorem over_length (z : Value) (xs : List Value) (i : Nat) (h : i ≤ xs.length) : (over z xs i).length = xs.length := by unfold over; simp; omega
theorem apart_left {w : World} {B e sz m n' : Nat} {vx vy v7 : Value} {ys : List Value} {my : Nat} (st : run.Step w vx m v7 n') (ap : ∀ k, vx.ownBlock = some k → vy.ownBlock ≠ some k) (hy : w.ownsRow B e sz vy my ys) : ∀ k, v7.ownBlock = some k → vy.ownBlock ≠ some k := by
  intro k hk hk'
  rcases st with ⟨g, c, e1, e2⟩ | hs
  · exact ap k (by rw [e1]; rw [e2] at hk; exact hk) hk'
  · have h1 := hs k hk
    have h2 := (hy.lt k hk').2
    omega
set_option maxRecDepth 100000 in
set_option maxHeartbeats 4000000 in
theorem all2_any {g lb : Nat} {zs : List Int} {w : World} (h : GapI g lb zs w) (u : Value) (hu : run.ReadsN 1 w u zs.length (iv zs)) (hz : zs.length ≤ 17592186043904) :
    Calls Try.prog 12 #[.pointer (some ⟨g, 0, none⟩), u] w fun e w' => e = .returned (.bool true) ∧ Below w.heap.size w w' := by
  obtain ⟨it, hi0, hz0, hz1, hz2⟩ := info_parts info_i64
  have HG := run.hid (fun w' (hb : Below w.heap.size w w') => gi_all (h.kept (Kept.of_below (S := fun _ => False) hb) (fun h => h) (fun h => h)))
  have HU := run.hid (fun w' (hb : Below w.heap.size w w') => hu.below hb)
  have HSM := run.hid (fun u v X hu hv => ints_same zs u v X hu hv (by omega))
  obtain ⟨-, a, c, rfl, -, -⟩ := hu
  have HLL := run.hid (iv_length zs)
  generalize hN : zs.length = N at *
  have HN := run.hid hN
  clear h hN
  go_enter Try.func12, Try.ntmps12
  go_wp2_with fail
  refine (HG.out w (Below.refl _ _)).mono ?_
  rintro e w1 ⟨v1, rfl, hown1, hb1⟩
  have hs1 := hb1.size
  have H1 := run.hid hown1
  have HB1 := run.hid hb1
  clear hown1 hb1
  go_wp2_with fail
  refine (HG.out w1 HB1.out).mono ?_
  rintro e w2 ⟨v2, rfl, hown2, hb2⟩
  have hs2 := hb2.size
  have H2 := run.hid hown2
  have H12 := run.hid (run.own_below H1.out hb2)
  have HB2 := run.hid (HB1.out.trans (hb2.mono hs1))
  have HAP := run.hid (fun k (hk : v1.ownBlock = some k) (hk' : v2.ownBlock = some k) => by
    have h1 := (H1.out.lt k hk).2
    have h2 := (H2.out.lt k hk').1
    omega : ∀ k, v1.ownBlock = some k → v2.ownBlock ≠ some k)
  clear hown2 hb2 H1
  go_wp2_with fail
  refine (HSM.out _ _ w2 (run.readsN_own H12.out) (HU.out w2 HB2.out)).mono ?_
  rintro e w3 ⟨rfl, hb3⟩
  have hs3 := hb3.size
  have H13 := run.hid (run.own_below H12.out hb3)
  have H23 := run.hid (run.own_below H2.out hb3)
  have HB3 := run.hid (HB2.out.trans (hb3.mono (by omega)))
  clear hb3 H12 H2 HB2
  go_wp2_with fail
  refine (HSM.out _ _ w3 (run.readsN_own H23.out) (HU.out w3 HB3.out)).mono ?_
  rintro e w4 ⟨rfl, hb4⟩
  have hs4 := hb4.size
  have H14 := run.hid (run.own_below H13.out hb4)
  have H24 := run.hid (run.own_below H23.out hb4)
  have HB4 := run.hid (HB3.out.trans (hb4.mono (by omega)))
  clear hb4 H13 H23 HB3
  obtain ⟨a1, c1, rfl⟩ := run.own_value H14.out
  have H1z : Hid (w4.ownsRow w.heap.size 3 1 (.slice a1 N c1) N (over (.int .i64 (-3)) (iv zs) 0)) := H14.out
  clear H14
  go_wp2
  go_loopw [7] (fun vi wr => ∃ i : Nat, i ≤ N ∧ vi = .int .i64 i ∧ Hid (wr.ownsRow w.heap.size 3 1 (.slice a1 N c1) N (over (.int .i64 (-3)) (iv zs) i)) ∧ Hid (wr.ownsRow w1.heap.size 3 1 v2 N (iv zs)) ∧ Hid (Below w.heap.size w wr) ∧ w1.heap.size ≤ wr.heap.size) (fun vi _ => (N - intOf vi).toNat)
  case atStart => exact ⟨0, by omega, rfl, H1z, H24, HB4, by omega⟩
  case round =>
    clear H1z H24 HB4
    obtain ⟨i, hi, rfl, H4, H5, HB, hsw⟩ := hrel
    by_cases hil : i < N
    · obtain ⟨g4, c4', e4⟩ := own_someE H4.out (by omega)
      simp only [Value.slice.injEq, true_and] at e4
      obtain ⟨rfl, rfl⟩ := e4
      obtain ⟨ho, hg⟩ := H4.out.stored i (.int .i64 (-3))
      have hx := over_next (z := .int .i64 (-3)) (xs := iv zs) (i := i) (by rw [HLL.out]; exact hil)
      rw [hx] at ho
      have hl4 := (H4.out.lt g4 rfl).1
      have hcl : ∃ u, wr.cell? ⟨g4, i, none⟩ = some u := by
        rw [H4.out.cellAt i (by omega)]
        have : i < (over (.int .i64 (-3)) (iv zs) i).length := by rw [over_length _ _ _ (by rw [HLL.out]; omega), HLL.out]; exact hil
        exact ⟨_, List.getElem?_eq_getElem this⟩
      obtain ⟨u0, hcl⟩ := hcl
      have hfz := H4.out.frozenAt i
      have HO := run.hid ho
      have H5' := run.hid (run.own_kept H5.out hg (fun k hk hk' => HAP.out k (hk'.symm ▸ rfl) hk))
      have HB' := run.hid (HB.out.grown hg HB.out.size (by rintro k ⟨⟩; omega))
      have HSW := run.hid (Nat.le_trans hsw hg.size)
      clear ho hg hx H4 H5 HB
      go_wp2
      clear hcl hfz
      go_roundw
      case rel => exact ⟨i + 1, by omega, by go_num, HO, H5', HB', HSW.out⟩
      case measure => simp [intOf]; omega
    · obtain rfl : i = N := by omega
      generalize wr = wz at *
      generalize hhx : over (.int .i64 (-3)) (iv zs) i = HX at *
      have H4z : Hid (wz.ownsRow w.heap.size 3 1 (.slice a1 i c1) (i + 0) (HX ++ List.replicate 0 (.int .i64 (-4)))) := by show World.ownsRow _ _ _ _ _ _ _; rw [List.replicate_zero, List.append_nil]; exact H4.out
      clear H4 hil hhx
      go_wp2
      go_loopw [8, 5] (fun vi va wr => ∃ k : Nat, k ≤ 40 ∧ vi = .int .i64 k ∧ Hid (wr.ownsRow w.heap.size 3 1 va (i + k) (HX ++ List.replicate k (.int .i64 (-4)))) ∧ Hid (wr.ownsRow w1.heap.size 3 1 v2 i (iv zs)) ∧ Hid (Below w.heap.size w wr) ∧ w1.heap.size ≤ wr.heap.size ∧ Hid (∀ k, va.ownBlock = some k → v2.ownBlock ≠ some k)) (fun vi _ _ => (40 - intOf vi).toNat)
      case atStart => exact ⟨0, by omega, rfl, H4z, H5, HB, hsw, HAP⟩
      case round =>
        clear H4z H5 HB hsw
        obtain ⟨k, hk, rfl, H4, H5, HB, hsw, HAv⟩ := hrel
        by_cases hkl : k < 40
        · have hrp := run.hid (show HX ++ List.replicate (k + 1) (Value.int .i64 (-4)) = (HX ++ List.replicate k (.int .i64 (-4))) ++ [.int .i64 (-4)] by rw [List.replicate_succ', List.append_assoc])
          have hww : w.heap.size ≤ wr.heap.size := by omega
          go_wp2_with (at_builtin; refine run.wpList_append_any _ rfl _ _ 22 rfl w.heap.size 3 it (.int .i64 0) 1 8 Try.underlying22 hi0 hz0 hz1 hz2 rfl (by decide) _ _ _ rfl (H4.out.alloc _) _ 1 [.int .i64 (-4)] rfl (run.readsN_new wr [.int .i64 (-4)] 1 1 _ rfl) (by intro u hu; simp only [List.mem_singleton] at hu; subst hu; rfl) (by unfold maxLen; omega) (by omega) (by simp; omega) ?_)
          intro v7 w7 hown7 hgrow7 _ hst7
          have H5' := run.hid (run.own_kept (H5.out.alloc (.cells #[.int .i64 (-4)] 3)) hgrow7 (fun k hk hk' => HAv.out k hk' hk))
          have HA' := run.hid (apart_left hst7 HAv.out (H5.out.alloc (.cells #[.int .i64 (-4)] 3)))
          have HB' := run.hid (run.below_append (HB.out.alloc HB.out.size _) (H4.out.alloc (.cells #[.int .i64 (-4)] 3)) hgrow7 (by simp; omega))
          have hsg := hgrow7.size
          have HSW : Hid (w1.heap.size ≤ w7.heap.size) := by show _ ≤ _; have := hsg; simp at this; omega
          have HO : Hid (w7.ownsRow w.heap.size 3 1 v7 (i + (k + 1)) (HX ++ List.replicate (k + 1) (.int .i64 (-4)))) := by show World.ownsRow _ _ _ _ _ _ _; rw [hrp.out]; simpa [Nat.add_assoc] using hown7
          clear hown7 hgrow7 hst7 hsg H4 H5 HB HAv
          go_wp2
          go_roundw
          case rel => exact ⟨k + 1, by omega, by go_num, HO, H5', HB', HSW.out, HA'⟩
          case measure => simp [intOf]; omega
        · obtain rfl : k = 40 := by omega
          rw [show ((40 : Nat) : Int) = 40 from rfl]
          obtain ⟨ga, ca, rfl⟩ := own_someE H4.out (by omega)
          generalize wr = wy at *
          go_wp2_with fail
          refine (HSM.out _ _ wy (run.readsN_own H5.out) (HU.out wy HB.out)).mono ?_
          rintro e w5 ⟨rfl, hb5⟩
          have HB5 := run.hid (HB.out.trans (hb5.mono HB.out.size))
          clear hb5
          go_wp2_with fail
          refine (HG.out w5 HB5.out).mono ?_
          rintro e w6 ⟨v6, rfl, hown6, hb6⟩
          have HB6 := run.hid (HB5.out.trans (hb6.mono HB5.out.size))
          have H6 := run.hid hown6
          clear hown6 hb6
          go_wp2_with fail
          refine (HSM.out _ _ w6 (run.readsN_own H6.out) (HU.out w6 HB6.out)).mono ?_
          rintro e w7 ⟨rfl, hb7⟩
          have HB7 := run.hid (HB6.out.trans (hb7.mono HB6.out.size))
          clear hb7
          go_wp2
          go_ret
          exact ⟨rfl, HB7.out⟩
end Go.Proofs.Ytgpgbbbcodnieaa.ed
