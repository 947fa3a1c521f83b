/-
  The walks of the helpers of the laws of layer cluster: a list of clusters marked, grown, looked at.
-/
import Derived.Test.YtinedhocmlcfpaaCluRef3
import Derived.Test.YtinedhocmlcfpaaRowKit
namespace Go.Proofs.Ytinedhocmlcfpaa.clu
open Go.RowKit Go.Proofs
open Go.Proofs.Ytinedhocmlcfpaa.wid Go.Proofs.Ytinedhocmlcfpaa.utf
set_option linter.unusedVariables false

def mk (x : Int) : CV := (⟨#[]⟩, x)
def repsC (n : Nat) (x : Int) : List CV := List.replicate n (mk x)
theorem repsC_length (n : Nat) (x : Int) : (repsC n x).length = n := by simp [repsC]
theorem repsC_get {n i : Nat} {x : Int} (h : i < n) : (repsC n x).getD i c0 = mk x := by simp [repsC, List.getD_eq_getElem?_getD, h]
theorem repsC_add (n m : Nat) (x : Int) : repsC n x ++ repsC m x = repsC (n + m) x := by simp [repsC]
theorem markC_step {X : List CV} {k : Nat} (x : Int) (hk : k < X.length) : (repsC k x ++ X.drop k).set k (mk x) = repsC (k + 1) x ++ X.drop (k + 1) := by
  have hd : X.drop k = X[k] :: X.drop (k + 1) := List.drop_eq_getElem_cons hk
  rw [hd, List.set_append_right _ _ (by simp [repsC])]
  simp only [repsC, List.length_replicate, Nat.sub_self, List.set_cons_zero]
  rw [List.replicate_succ', List.append_assoc]
  rfl
theorem cellsI_set : ∀ (L : List CV) (k : Nat) (q : CV), k < L.length → ((cellsI L).set (k * 2) (.string q.1)).set (k * 2 + 1) (.int .i64 q.2) = cellsI (L.set k q)
  | p :: t, 0, q, _ => rfl
  | p :: t, k + 1, q, h => by
    have e : ∀ (p : CV) (t : List CV), cellsI (p :: t) = .string p.1 :: .int .i64 p.2 :: cellsI t := fun _ _ => rfl
    rw [e, show (k + 1) * 2 = k * 2 + 1 + 1 by omega]
    simp only [List.set_cons_succ]
    rw [cellsI_set t k q (by simpa using h), e]

theorem grown_cell (w : World) (g j : Nat) (u : Value) : w.grownBy (w.setCell ⟨g, j, none⟩ u) (some g) :=
  ⟨rfl, rfl, rfl, by simp [World.setCell], fun i hi hne => Below.heap_setCell _ _ _ _ (by intro e; exact hne (by rw [e]))⟩

set_option maxHeartbeats 2000000 in
theorem spoil_any (B : Nat) (v : Value) (X : List CV) (x : Int) (w : World) (hown : w.ownsRow B 36 2 v X.length (cellsI X)) (hn : X.length < 1099511627776) :
    Calls Try.prog 16 #[v, .int .i64 x] w fun e w' => e = .returned (.tuple #[]) ∧ w'.ownsRow B 36 2 v X.length (cellsI (repsC X.length x)) ∧ w.grownBy w' v.ownBlock := by
  obtain ⟨hl, hcase⟩ := hown
  rcases hcase with ⟨rfl, h0⟩ | ⟨g, cap, cur, rfl, hbg, hg, hnc, hcm, hcs, htake⟩
  · have hX : X = [] := List.eq_nil_of_length_eq_zero h0
    subst hX
    go_enter Try.func16, Try.ntmps16
    go_wp2
    refine wp_loop_rounds 1 ?_
    rw [rounds_succ]
    go_wp2
    go_end0
    exact ⟨rfl, World.ownsRow_nil _ _ _ _, World.grownBy.refl w _⟩
  · have hown : w.ownsRow B 36 2 (.slice (some ⟨g, 0, none⟩) X.length cap) X.length (cellsI X) := ⟨hl, .inr ⟨g, cap, cur, rfl, hbg, hg, hnc, hcm, hcs, htake⟩⟩
    have HMS := run.hid (fun k => @markC_step X k x)
    have HSET := run.hid (fun k (h : k < X.length) => cellsI_set (repsC k x ++ X.drop k) k (mk x) (by rw [List.length_append, repsC_length, List.length_drop]; omega))
    have HLEN := run.hid (fun k (h : k < X.length) => (show (repsC k x ++ X.drop k).length = X.length from by rw [List.length_append, repsC_length, List.length_drop]; omega))
    have HEND := run.hid (show X.drop X.length = [] from List.drop_length)
    clear hl htake hcs hg hcm
    generalize hN : X.length = N at *
    go_enter Try.func16, Try.ntmps16
    clear hN
    go_wp2
    go_loopw [4] (fun vk wr => ∃ k : Nat, k ≤ N ∧ vk = .int .i64 k ∧ wr.ownsRow B 36 2 (.slice (some ⟨g, 0, none⟩) N cap) N (cellsI (repsC k x ++ X.drop k)) ∧ w.grownBy wr (some g)) (fun k _ => (N - intOf k).toNat)
    case atStart => exact ⟨0, by omega, rfl, by simpa [repsC] using hown, World.grownBy.refl w _⟩
    case round =>
      obtain ⟨k, hk, rfl, hownr, hgr⟩ := hrel
      by_cases hkl : k < N
      · obtain ⟨g1, g2⟩ := cellsI_get (repsC k x ++ X.drop k) k (by rw [HLEN.out k hkl]; exact hkl)
        have hc1 := (hownr.cellAt (k * 2) (by omega)).trans g1
        have hc2 := (hownr.cellAt (k * 2 + 1) (by omega)).trans g2
        have hf1 := hownr.frozenAt (k * 2)
        have hf2 := hownr.frozenAt (k * 2 + 1)
        have hst := ((hownr.stored (k * 2) (.string ⟨#[]⟩)).1.stored (k * 2 + 1) (.int .i64 x)).1
        have hgr2 := run.grown_trans (run.grown_trans hgr (grown_cell wr g (k * 2) (.string ⟨#[]⟩)) (.inl rfl)) (grown_cell _ g (k * 2 + 1) (.int .i64 x)) (.inl rfl)
        have HH := run.hid (HSET.out k hkl)
        have hst2 : ((wr.setCell ⟨g, k * 2, none⟩ (.string ⟨#[]⟩)).setCell ⟨g, k * 2 + 1, none⟩ (.int .i64 x)).ownsRow B 36 2 (.slice (some ⟨g, 0, none⟩) N cap) N (cellsI (repsC (k + 1) x ++ X.drop (k + 1))) := by
          rw [← HMS.out k hkl, ← HH.out]; exact hst
        clear g1 g2 hst hownr hgr hown
        go_wp2
        go_roundw
        case rel => exact ⟨k + 1, by omega, by go_num, hst2, hgr2⟩
        case measure => simp [intOf]; omega
      · obtain rfl : k = N := by omega
        have hfin : wr.ownsRow B 36 2 (.slice (some ⟨g, 0, none⟩) k cap) k (cellsI (repsC k x)) := by
          rw [HEND.out, List.append_nil] at hownr
          exact hownr
        clear hownr hown
        go_wp2
        go_end0
        exact ⟨rfl, hfin, hgr⟩

theorem cellsI_one (l : List CV) : ∀ u ∈ cellsI l, u.oneCell' = true := by
  intro u hu
  unfold cellsI at hu
  obtain ⟨q, -, hu⟩ := List.mem_flatMap.1 hu
  simp only [List.mem_cons, List.not_mem_nil, or_false] at hu
  rcases hu with rfl | rfl <;> rfl
theorem repsC_snoc (k : Nat) (x : Int) : cellsI (repsC k x) ++ [.string ⟨#[]⟩, .int .i64 x] = cellsI (repsC (k + 1) x) := by
  rw [← repsC_add k 1, cellsI_append]; rfl

set_option maxHeartbeats 2000000 in
theorem grown_any (B : Nat) (v : Value) (X : List CV) (x : Int) (w : World) (hown : w.ownsRow B 36 2 v X.length (cellsI X)) (hn : X.length < 1099511627776) (hB : B ≤ w.heap.size) :
    Calls Try.prog 17 #[v, .int .i64 x] w fun e w' => ∃ v', e = .returned v' ∧ run.Grow B 36 2 w v X.length (cellsI X) v' (X.length + 70) (cellsI (repsC 70 x)) w' := by
  obtain ⟨i0, hi, hz0, hz1, hz2⟩ := info_parts info_clu
  have hlt := run.hid (fun k hk => (hown.lt k hk).2)
  have hxl := run.hid hown.1
  generalize X.length = n at *
  generalize cellsI X = xs at *
  go_enter Try.func17, Try.ntmps17
  go_wp2
  go_loopw [0, 5] (fun vv vk wr => ∃ k : Nat, k ≤ 70 ∧ vk = .int .i64 k ∧ Hid (run.Grow B 36 2 w v n xs vv (n + k) (cellsI (repsC k x)) wr)) (fun _ k _ => (70 - intOf k).toNat)
  case atStart => exact ⟨0, by omega, rfl, run.hid (run.Grow.refl hown)⟩
  case round =>
    obtain ⟨k, hk, rfl, HG⟩ := hrel
    by_cases hkl : k < 70
    · have hnew := HG.out.new
      have hsz := HG.out.grown.size
      go_wp2_with (at_builtin; refine run.wpList_append_any _ rfl _ _ 22 rfl B 36 i0 (.agg #[.string ByteArray.empty, .int .i64 0]) 2 24 Try.underlying22 hi hz0 hz1 hz2 rfl (by decide) _ (n + k) _ rfl (hnew.alloc _) _ 1 [.string ⟨#[]⟩, .int .i64 x] rfl (run.readsN_new wr [.string ⟨#[]⟩, .int .i64 x] 1 2 _ rfl) (cellsI_one [mk x]) (by unfold maxLen; omega) (by omega) (by simp; omega) ?_)
      intro v' w2 hown2 hgrow hold hstep
      have hg1 : run.Grow B 36 2 w v n xs u0 (n + k) (cellsI (repsC k x)) (wr.alloc (.cells #[.string ⟨#[]⟩, .int .i64 x] 36)) :=
        ⟨HG.out.new.alloc _, HG.out.old.alloc _, run.grown_trans HG.out.grown (World.grownBy_alloc _ _ none) (.inr (by intro k hk; cases hk)), HG.out.step, HG.out.le⟩
      have hg2 := run.hid (hg1.next (zs := [.string ⟨#[]⟩, .int .i64 x]) hxl.out hlt.out (by rw [List.append_assoc]; exact hown2) hgrow hold hstep)
      rw [repsC_snoc] at hg2
      clear hnew hown2 hgrow hold hstep hg1 HG
      go_wp2
      go_roundw
      case rel => exact ⟨k + 1, by omega, by go_num, hg2⟩
      case measure => simp [intOf]; omega
    · obtain rfl : k = 70 := by omega
      go_wp2
      go_ret
      exact ⟨_, rfl, HG.out⟩

set_option maxHeartbeats 2000000 in
theorem full_any (v : Value) (n : Nat) (x : Int) (w : World) (hr : ReadsI w v (repsC n x)) (hn : n < 1099511627776) :
    Calls Try.prog 18 #[v, .int .i64 x] w fun e w' => e = .returned (.bool true) ∧ Below w.heap.size w w' := by
  obtain ⟨a, cap, rfl, hc⟩ := hr
  have HC : Hid (∀ k, k < n → ∃ b off, a = some ⟨b, off, none⟩ ∧ b < w.heap.size ∧ w.cell? ⟨b, off + k * 2, none⟩ = some (.string ⟨#[]⟩) ∧ w.cell? ⟨b, off + k * 2 + 1, none⟩ = some (.int .i64 x)) := by
    intro k hk
    obtain ⟨b, off, ha, hlt, h1, h2⟩ := hc k (by rw [repsC_length]; exact hk)
    rw [repsC_get hk] at h1 h2
    exact ⟨b, off, ha, hlt, h1, h2⟩
  clear hc
  rw [repsC_length]
  go_enter Try.func18, Try.ntmps18
  go_wp2
  go_loopw [5] (fun vk wr => ∃ k : Nat, k ≤ n ∧ vk = .int .i64 k ∧ Below w.heap.size w wr) (fun k _ => (n - intOf k).toNat)
  case atStart => exact ⟨0, by omega, rfl, Below.refl _ _⟩
  case round =>
    obtain ⟨k, hk, rfl, hbel⟩ := hrel
    by_cases hkl : k < n
    · obtain ⟨b, off, rfl, hlt, h1, h2⟩ := HC.out k hkl
      replace h1 := (hbel.cell (p := ⟨b, off + k * 2, none⟩) hlt).trans h1
      replace h2 := (hbel.cell (p := ⟨b, off + k * 2 + 1, none⟩) hlt).trans h2
      go_wp2
      go_roundw
      case rel => exact ⟨k + 1, by omega, by go_num, hbel⟩
      case measure => simp [intOf]; omega
    · obtain rfl : k = n := by omega
      go_wp2
      go_ret
      exact ⟨rfl, hbel⟩

end Go.Proofs.Ytinedhocmlcfpaa.clu
