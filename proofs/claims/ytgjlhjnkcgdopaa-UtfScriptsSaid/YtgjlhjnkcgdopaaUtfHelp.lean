/-
  The walks of the helpers of the laws of layer utf: a list marked, grown, looked at.
-/
import Derived.Test.YtgjlhjnkcgdopaaUtfRefText
namespace Go.Proofs.Ytgjlhjnkcgdopaa.utf
open Go.RowKit Go.Proofs
set_option linter.unusedVariables false

def reps (n : Nat) (x : Int) : List Value := List.replicate n (Value.int .i32 x)
theorem reps_rv (n : Nat) (x : Int) : reps n x = rv (List.replicate n x) := by simp [reps, rv]
theorem mark_step {xs : List Value} {n k : Nat} (x : Int) (hx : xs.length = n) (hk : k < n) : (reps k x ++ xs.drop k).set k (.int .i32 x) = reps (k + 1) x ++ xs.drop (k + 1) := by
  have hd : xs.drop k = xs[k] :: xs.drop (k + 1) := List.drop_eq_getElem_cons (by omega)
  rw [hd, List.set_append_right _ _ (by simp [reps])]
  simp only [reps, List.length_replicate, Nat.sub_self, List.set_cons_zero]
  rw [List.replicate_succ', List.append_assoc]
  rfl

set_option maxHeartbeats 1000000 in
theorem mark_any (B : Nat) (v : Value) (n : Nat) (xs : List Value) (x : Int) (w : World) (hown : w.ownsRow B 21 1 v n xs) (hn : n < 4611686018427387904) :
    Calls Try.prog 16 #[v, .int .i32 x] w fun e w' => e = .returned (.tuple #[]) ∧ w'.ownsRow B 21 1 v n (reps n x) ∧ w.grownBy w' v.ownBlock := by
  obtain ⟨hl, hcase⟩ := hown
  rcases hcase with ⟨rfl, rfl⟩ | ⟨g, cap, cur, rfl, hbg, hg, hnc, hcm, hcs, htake⟩
  · go_enter Try.func16, Try.ntmps16
    go_wp2
    refine wp_loop_rounds 1 ?_
    rw [rounds_succ]
    go_wp2
    go_end0
    exact ⟨rfl, World.ownsRow_nil _ _ _ _, World.grownBy.refl w _⟩
  · have hown : w.ownsRow B 21 1 (.slice (some ⟨g, 0, none⟩) n cap) n xs := ⟨hl, .inr ⟨g, cap, cur, rfl, hbg, hg, hnc, hcm, hcs, htake⟩⟩
    have hxl := run.hid (show xs.length = n by omega)
    have hcap : cap ≤ 9223372036854775807 := hcm
    clear hl htake hcs hg hcm
    go_enter Try.func16, Try.ntmps16
    go_wp2
    go_loopw [4] (fun vk wr => ∃ k : Nat, k ≤ n ∧ vk = .int .i64 k ∧ wr.ownsRow B 21 1 (.slice (some ⟨g, 0, none⟩) n cap) n (reps k x ++ xs.drop k) ∧ w.grownBy wr (some g)) (fun k _ => (n - intOf k).toNat)
    case atStart => exact ⟨0, by omega, rfl, by simpa [reps] using hown, World.grownBy.refl w _⟩
    case round =>
      obtain ⟨k, hk, rfl, hownr, hgr⟩ := hrel
      by_cases hkl : k < n
      · have hlen : (reps k x ++ xs.drop k).length = n := by have := hxl.out; simp [reps]; omega
        obtain ⟨u, hu⟩ : ∃ u, (reps k x ++ xs.drop k)[k]? = some u := ⟨_, List.getElem?_eq_getElem (by omega)⟩
        have hcell := (hownr.cellAt k (by omega)).trans hu
        have hfree := hownr.frozenAt k
        have hst := (hownr.stored k (.int .i32 x)).1
        rw [mark_step x hxl.out hkl] at hst
        have hgr2 : w.grownBy (wr.setCell ⟨g, k, none⟩ (.int .i32 x)) (some g) := run.grown_trans hgr (r' := some g) ⟨rfl, rfl, rfl, by simp [World.setCell], fun j hj hne => Below.heap_setCell _ _ _ _ (by intro e; exact hne (by rw [e]))⟩ (.inl rfl)
        clear hlen hu hownr hgr hown
        go_wp2
        go_roundw
        case rel => exact ⟨k + 1, by omega, by go_num, hst, hgr2⟩
        case measure => simp [intOf]; omega
      · obtain rfl : k = n := by omega
        have hfin : wr.ownsRow B 21 1 (.slice (some ⟨g, 0, none⟩) k cap) k (reps k x) := by
          have h0 : xs.drop k = [] := List.drop_eq_nil_of_le (by have := hxl.out; omega)
          rw [h0, List.append_nil] at hownr
          exact hownr
        clear hownr hown
        go_wp2
        go_end0
        exact ⟨rfl, hfin, hgr⟩

theorem reps_snoc (n : Nat) (x : Int) : reps n x ++ [.int .i32 x] = reps (n + 1) x := by simp [reps, List.replicate_succ']

set_option maxHeartbeats 1000000 in
theorem grow_any (B : Nat) (v : Value) (n : Nat) (xs : List Value) (x : Int) (w : World) (hown : w.ownsRow B 21 1 v n xs) (hn : n < 35184372088700) (hB : B ≤ w.heap.size) :
    Calls Try.prog 17 #[v, .int .i32 x] w fun e w' => ∃ v', e = .returned v' ∧ run.Grow B 21 1 w v n xs v' (n + 70) (reps 70 x) w' := by
  obtain ⟨i0, hi, hz0, hz1, hz2⟩ := info_parts info_rune
  have hlt := run.hid (fun k hk => (hown.lt k hk).2)
  have hxl := run.hid (show xs.length = n * 1 from hown.1)
  go_enter Try.func17, Try.ntmps17
  go_wp2
  go_loopw [0, 5] (fun vv vk wr => ∃ k : Nat, k ≤ 70 ∧ vk = .int .i64 k ∧ Hid (run.Grow B 21 1 w v n xs vv (n + k) (reps k x) wr)) (fun _ k _ => (70 - intOf k).toNat)
  case atStart => exact ⟨0, by omega, rfl, run.hid (run.Grow.refl hown)⟩
  case round =>
    obtain ⟨k, hk, rfl, HG⟩ := hrel
    by_cases hkl : k < 70
    · have hnew := HG.out.new
      have hsz := HG.out.grown.size
      go_wp2_with (at_builtin; refine run.wpList_append_any _ rfl _ _ 22 rfl B 21 i0 (.int .i32 0) 1 4 Try.underlying22 hi hz0 hz1 hz2 rfl (by decide) _ (n + k) _ rfl (hnew.alloc _) _ 1 [.int .i32 x] rfl (run.readsN_new wr [.int .i32 x] 1 1 _ rfl) (by intro u hu; simp at hu; subst hu; rfl) (by unfold maxLen; omega) (by omega) (by simp; omega) ?_)
      intro v' w2 hown2 hgrow hold hstep
      have hg1 : run.Grow B 21 1 w v n xs u0 (n + k) (reps k x) (wr.alloc (.cells #[.int .i32 x] 21)) :=
        ⟨HG.out.new.alloc _, HG.out.old.alloc _, run.grown_trans HG.out.grown (World.grownBy_alloc _ _ none) (.inr (by intro k hk; cases hk)), HG.out.step, HG.out.le⟩
      have hg2 := run.hid (hg1.next (zs := [Value.int .i32 x]) hxl.out hlt.out (by rw [List.append_assoc]; exact hown2) hgrow hold hstep)
      rw [reps_snoc] at hg2
      clear hnew hown2 hgrow hold hstep hg1 HG
      go_wp2
      go_roundw
      case rel => exact ⟨k + 1, by omega, by go_num, hg2⟩
      case measure => simp [intOf]; omega
    · obtain rfl : k = 70 := by omega
      go_wp2
      go_ret
      exact ⟨_, rfl, HG.out⟩

set_option maxHeartbeats 1000000 in
theorem marked_any (v : Value) (n : Nat) (x : Int) (w : World) (hr : run.Reads w v (reps n x)) (hn : n < 4611686018427387904) :
    Calls Try.prog 18 #[v, .int .i32 x] w fun e w' => e = .returned (.bool true) ∧ Below w.heap.size w w' := by
  obtain ⟨a, cap, rfl, hc, _⟩ := hr
  have HC : Hid (∀ k, k < n → ∃ b off, a = some ⟨b, off, none⟩ ∧ b < w.heap.size ∧ w.cell? ⟨b, off + k, none⟩ = some (.int .i32 x)) := by
    intro k hk
    obtain ⟨b, off, ha, hlt, hcell⟩ := hc (by intro e; have := congrArg List.length e; simp [reps] at this; omega)
    exact ⟨b, off, ha, hlt, hcell k _ (by simp [reps, hk])⟩
  clear hc
  have hl : (reps n x).length = n := by simp [reps]
  rw [hl]
  clear hl
  go_enter Try.func18, Try.ntmps18
  go_wp2
  go_loopw [5] (fun vk wr => ∃ k : Nat, k ≤ n ∧ vk = .int .i64 k ∧ Below w.heap.size w wr) (fun k _ => (n - intOf k).toNat)
  case atStart => exact ⟨0, by omega, rfl, Below.refl _ _⟩
  case round =>
    obtain ⟨k, hk, rfl, hbel⟩ := hrel
    by_cases hkl : k < n
    · obtain ⟨b, off, rfl, hlt, hcell⟩ := HC.out k hkl
      have hck := (hbel.cell (p := ⟨b, off + k, none⟩) hlt).trans hcell
      clear hcell
      go_wp2
      go_roundw
      case rel => exact ⟨k + 1, by omega, by go_num, hbel⟩
      case measure => simp [intOf]; omega
    · obtain rfl : k = n := by omega
      go_wp2
      go_ret
      exact ⟨rfl, hbel⟩

end Go.Proofs.Ytgjlhjnkcgdopaa.utf
