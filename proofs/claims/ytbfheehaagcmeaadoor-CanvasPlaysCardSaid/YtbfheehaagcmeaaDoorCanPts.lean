/-
  The walks of the helpers of the laws of layer canvas: points as complex numbers, as the document has them; alike.
-/
import Derived.Test.YtbfheehaagcmeaaDoorCanTurn
import Derived.Test.YtbfheehaagcmeaaDoorWrpStep
import Derived.Deep.RegionLaw
namespace Go.Proofs.YtbfheehaagcmeaaDoor.can
open Go.RowKit Go.Proofs Go.Proofs.YtbfheehaagcmeaaDoor.flo
set_option linter.unusedVariables false

/-- the cells of a list of points -/
def cellsP (l : List (Nat × Nat)) : List Value := l.flatMap fun p => [F p.1, F p.2]
theorem cellsP_len (l : List (Nat × Nat)) : (cellsP l).length = l.length * 2 := by
  unfold cellsP
  induction l with
  | nil => rfl
  | cons p l ih => rw [List.flatMap_cons, List.length_append, ih, List.length_cons]; simp; omega
theorem cellsP_at : ∀ (l : List (Nat × Nat)) (k : Nat), k < l.length → (cellsP l)[k * 2]? = some (F (l.getD k (0, 0)).1) ∧ (cellsP l)[k * 2 + 1]? = some (F (l.getD k (0, 0)).2)
  | [], k, h => by simp at h
  | p :: l, 0, h => ⟨rfl, rfl⟩
  | p :: l, k + 1, h => by
    have := cellsP_at l k (by simpa using h)
    unfold cellsP at *
    rw [List.flatMap_cons, show (k + 1) * 2 = k * 2 + 2 by omega, show k * 2 + 2 + 1 = k * 2 + 1 + 2 by omega]
    exact this
theorem readsP {w : World} {a : Option Addr} {cap : Nat} {l : List (Nat × Nat)} (h : run.ReadsN 2 w (.slice a l.length cap) l.length (cellsP l)) {k : Nat} (hk : k < l.length) :
    ∃ b off, a = some ⟨b, off, none⟩ ∧ b < w.heap.size ∧ ∀ k, k < l.length → w.cell? ⟨b, off + k * 2, none⟩ = some (F (l.getD k (0, 0)).1) ∧ w.cell? ⟨b, off + k * 2 + 1, none⟩ = some (F (l.getD k (0, 0)).2) := by
  obtain ⟨hl, a0, c0, he, hc, hn⟩ := h
  simp only [Value.slice.injEq] at he
  obtain ⟨rfl, -, rfl⟩ := he
  obtain ⟨b, off, e, hb, hcl⟩ := hc (by intro e; have := congrArg List.length e; rw [cellsP_len, List.length_nil] at this; omega)
  refine ⟨b, off, e, hb, fun k hk => ?_⟩
  have := cellsP_at l k hk
  exact ⟨hcl _ _ this.1, hcl _ _ this.2⟩

theorem below_drew (w : World) (B : Nat) : Below B w w.drew := ⟨rfl, rfl, rfl, Nat.le_refl _, fun _ _ => rfl⟩

set_option maxRecDepth 100000 in
set_option maxHeartbeats 4000000 in
theorem points_any (l : List (Nat × Nat)) (a : Option Addr) (cap : Nat) (w : World) (hR : run.ReadsN 2 w (.slice a l.length cap) l.length (cellsP l)) (hlen : l.length * 16 ≤ 140737488355328) :
    Calls Tryd.prog 12 #[.slice a l.length cap] w fun e w' => ∃ v, e = .returned v ∧ w'.ownsRow w.heap.size 44 1 v l.length (l.map C) ∧ Below w.heap.size w w' := by
  obtain ⟨i, hi, hz0, hz1, hz2⟩ := info_parts info_c128
  obtain ⟨N, hN⟩ : ∃ N, N = l.length := ⟨_, rfl⟩
  have HRR := run.hid (fun w' (hb : Below w.heap.size w w') => hR.below hb)
  rw [← hN] at HRR hlen ⊢
  have HN := run.hid hN
  have hNl : N ≤ 8796093022208 := by omega
  have HLEN := run.hid hlen
  clear hN hR hlen
  go_enter Tryd.func12, Tryd.ntmps12
  go_wp2
  go_loopw [3, 4] (fun v kv wr => ∃ k : Nat, k ≤ N ∧ kv = .int .i64 k ∧ Hid (wr.ownsRow w.heap.size 44 1 v k ((l.take k).map C)) ∧ Hid (Below w.heap.size w wr)) (fun _ v _ => N - (intOf v).toNat)
  case atStart => exact ⟨0, Nat.zero_le _, rfl, World.ownsRow_nil _ _ _ _, Below.refl _ _⟩
  case round =>
    obtain ⟨k, hk, rfl, HO, HB⟩ := hrel
    have hsz := HB.out.size
    by_cases hlt : k < N
    · have hRx := HRR.out _ HB.out
      rw [HN.out] at hRx
      obtain ⟨b, off, rfl, hb, hcl⟩ := readsP hRx (by rw [← HN.out]; exact hlt)
      obtain ⟨hc1, hc2⟩ := hcl k (by rw [← HN.out]; exact hlt)
      obtain ⟨⟨p1, p2⟩, hp⟩ : ∃ p, p = l.getD k (0, 0) := ⟨_, rfl⟩
      rw [← hp] at hc1 hc2
      have HT := run.hid (show (l.take (k + 1)).map C = (l.take k).map C ++ [C (p1, p2)] by
        have h1 : k < l.length := by rw [← HN.out]; exact hlt
        rw [List.take_succ_eq_append_getElem h1, hp, List.map_append]
        congr 1
        simp [List.getD_eq_getElem?_getD, h1])
      clear hcl hRx hp
      simp only at hc1 hc2
      have hne1 : ¬ b = wr.heap.size := by omega
      have hne2 : ¬ wr.heap.size = b := by omega
      have HBS := run.hid hb
      clear hb
      go_wp2_with fail
      go_region_law (first | (refine step_append_any _ rfl _ _ 41 rfl w.heap.size 44 i (.complex .f64 0 0) 1 16 Tryd.underlying41 hi hz0 hz1 hz2 rfl (by decide) _ _ _ rfl (HO.out.drew.alloc _) _ 1 [.complex .f64 p1 p2] rfl (run.readsN_new wr.drew [.complex .f64 p1 p2] 1 1 _ rfl) (by intro u hu; simp only [List.mem_singleton] at hu; subst hu; rfl) (by unfold maxLen; omega) (by omega) (by simp; omega) ?_; intro v8 w8 hown8 hgrow hold hstep))
      all_goals
        have HO8 : Hid (w8.ownsRow w.heap.size 44 1 v8 (k + 1) ((l.take (k + 1)).map C)) := by show World.ownsRow _ _ _ _ _ _ _; rw [HT.out]; exact hown8
        have HB8 := run.hid (run.below_append ((HB.out.trans (below_drew wr w.heap.size)).alloc (by simp; omega) _) (HO.out.drew.alloc _) hgrow (by simp; omega))
        clear hown8 hgrow hold hstep HO HB HT hc1 hc2
        go_wp2
        exact ⟨⟨k + 1, by omega, by go_num, HO8, HB8⟩, by simp [intOf]; omega⟩
    · obtain rfl : k = N := by omega
      go_wp2
      go_ret
      have h1 := HO.out
      rw [List.take_of_length_le (by rw [← HN.out]; exact Nat.le_refl _)] at h1
      exact ⟨_, rfl, h1, HB.out⟩

theorem info_point : (Tryd.prog.info? 111).map (fun i => (i.zero, i.size, i.bytes)) = some (some (.agg #[F 0, F 0]), 2, 16) := by kernel_rfl
theorem cellsP_app (l l' : List (Nat × Nat)) : cellsP (l ++ l') = cellsP l ++ cellsP l' := by unfold cellsP; rw [List.flatMap_append]

set_option maxRecDepth 100000 in
set_option maxHeartbeats 4000000 in
theorem plain_any (l : List (Nat × Nat)) (a : Option Addr) (cap : Nat) (w : World) (hR : run.ReadsN 2 w (.slice a l.length cap) l.length (cellsP l)) (hlen : l.length * 16 ≤ 140737488355328) :
    Calls Tryd.prog 33 #[.slice a l.length cap] w fun e w' => ∃ v, e = .returned v ∧ w'.ownsRow w.heap.size 111 2 v l.length (cellsP l) ∧ Below w.heap.size w w' := by
  obtain ⟨i, hi, hz0, hz1, hz2⟩ := info_parts info_point
  obtain ⟨N, hN⟩ : ∃ N, N = l.length := ⟨_, rfl⟩
  have HRR := run.hid (fun w' (hb : Below w.heap.size w w') => hR.below hb)
  rw [← hN] at HRR hlen ⊢
  have HN := run.hid hN
  have hNl : N ≤ 8796093022208 := by omega
  have HLEN := run.hid hlen
  clear hN hR hlen
  go_enter Tryd.func33, Tryd.ntmps33
  go_wp2
  go_loopw [3, 4] (fun v kv wr => ∃ k : Nat, k ≤ N ∧ kv = .int .i64 k ∧ Hid (wr.ownsRow w.heap.size 111 2 v k (cellsP (l.take k))) ∧ Hid (Below w.heap.size w wr)) (fun _ v _ => N - (intOf v).toNat)
  case atStart => exact ⟨0, Nat.zero_le _, rfl, World.ownsRow_nil _ _ _ _, Below.refl _ _⟩
  case round =>
    obtain ⟨k, hk, rfl, HO, HB⟩ := hrel
    have hsz := HB.out.size
    by_cases hlt : k < N
    · have hRx := HRR.out _ HB.out
      rw [HN.out] at hRx
      obtain ⟨b, off, rfl, hb, hcl⟩ := readsP hRx (by rw [← HN.out]; exact hlt)
      obtain ⟨hc1, hc2⟩ := hcl k (by rw [← HN.out]; exact hlt)
      obtain ⟨⟨p1, p2⟩, hp⟩ : ∃ p, p = l.getD k (0, 0) := ⟨_, rfl⟩
      rw [← hp] at hc1 hc2
      have HT := run.hid (show cellsP (l.take (k + 1)) = cellsP (l.take k) ++ [F p1, F p2] by
        have h1 : k < l.length := by rw [← HN.out]; exact hlt
        have h2 : l[k] = (p1, p2) := by rw [hp]; simp [List.getD_eq_getElem?_getD, h1]
        rw [List.take_succ_eq_append_getElem h1, cellsP_app, h2]
        rfl)
      clear hcl hRx hp
      simp only at hc1 hc2
      have hne1 : ¬ b = wr.heap.size := by omega
      have hne2 : ¬ wr.heap.size = b := by omega
      have HBS := run.hid hb
      clear hb
      go_wp2_with fail
      go_region_law (first | (refine step_append_any _ rfl _ _ 70 rfl w.heap.size 111 i (.agg #[F 0, F 0]) 2 16 Tryd.underlying70 hi hz0 hz1 hz2 rfl (by decide) _ _ _ rfl (HO.out.drew.alloc _) _ 1 [F p1, F p2] rfl (run.readsN_new wr.drew [F p1, F p2] 1 2 _ rfl) (by intro u hu; simp only [List.mem_cons, List.not_mem_nil, or_false] at hu; rcases hu with rfl | rfl <;> rfl) (by unfold maxLen; omega) (by omega) (by simp; omega) ?_; intro v8 w8 hown8 hgrow hold hstep))
      all_goals
        have HO8 : Hid (w8.ownsRow w.heap.size 111 2 v8 (k + 1) (cellsP (l.take (k + 1)))) := by show World.ownsRow _ _ _ _ _ _ _; rw [HT.out]; exact hown8
        have HB8 := run.hid (run.below_append ((HB.out.trans (below_drew wr w.heap.size)).alloc (by simp; omega) _) (HO.out.drew.alloc _) hgrow (by simp; omega))
        clear hown8 hgrow hold hstep HO HB HT hc1 hc2
        go_wp2
        exact ⟨⟨k + 1, by omega, by go_num, HO8, HB8⟩, by simp [intOf]; omega⟩
    · obtain rfl : k = N := by omega
      go_wp2
      go_ret
      have h1 := HO.out
      rw [List.take_of_length_le (by rw [← HN.out]; exact Nat.le_refl _)] at h1
      exact ⟨_, rfl, h1, HB.out⟩
end Go.Proofs.YtbfheehaagcmeaaDoor.can
