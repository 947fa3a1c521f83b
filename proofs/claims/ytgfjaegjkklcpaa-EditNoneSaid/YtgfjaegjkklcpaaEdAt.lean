/-
  A gap's At.
-/
import Derived.Test.YtgfjaegjkklcpaaEdTurned
import Derived.Laws.ResultCell
import Derived.BigRegion
import Derived.BigQuiet
namespace Go.Proofs.Ytgfjaegjkklcpaa.ed
open Go Go.RowKit Go.Proofs
set_option linter.unusedVariables false
def AtIs (F : List TV) (i : Int) (w : World) (e : Ending) (w' : World) : Prop :=
  Below w.heap.size w w' ∧ ((∃ k : Nat, i = k ∧ k < F.length ∧ e = .returned (.tuple #[.agg #[.string (F.getD k tv0).1, .int .i64 ((F.getD k tv0).2 : Nat)], .bool true])) ∨
    (¬ (0 ≤ i ∧ i < F.length) ∧ e = .returned (.tuple #[.agg #[.string ⟨#[]⟩, .int .i64 0], .bool false])))
theorem gap_at {g lb n cap f u : Nat} {A : List Value} {F : List TV} {w : World} (hG : edC.G g lb n cap f u A w) (hc : HasC (n * 2) (f * 2) (u * 2) A (cellsT F)) (hl : f + (n - u) = F.length) {k : Nat} (hk : k < F.length) :
    (k < f → w.cell? ⟨lb, k * 2, none⟩ = some (.string (F.getD k tv0).1) ∧ w.cell? ⟨lb, k * 2 + 1, none⟩ = some (.int .i64 ((F.getD k tv0).2 : Nat))) ∧
    (f ≤ k → w.cell? ⟨lb, (u + (k - f)) * 2, none⟩ = some (.string (F.getD k tv0).1) ∧ w.cell? ⟨lb, (u + (k - f)) * 2 + 1, none⟩ = some (.int .i64 ((F.getD k tv0).2 : Nat))) := by
  obtain ⟨h1, h2⟩ := cellsT_at F k hk
  have hfu := hG.fu
  have hun := hG.un
  have hnc := hG.nc
  have hsz := hG.sz
  have hg := has_get hc (by omega) (by omega) (by omega)
  rw [hg] at h1 h2
  refine ⟨fun hlt => ?_, fun hge => ?_⟩
  · rw [if_pos (by omega)] at h1 h2
    rw [blk_cell hG.hl, blk_cell hG.hl, List.getElem?_toArray, List.getElem?_toArray]
    exact ⟨h1, h2⟩
  · rw [if_neg (by omega), if_pos (by omega)] at h1 h2
    rw [blk_cell hG.hl, blk_cell hG.hl, List.getElem?_toArray, List.getElem?_toArray]
    rw [show u * 2 + (k * 2 - f * 2) = (u + (k - f)) * 2 by omega] at h1
    rw [show u * 2 + (k * 2 + 1 - f * 2) = (u + (k - f)) * 2 + 1 by omega] at h2
    exact ⟨h1, h2⟩
theorem two_put (w1 : World) (n : Nat) (a b u v : Value) (t : TypeId) (h : w1.heap[n]? = some (.cells #[a, b] t (0, 0))) :
    ((w1.setCell ⟨n, 0, none⟩ u).setCell ⟨n, 1, none⟩ v).cell? ⟨n, 0, none⟩ = some u ∧ ((w1.setCell ⟨n, 0, none⟩ u).setCell ⟨n, 1, none⟩ v).cell? ⟨n, 1, none⟩ = some v := by
  have h2 := heap_setCell_same _ _ 1 _ _ v (heap_setCell_same _ _ 0 _ _ u h)
  exact ⟨blk_cell h2 0, blk_cell h2 1⟩
theorem below_put (w w1 : World) (n : Nat) (u v : Value) (hB : Below n w w1) : Below n w ((w1.setCell ⟨n, 0, none⟩ u).setCell ⟨n, 1, none⟩ v) :=
  (hB.setCell (p := ⟨n, 0, none⟩) (Nat.le_refl _) _).setCell (p := ⟨n, 1, none⟩) (Nat.le_refl _) _
set_option maxRecDepth 100000 in
set_option maxHeartbeats 4000000 in
theorem at_any {g lb : Nat} {F : List TV} {w : World} (h : GapOf g lb F w) (i : Int) :
    Calls Try.prog 54 #[.pointer (some ⟨g, 0, none⟩), .int .i64 i] w (AtIs F i w) := by
  obtain ⟨n, cap, f, u, A, hG, hc, hn, hl⟩ := h
  have HAT := run.hid (fun k (hk : k < F.length) => gap_at hG hc hl hk)
  have HLEN := run.hid (fun (X : World) (hX : Kept (fun _ => False) w X) => edC.len_any (hG.kept hX (fun h => h) (fun h => h)) (by omega))
  rw [hl] at HLEN
  have hglt := (Array.getElem?_eq_some_iff.1 hG.hg).1
  have hllt := (Array.getElem?_eq_some_iff.1 hG.hl).1
  have hbel := run.below_one w (.cells #[.string ⟨#[]⟩, .int .i64 0] 73)
  have hnew := run.heap_new w (.cells #[.string ⟨#[]⟩, .int .i64 0] 73)
  have hkn := (Kept.refl (fun _ => False) w).alloc (.cells #[.string ⟨#[]⟩, .int .i64 0] 73)
  have HL1 := run.hid (HLEN.out _ hkn)
  have HG := run.hid hG
  have hfu := hG.fu
  have hun := hG.un
  have hnc := hG.nc
  clear hG hc HLEN
  unfold AtIs
  generalize hN : F.length = N at *
  generalize hdt : (fun k => F.getD k tv0) = dt at *
  have hdk : ∀ k, F.getD k tv0 = dt k := fun k => by rw [← hdt]
  simp only [hdk] at HAT ⊢
  clear hdt hdk hN
  by_cases h0 : i < 0
  · clear HL1 HAT HG
    go_enter Try.func54, Try.ntmps54
    go_upto_region 1 with fail
    generalize w.alloc (.cells #[.string ⟨#[]⟩, .int .i64 0] 73) = w1 at *
    have hn0 := blk_cell hnew 0
    have hn1 := blk_cell hnew 1
    change w1.cell? _ = some (.string ⟨#[]⟩) at hn0
    change w1.cell? _ = some (.int .i64 0) at hn1
    have f0 := blk_free hnew 0
    have f1 := blk_free hnew 1
    go_wp2
    have hT := two_put w1 w.heap.size _ _ (.string ⟨#[]⟩) (.int .i64 0) _ hnew
    refine bodyPost_ret (v := .tuple #[.agg #[.string ⟨#[]⟩, .int .i64 0], .bool false]) ((results_cell_tmp rfl _ _ _).trans (by simp [go_sem, hT.1, hT.2])) rfl ?_
    exact ⟨below_put w w1 _ _ _ hbel, .inr ⟨by omega, rfl⟩⟩
  · obtain ⟨k, rfl⟩ : ∃ k : Nat, i = k := ⟨i.toNat, by omega⟩
    clear h0
    go_enter Try.func54, Try.ntmps54
    go_upto_region 1 with fail
    generalize w.alloc (.cells #[.string ⟨#[]⟩, .int .i64 0] 73) = w1 at *
    go_wp2_with fail
    refine HL1.out.mono ?_
    rintro e w2 ⟨rfl, hs2⟩
    have hb2 : Below w.heap.size w w2 := ⟨hs2.os.trans hbel.os, hs2.tape.trans hbel.tape, hs2.output.trans hbel.output, by rw [hs2.heap]; exact hbel.size, fun k hk => by rw [hs2.heap]; exact hbel.block k hk⟩
    have hnew2 := hs2.blk hnew
    have hn0 := blk_cell hnew2 0
    have hn1 := blk_cell hnew2 1
    change w2.cell? _ = some (.string ⟨#[]⟩) at hn0
    change w2.cell? _ = some (.int .i64 0) at hn1
    have f0 := blk_free hnew2 0
    have f1 := blk_free hnew2 1
    have HK2 := run.hid (Same.kept hkn hs2)
    clear HL1 hbel hnew hs2 hkn
    by_cases hk : k < N
    · have hin : ¬ ((N : Nat) : Int) ≤ (k : Int) := by omega
      have hg2 := (HG.out.kept HK2.out (fun h => h) (fun h => h)).hg
      have g0 := blk_cell hg2 0
      have g1 := blk_cell hg2 1
      have g2 := blk_cell hg2 2
      change w2.cell? _ = some (.slice (some ⟨lb, 0, none⟩) n cap) at g0
      change w2.cell? _ = some (.int .i64 (f : Nat)) at g1
      change w2.cell? _ = some (.int .i64 (u : Nat)) at g2
      obtain ⟨ha, hb⟩ := HAT.out k hk
      have hcl : ∀ o v, w.cell? ⟨lb, o, none⟩ = some v → w2.cell? ⟨lb, o, none⟩ = some v := fun o v h => (hb2.cell (p := ⟨lb, o, none⟩) hllt).trans h
      by_cases hf : k < f
      · obtain ⟨a0, a1⟩ := ha hf
        have x0 := hcl _ _ a0
        have x1 := hcl _ _ a1
        have hkn : k < n := by omega
        clear ha hb hcl a0 a1 HAT HG hg2 HK2
        obtain ⟨q, hq⟩ : ∃ q, dt k = q := ⟨_, rfl⟩
        rw [hq] at x0 x1
        have HQ := run.hid hq
        clear hq
        obtain ⟨qt, qw⟩ := q
        dsimp only at x0 x1
        go_wp2
        have hT := two_put w2 w.heap.size _ _ (.string qt) (.int .i64 (qw : Nat)) _ hnew2
        refine bodyPost_ret (v := .tuple #[.agg #[.string qt, .int .i64 (qw : Nat)], .bool true]) ((results_cell_tmp rfl _ _ _).trans (by simp [go_sem, hT.1, hT.2])) rfl ?_
        exact ⟨below_put w w2 _ _ _ hb2, .inl ⟨k, rfl, hk, by rw [HQ.out]⟩⟩
      · obtain ⟨a0, a1⟩ := hb (by omega)
        have x0 := hcl _ _ a0
        have x1 := hcl _ _ a1
        obtain ⟨q0, hq0⟩ : ∃ q0, q0 = u + (k - f) := ⟨_, rfl⟩
        rw [← hq0] at x0 x1
        have hq0n : q0 < n := by omega
        have hq1 : ((u : Int) + (k : Int) - (f : Int)) = (q0 : Int) := by omega
        clear ha hb hcl a0 a1 HAT HG hg2 HK2 hq0
        obtain ⟨q, hq⟩ : ∃ q, dt k = q := ⟨_, rfl⟩
        rw [hq] at x0 x1
        have HQ := run.hid hq
        clear hq
        obtain ⟨qt, qw⟩ := q
        dsimp only at x0 x1
        go_upto_region 5 with fail
        go_region
        go_wp2
        have hT := two_put w2 w.heap.size _ _ (.string qt) (.int .i64 (qw : Nat)) _ hnew2
        refine bodyPost_ret (v := .tuple #[.agg #[.string qt, .int .i64 (qw : Nat)], .bool true]) ((results_cell_tmp rfl _ _ _).trans (by simp [go_sem, hT.1, hT.2])) rfl ?_
        exact ⟨(below_put w w2 _ _ _ hb2).drew, .inl ⟨k, rfl, hk, by rw [HQ.out]⟩⟩
    · have hin : ((N : Nat) : Int) ≤ (k : Int) := by omega
      clear HAT HG HK2
      go_wp2
      have hT := two_put w2 w.heap.size _ _ (.string ⟨#[]⟩) (.int .i64 0) _ hnew2
      refine bodyPost_ret (v := .tuple #[.agg #[.string ⟨#[]⟩, .int .i64 0], .bool false]) ((results_cell_tmp rfl _ _ _).trans (by simp [go_sem, hT.1, hT.2])) rfl ?_
      exact ⟨below_put w w2 _ _ _ hb2, .inr ⟨by omega, rfl⟩⟩
end Go.Proofs.Ytgfjaegjkklcpaa.ed
