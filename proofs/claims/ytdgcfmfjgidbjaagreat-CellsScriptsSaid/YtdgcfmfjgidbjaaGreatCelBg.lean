/-
  A pair of buffers is begun.
-/
import Derived.Test.YtdgcfmfjgidbjaaGreatCelPall
namespace Go.Proofs.YtdgcfmfjgidbjaaGreat.cel
open Go Go.RowKit Go.Proofs
set_option linter.unusedVariables false
def newPR (pb b g r W H : Nat) (v : Value) : PR := ⟨pb, b, g, r, W, H, v, pb + 1, .slice none 0 0, .slice none 0 0, 0, 0, fun _ => .slice none 0 0, fun _ => .slice none 0 0, fun _ => []⟩
theorem new_pair {w1 w2 w3 : World} {b g r W H : Nat} {v : Value} {L : List CV} (hb : Buf w2 b g W H L) (hr : r = w2.heap.size) (hw : Below w2.heap.size w2 w3) (hrb : RB w3 (r + 1) r v W H L) :
    PB (newPR w3.heap.size b g r W H v) L L (w3.alloc (.cells #[.pointer (some ⟨b, 0, none⟩), .pointer (some ⟨r, 0, none⟩), .slice none 0 0, .slice none 0 0] 51)) := by
  have hl := hb.lt
  have hrl := hrb.lt
  have h1 := run.below_one w3 (.cells #[.pointer (some ⟨b, 0, none⟩), .pointer (some ⟨r, 0, none⟩), .slice none 0 0, .slice none 0 0] 51)
  refine ⟨run.heap_new w3 _, (hb.below hw).below h1, hrb.below h1, World.ownsRow_nil _ _ _ _, World.ownsRow_nil _ _ _ _, fun j hj => absurd hj (Nat.not_lt_zero j), fun j hj => absurd hj (Nat.not_lt_zero j), fun j hj => absurd hj (fun h => h.elim (Nat.not_lt_zero j) (Nat.not_lt_zero j)), fun i j hi => absurd hi (Nat.not_lt_zero i), (fun k e => by cases e), ?_, ?_, ?_, ?_, Nat.lt_succ_self _, ?_⟩
  · show g < r
    omega
  · show b < r
    omega
  · show r < w3.heap.size
    omega
  · intro k hk
    exact (hrb.row.lt k hk).2
  · show w3.heap.size + 1 ≤ _
    rw [World.size_alloc]
    exact Nat.le_refl _
theorem new_blk {pb b g r W H n : Nat} {v : Value} (h1 : n ≤ pb) (h2 : n ≤ b) (h3 : n ≤ g) (h4 : n ≤ r) (h5 : ∀ k, v.ownBlock = some k → n ≤ k) : ∀ k, (newPR pb b g r W H v).blk k → n ≤ k := by
  intro k hk
  rcases hk with rfl | rfl | rfl | rfl | h | h | h | ⟨j, hj, -⟩ | ⟨j, hj, -⟩
  · exact h1
  · exact h2
  · exact h3
  · exact h4
  · exact h5 k h
  · cases h
  · cases h
  · exact absurd hj (Nat.not_lt_zero j)
  · exact absurd hj (Nat.not_lt_zero j)
set_option maxRecDepth 100000 in
set_option maxHeartbeats 4000000 in
theorem begun_any (W H : Int) (a : Option Addr) (n cap : Nat) (w : World) : Calls Tryz.prog 5 #[.agg #[.int .i64 W, .int .i64 H, .slice a n cap]] w fun e w' => Below w.heap.size w w' ∧ (e = .returned (.tuple #[.pointer none, .bool true]) ∨ ∃ (q : PR) (L : List CV), e = .returned (.tuple #[.pointer (some ⟨q.pb, 0, none⟩), .bool true]) ∧ PB q L L w' ∧ Strong q.W q.H L ∧ q.n = 0 ∧ q.m = 0 ∧ ∀ k, q.blk k → w.heap.size ≤ k) := by
  have hb := run.below_one w (.cells #[.int .i64 W, .int .i64 H, .slice a n cap] 24)
  have hk := run.heap_new w (.cells #[.int .i64 W, .int .i64 H, .slice a n cap] 24)
  cases hs : sizedOk W H with
  | false =>
    have HN := run.hid (new_no W H)
    have HR := run.hid (rnew_no W H)
    have c0 := blk_cell hk 0
    have c1 := blk_cell hk 1
    change World.cell? _ _ = some (.int .i64 W) at c0
    change World.cell? _ _ = some (.int .i64 H) at c1
    clear hk
    go_enter Tryz.func5, Tryz.ntmps5
    go_upto_region 1 with fail
    have HB := run.hid hb
    clear hb
    generalize w.alloc (.cells #[.int .i64 W, .int .i64 H, .slice a n cap] 24) = w1 at *
    go_wp2_with fail
    refine (HN.out _ hs).mono ?_
    rintro e w2 ⟨rfl, rfl⟩
    go_wp2_with fail
    refine (HR.out _ hs).mono ?_
    rintro e w3 ⟨rfl, rfl⟩
    go_wp2
    go_ret2
    exact ⟨HB.out, .inl rfl⟩
  | true =>
    have hd : 0 ≤ W ∧ W ≤ 4096 ∧ 0 ≤ H ∧ H ≤ 4096 ∧ W * H ≤ 1048576 := by
      unfold sizedOk at hs
      exact of_decide_eq_true hs
    obtain ⟨W', rfl⟩ : ∃ n : Nat, W = n := ⟨W.toNat, by omega⟩
    obtain ⟨H', rfl⟩ : ∃ n : Nat, H = n := ⟨H.toNat, by omega⟩
    have hmul : W' * H' ≤ 1048576 := by
      have := hd.2.2.2.2
      rw [← Int.natCast_mul] at this
      omega
    have HN := run.hid (fun w => new_ok W' H' w (by omega) (by omega) hmul)
    have HR := run.hid (fun w => rnew_ok W' H' w (by omega) (by omega) hmul)
    have HS := run.hid (strong_new W' H')
    have c0 := blk_cell hk 0
    have c1 := blk_cell hk 1
    change World.cell? _ _ = some (.int .i64 (W' : Nat)) at c0
    change World.cell? _ _ = some (.int .i64 (H' : Nat)) at c1
    have HK := run.hid hk
    clear hk hs hd hmul
    generalize hL : fillT (W' * H') (W' * H') = L at *
    clear hL
    go_enter Tryz.func5, Tryz.ntmps5
    go_upto_region 1 with fail
    have HB := run.hid hb
    have hsz : w.heap.size < (w.alloc (.cells #[.int .i64 (W' : Nat), .int .i64 (H' : Nat), .slice a n cap] 24)).heap.size := by rw [World.size_alloc]; exact Nat.lt_succ_self _
    clear hb
    generalize w.alloc (.cells #[.int .i64 (W' : Nat), .int .i64 (H' : Nat), .slice a n cap] 24) = w1 at *
    go_wp2_with fail
    refine (HN.out _).mono ?_
    rintro e w2 ⟨rfl, hbuf, hb2⟩
    have hc2 := hb2.block w.heap.size hsz
    have c0b := blk_cell (hc2.trans HK.out) 0
    have c1b := blk_cell (hc2.trans HK.out) 1
    change w2.cell? _ = some (.int .i64 (W' : Nat)) at c0b
    change w2.cell? _ = some (.int .i64 (H' : Nat)) at c1b
    go_wp2_with fail
    refine (HR.out _).mono ?_
    rintro e w3 ⟨rfl, ⟨v, hrb⟩, hb3⟩
    have HP := run.hid (new_pair (w1 := w1) hbuf rfl hb3 hrb)
    have HBL := run.hid (new_blk (W := W') (H := H') (n := w.heap.size) (v := v) (pb := w3.heap.size) (b := w1.heap.size + 1) (g := w1.heap.size) (r := w2.heap.size) (by have := hb2.size; have := hb3.size; omega) (by omega) (by omega) (by have := hb2.size; omega) (fun k e => by have := (hrb.row.lt k e).1; have := hb2.size; omega))
    have HB3 := run.hid ((HB.out.trans (hb2.mono (Nat.le_of_lt hsz))).trans (hb3.mono (Nat.le_trans (Nat.le_of_lt hsz) hb2.size)))
    clear hbuf hrb hb2 hb3 hc2 c0 c1 c0b c1b HN HR HK HB
    go_wp2
    go_ret2
    exact ⟨HB3.out.alloc HB3.out.size _, .inr ⟨_, L, rfl, HP.out, HS.out, rfl, rfl, HBL.out⟩⟩
end Go.Proofs.YtdgcfmfjgidbjaaGreat.cel
