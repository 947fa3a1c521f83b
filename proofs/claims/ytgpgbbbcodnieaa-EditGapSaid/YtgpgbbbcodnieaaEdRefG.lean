/-
  The document's gap: Insert, Delete, At. (Printed by gen_refg.py.)
-/
import Derived.Test.YtgpgbbbcodnieaaEdGapM
import Derived.Test.YtgpgbbbcodnieaaRack
import Derived.Deep.OwnRows
import Derived.Lib.MinMax
namespace Go.Proofs.Ytgpgbbbcodnieaa.ed
open Go Go.RowKit Go.Proofs
set_option linter.unusedVariables false
/-- the document's gap as it lies: a box with a list of these -/
structure RefL (r : Nat) (v : Value) (zs : List Int) (w : World) : Prop where
  box : w.rowIs r 30 1 fun _ => v
  own : w.ownsRow 0 3 1 v zs.length (iv zs)
  ne : ∀ k, v.ownBlock = some k → k ≠ r
theorem setCell_grownR (w : World) (g j : Nat) (u : Value) : w.grownBy (w.setCell ⟨g, j, none⟩ u) (some g) :=
  ⟨rfl, rfl, rfl, by simp [World.setCell], fun i hi hne => Below.heap_setCell _ _ _ _ (by intro e; exact hne (by rw [e]))⟩
theorem info_i64 : (Try.prog.info? 3).map (fun i => (i.zero, i.size, i.bytes)) = some (some (.int .i64 0), 1, 8) := by kernel_rfl
theorem part_reads {w : World} {B g n cap lo m c : Nat} {zs : List Int} (h : w.ownsRow B 3 1 (.slice (some ⟨g, 0, none⟩) n cap) n (iv zs)) (hl : zs.length = n) (hm : lo + m ≤ n) :
    run.ReadsN 1 w (.slice (some ⟨g, lo, none⟩) m c) m (iv ((zs.drop lo).take m)) := by
  have hlen : ((zs.drop lo).take m).length = m := by rw [List.length_take, List.length_drop]; omega
  refine ⟨by rw [iv_length, hlen, Nat.mul_one], _, c, rfl, fun _ => ⟨g, lo, rfl, (h.lt g rfl).2, fun i u hi => ?_⟩, fun h => by cases h⟩
  have hi2 : i < m := by
    rcases Nat.lt_or_ge i m with h2 | h2
    · exact h2
    · rw [List.getElem?_eq_none (by rw [iv_length, hlen]; exact h2)] at hi; cases hi
  rw [h.cellAt (lo + i) (by omega), ← hi]
  unfold iv
  rw [List.getElem?_map, List.getElem?_map, List.getElem?_take_of_lt hi2, List.getElem?_drop]
theorem iv_nil : iv [] = [] := rfl
theorem none_reads (w : World) : run.ReadsN 1 w (.slice none 0 0) 0 (iv []) := ⟨rfl, none, 0, rfl, fun h => absurd rfl h, fun _ => rfl⟩
theorem zero_reads (w : World) (x : Addr) (c : Nat) : run.ReadsN 1 w (.slice (some x) 0 c) 0 (iv []) := ⟨rfl, some x, c, rfl, fun h => absurd rfl h, fun h => by cases h⟩
theorem own_some0 {w : World} {B e sz n cap : Nat} {g : Nat} {xs : List Value} (h : w.ownsRow B e sz (.slice (some ⟨g, 0, none⟩) n cap) n xs) : n ≤ cap ∧ cap ≤ 9223372036854775807 := by
  rcases h.2 with ⟨h0, -⟩ | ⟨g', cap', cur, h0, -, -, h1, h2, -⟩
  · simp at h0
  · simp only [Value.slice.injEq] at h0
    obtain ⟨-, -, rfl⟩ := h0
    exact ⟨h1, h2⟩
theorem RefL.cases {r : Nat} {v : Value} {zs : List Int} {w : World} (h : RefL r v zs w) : (v = .slice none 0 0 ∧ zs = []) ∨ ∃ g cap, v = .slice (some ⟨g, 0, none⟩) zs.length cap := by
  rcases h.own.2 with ⟨h0, h1⟩ | ⟨g, cap, cur, h0, -⟩
  · exact .inl ⟨h0, List.length_eq_zero_iff.1 h1⟩
  · exact .inr ⟨g, cap, h0⟩
theorem RefL.below {r : Nat} {v : Value} {zs : List Int} {w w' : World} (h : RefL r v zs w) (hb : Below w.heap.size w w') : RefL r v zs w' :=
  ⟨h.box.of_block (hb.block r h.box.lt), run.own_below h.own hb, h.ne⟩
theorem RefL.kept {S : Nat → Prop} {r : Nat} {v : Value} {zs : List Int} {w w' : World} (h : RefL r v zs w) (hk : Kept S w w') (h1 : ¬ S r) (h2 : ∀ k, v.ownBlock = some k → ¬ S k) : RefL r v zs w' := by
  refine ⟨h.box.of_block (hk.block r h.box.lt h1), ?_, h.ne⟩
  obtain ⟨hl, h3⟩ := h.own
  refine ⟨hl, ?_⟩
  rcases h3 with h3 | ⟨g, cap, cur, hv, hg, hh, hr⟩
  · exact .inl h3
  · have hlt : g < w.heap.size := (h.own.lt g (by rw [hv]; rfl)).2
    exact .inr ⟨g, cap, cur, hv, hg, (hk.block g hlt (h2 g (by rw [hv]; rfl))).trans hh, hr⟩
/-- a new list laid into the box -/
theorem RefL.put {r : Nat} {v v' : Value} {zs ys : List Int} {w w' : World} {B : Nat} (h : RefL r v zs w) (hb : Below w.heap.size w w') (hB : w.heap.size ≤ B) (ho : w'.ownsRow B 3 1 v' ys.length (iv ys)) :
    RefL r v' ys (w'.setCell ⟨r, 0, none⟩ v') ∧ Kept (fun b => b = r) w (w'.setCell ⟨r, 0, none⟩ v') := by
  have hlt := h.box.lt
  have hne : ∀ k, v'.ownBlock = some k → k ≠ r := fun k hk => by
    have := (ho.lt k hk).1
    omega
  refine ⟨⟨((h.box.of_block (hb.block r hlt)).set 0 v').congr fun i hi => ?_, ?_, hne⟩, ?_⟩
  · have : i = 0 := by omega
    subst this
    simp
  · exact run.own_kept (run.own_mono ho (Nat.zero_le _)) (setCell_grownR w' r 0 v') (fun k hk e => hne k hk (by injection e with e; exact e.symm))
  · refine ⟨hb.os, hb.tape, hb.output, by rw [show (w'.setCell ⟨r, 0, none⟩ v').heap.size = w'.heap.size by simp [World.setCell]]; exact hb.size, fun k hk hn => ?_⟩
    exact (Below.heap_setCell _ _ _ _ (by simpa using hn)).trans (hb.block k hk)

set_option maxRecDepth 100000 in
set_option maxHeartbeats 4000000 in
theorem rg_insert {r : Nat} {v : Value} {zs : List Int} {w : World} (h : RefL r v zs w) (i : Nat) (hi : i ≤ zs.length) (a : Option Addr) (c : Nat) (ys : List Int) (hR : run.ReadsN 1 w (.slice a ys.length c) ys.length (iv ys)) (hz : zs.length ≤ 1073741824) (hy : ys.length ≤ 1073741824) :
    Calls Try.prog 28 #[.pointer (some ⟨r, 0, none⟩), .int .i64 (i : Nat), .slice a ys.length c] w fun e w' => e = .returned (.bool true) ∧ ∃ v', RefL r v' (zs.take i ++ ys ++ zs.drop i) w' ∧ (∀ k, v'.ownBlock = some k → w.heap.size ≤ k) ∧ Kept (fun b => b = r) w w' := by
  obtain ⟨it, hi0, hz0, hz1, hz2⟩ := info_parts info_i64
  have HH := run.hid h
  have HR := run.hid (fun w' (hb : Below w.heap.size w w') => hR.below hb)
  have HRW := run.hid (fun w' (hb : Below w.heap.size w w') => (h.below hb).own)
  have HBX := run.hid (fun w' (hb : Below w.heap.size w w') => (h.below hb).box)
  have c0 := h.box.cell (i := 0) (by omega)
  obtain ⟨N, hN⟩ : ∃ N, N = zs.length := ⟨_, rfl⟩
  obtain ⟨M, hM⟩ : ∃ M, M = ys.length := ⟨_, rfl⟩
  have HC := run.hid h.cases
  have hi00 : ¬ (i : Int) < 0 := by omega
  rw [← hN] at hi hz HRW HC
  rw [← hM] at HR hy ⊢
  have HN := run.hid hN
  have HM := run.hid hM
  clear h hR hN hM
  rcases HC.out with ⟨rfl, rfl⟩ | ⟨g, cap, rfl⟩
  · have h0 := HN.out
    simp only [List.length_nil] at h0
    subst h0
    obtain rfl : i = 0 := by omega
    rw [show ((0 : Nat) : Int) = 0 from rfl]
    clear HC HN hi
    go_enter Try.func28, Try.ntmps28
    go_wp2_with (at_builtin; refine run.wpList_append_any _ rfl _ _ 22 rfl w.heap.size 3 it (.int .i64 0) 1 8 Try.underlying22 hi0 hz0 hz1 hz2 rfl (by decide) _ 0 [] rfl (World.ownsRow_nil _ _ _ _) _ 0 (iv []) rfl (none_reads _) (iv_one _) (by unfold maxLen; omega) (by omega) (by first | exact Nat.le_refl _ | omega) ?_)
    intro v1 w1 own1 gr1 hold1 step1
    have HB1 : Hid (Below w.heap.size w w1) := run.below_append (Below.refl _ _) (World.ownsRow_nil _ _ 3 1) gr1 (Nat.le_refl _)
    have HO1 : Hid (w1.ownsRow w.heap.size 3 1 v1 0 (iv [])) := run.hid (by simpa [iv_nil] using own1)
    clear own1 gr1 hold1 step1
    have hs1 := HB1.out.size
    go_wp2_with (at_builtin; refine run.wpList_append_any _ rfl _ _ 22 rfl w.heap.size 3 it (.int .i64 0) 1 8 Try.underlying22 hi0 hz0 hz1 hz2 rfl (by decide) _ 0 (iv []) rfl HO1.out _ M (iv ys) rfl (HR.out w1 HB1.out) (iv_one _) (by unfold maxLen; omega) (by omega) (by first | exact Nat.le_refl _ | omega) ?_)
    intro v2 w2 own2 gr2 hold2 step2
    have HB2 : Hid (Below w.heap.size w w2) := run.below_append HB1.out HO1.out gr2 hs1
    have HO2 : Hid (w2.ownsRow w.heap.size 3 1 v2 (0 + M) ((iv []) ++ iv ys)) := run.hid (by simpa [iv_nil] using own2)
    clear own2 gr2 hold2 step2
    have hs2 := HB2.out.size
    have c2 := (HB2.out.cell (p := ⟨r, 0, none⟩) (run.lt_of_cell c0)).trans c0
    go_wp2_with (at_builtin; refine run.wpList_append_any _ rfl _ _ 22 rfl w.heap.size 3 it (.int .i64 0) 1 8 Try.underlying22 hi0 hz0 hz1 hz2 rfl (by decide) _ (0 + M) ((iv []) ++ iv ys) rfl HO2.out _ 0 (iv []) rfl (none_reads _) (iv_one _) (by unfold maxLen; omega) (by omega) (by first | exact Nat.le_refl _ | omega) ?_)
    intro v3 w3 own3 gr3 hold3 step3
    have HB3 : Hid (Below w.heap.size w w3) := run.below_append HB2.out HO2.out gr3 hs2
    have HO3 : Hid (w3.ownsRow w.heap.size 3 1 v3 M (iv ys)) := run.hid (by simpa [iv_nil] using own3)
    clear own3 gr3 hold3 step3
    have c3 := (HBX.out w3 HB3.out).cell (i := 0) (by omega)
    have f3 := (HBX.out w3 HB3.out).frozen 0
    obtain ⟨a3, cap3, rfl⟩ := run.own_value HO3.out
    clear c0 c2
    go_wp2
    go_ret
    have hl : (([] : List Int).take 0 ++ ys ++ ([] : List Int).drop 0).length = M := by simp [HM.out]
    have he : iv (([] : List Int).take 0 ++ ys ++ ([] : List Int).drop 0) = (iv ys) := by
      simp [iv]
    have ho : w3.ownsRow w.heap.size 3 1 (.slice a3 M cap3) (([] : List Int).take 0 ++ ys ++ ([] : List Int).drop 0).length (iv (([] : List Int).take 0 ++ ys ++ ([] : List Int).drop 0)) := by
      rw [hl, he]
      exact HO3.out
    have hp := HH.out.put HB3.out (Nat.le_refl _) ho
    exact ⟨rfl, _, hp.1, fun k hk => (ho.lt k hk).1, hp.2⟩
  · have hcap := own_some0 (HRW.out w (Below.refl _ _))
    obtain ⟨hc1, hc2⟩ := hcap
    by_cases hic : i = cap
    · subst hic
      clear HC
      go_enter Try.func28, Try.ntmps28
      go_wp2_with (at_builtin; refine run.wpList_append_any _ rfl _ _ 22 rfl w.heap.size 3 it (.int .i64 0) 1 8 Try.underlying22 hi0 hz0 hz1 hz2 rfl (by decide) _ 0 [] rfl (World.ownsRow_nil _ _ _ _) _ i (iv ((zs.drop 0).take i)) rfl (part_reads (HRW.out w (Below.refl _ _)) HN.out.symm (by omega)) (iv_one _) (by unfold maxLen; omega) (by omega) (by first | exact Nat.le_refl _ | omega) ?_)
      intro v1 w1 own1 gr1 hold1 step1
      have HB1 : Hid (Below w.heap.size w w1) := run.below_append (Below.refl _ _) (World.ownsRow_nil _ _ 3 1) gr1 (Nat.le_refl _)
      have HO1 : Hid (w1.ownsRow w.heap.size 3 1 v1 i (iv ((zs.drop 0).take i))) := run.hid (by simpa [iv_nil] using own1)
      clear own1 gr1 hold1 step1
      have hs1 := HB1.out.size
      go_wp2_with (at_builtin; refine run.wpList_append_any _ rfl _ _ 22 rfl w.heap.size 3 it (.int .i64 0) 1 8 Try.underlying22 hi0 hz0 hz1 hz2 rfl (by decide) _ i (iv ((zs.drop 0).take i)) rfl HO1.out _ M (iv ys) rfl (HR.out w1 HB1.out) (iv_one _) (by unfold maxLen; omega) (by omega) (by first | exact Nat.le_refl _ | omega) ?_)
      intro v2 w2 own2 gr2 hold2 step2
      have HB2 : Hid (Below w.heap.size w w2) := run.below_append HB1.out HO1.out gr2 hs1
      have HO2 : Hid (w2.ownsRow w.heap.size 3 1 v2 (i + M) ((iv ((zs.drop 0).take i)) ++ iv ys)) := run.hid (by simpa [iv_nil] using own2)
      clear own2 gr2 hold2 step2
      have hs2 := HB2.out.size
      have c2 := (HB2.out.cell (p := ⟨r, 0, none⟩) (run.lt_of_cell c0)).trans c0
      go_wp2_with (at_builtin; refine run.wpList_append_any _ rfl _ _ 22 rfl w.heap.size 3 it (.int .i64 0) 1 8 Try.underlying22 hi0 hz0 hz1 hz2 rfl (by decide) _ (i + M) ((iv ((zs.drop 0).take i)) ++ iv ys) rfl HO2.out _ 0 (iv []) rfl (zero_reads _ _ _) (iv_one _) (by unfold maxLen; omega) (by omega) (by first | exact Nat.le_refl _ | omega) ?_)
      intro v3 w3 own3 gr3 hold3 step3
      have HB3 : Hid (Below w.heap.size w w3) := run.below_append HB2.out HO2.out gr3 hs2
      have HO3 : Hid (w3.ownsRow w.heap.size 3 1 v3 (i + M) (iv ((zs.drop 0).take i) ++ iv ys)) := run.hid (by simpa [iv_nil] using own3)
      clear own3 gr3 hold3 step3
      have c3 := (HBX.out w3 HB3.out).cell (i := 0) (by omega)
      have f3 := (HBX.out w3 HB3.out).frozen 0
      obtain ⟨a3, cap3, rfl⟩ := run.own_value HO3.out
      clear c0 c2
      go_wp2
      go_ret
      have hl : (zs.take i ++ ys ++ zs.drop i).length = (i + M) := by rw [List.length_append, List.length_append, List.length_take, List.length_drop, ← HN.out, ← HM.out]; omega
      have he : iv (zs.take i ++ ys ++ zs.drop i) = (iv ((zs.drop 0).take i) ++ iv ys) := by
        rw [List.drop_of_length_le (l := zs) (i := i) (by rw [← HN.out]; omega), List.append_nil, List.drop_zero, iv_app]
      have ho : w3.ownsRow w.heap.size 3 1 (.slice a3 (i + M) cap3) (zs.take i ++ ys ++ zs.drop i).length (iv (zs.take i ++ ys ++ zs.drop i)) := by
        rw [hl, he]
        exact HO3.out
      have hp := HH.out.put HB3.out (Nat.le_refl _) ho
      exact ⟨rfl, _, hp.1, fun k hk => (ho.lt k hk).1, hp.2⟩
    · have hci : ¬ cap = i := fun e => hic e.symm
      clear HC
      go_enter Try.func28, Try.ntmps28
      go_wp2_with (at_builtin; refine run.wpList_append_any _ rfl _ _ 22 rfl w.heap.size 3 it (.int .i64 0) 1 8 Try.underlying22 hi0 hz0 hz1 hz2 rfl (by decide) _ 0 [] rfl (World.ownsRow_nil _ _ _ _) _ i (iv ((zs.drop 0).take i)) rfl (part_reads (HRW.out w (Below.refl _ _)) HN.out.symm (by omega)) (iv_one _) (by unfold maxLen; omega) (by omega) (by first | exact Nat.le_refl _ | omega) ?_)
      intro v1 w1 own1 gr1 hold1 step1
      have HB1 : Hid (Below w.heap.size w w1) := run.below_append (Below.refl _ _) (World.ownsRow_nil _ _ 3 1) gr1 (Nat.le_refl _)
      have HO1 : Hid (w1.ownsRow w.heap.size 3 1 v1 i (iv ((zs.drop 0).take i))) := run.hid (by simpa [iv_nil] using own1)
      clear own1 gr1 hold1 step1
      have hs1 := HB1.out.size
      go_wp2_with (at_builtin; refine run.wpList_append_any _ rfl _ _ 22 rfl w.heap.size 3 it (.int .i64 0) 1 8 Try.underlying22 hi0 hz0 hz1 hz2 rfl (by decide) _ i (iv ((zs.drop 0).take i)) rfl HO1.out _ M (iv ys) rfl (HR.out w1 HB1.out) (iv_one _) (by unfold maxLen; omega) (by omega) (by first | exact Nat.le_refl _ | omega) ?_)
      intro v2 w2 own2 gr2 hold2 step2
      have HB2 : Hid (Below w.heap.size w w2) := run.below_append HB1.out HO1.out gr2 hs1
      have HO2 : Hid (w2.ownsRow w.heap.size 3 1 v2 (i + M) ((iv ((zs.drop 0).take i)) ++ iv ys)) := run.hid (by simpa [iv_nil] using own2)
      clear own2 gr2 hold2 step2
      have hs2 := HB2.out.size
      have c2 := (HB2.out.cell (p := ⟨r, 0, none⟩) (run.lt_of_cell c0)).trans c0
      go_wp2_with (at_builtin; refine run.wpList_append_any _ rfl _ _ 22 rfl w.heap.size 3 it (.int .i64 0) 1 8 Try.underlying22 hi0 hz0 hz1 hz2 rfl (by decide) _ (i + M) ((iv ((zs.drop 0).take i)) ++ iv ys) rfl HO2.out _ (N - i) (iv ((zs.drop i).take (N - i))) rfl (part_reads (HRW.out w2 HB2.out) HN.out.symm (by omega)) (iv_one _) (by unfold maxLen; omega) (by omega) (by first | exact Nat.le_refl _ | omega) ?_)
      intro v3 w3 own3 gr3 hold3 step3
      have HB3 : Hid (Below w.heap.size w w3) := run.below_append HB2.out HO2.out gr3 hs2
      have HO3 : Hid (w3.ownsRow w.heap.size 3 1 v3 (i + M + (N - i)) (iv ((zs.drop 0).take i) ++ iv ys ++ iv ((zs.drop i).take (N - i)))) := run.hid (by simpa [iv_nil] using own3)
      clear own3 gr3 hold3 step3
      have c3 := (HBX.out w3 HB3.out).cell (i := 0) (by omega)
      have f3 := (HBX.out w3 HB3.out).frozen 0
      obtain ⟨a3, cap3, rfl⟩ := run.own_value HO3.out
      clear c0 c2
      go_wp2
      go_ret
      have hl : (zs.take i ++ ys ++ zs.drop i).length = (i + M + (N - i)) := by rw [List.length_append, List.length_append, List.length_take, List.length_drop, ← HN.out, ← HM.out]; omega
      have he : iv (zs.take i ++ ys ++ zs.drop i) = (iv ((zs.drop 0).take i) ++ iv ys ++ iv ((zs.drop i).take (N - i))) := by
        rw [iv_app, iv_app, List.drop_zero, List.take_of_length_le (l := zs.drop i) (by rw [List.length_drop, ← HN.out]; omega)]
      have ho : w3.ownsRow w.heap.size 3 1 (.slice a3 (i + M + (N - i)) cap3) (zs.take i ++ ys ++ zs.drop i).length (iv (zs.take i ++ ys ++ zs.drop i)) := by
        rw [hl, he]
        exact HO3.out
      have hp := HH.out.put HB3.out (Nat.le_refl _) ho
      exact ⟨rfl, _, hp.1, fun k hk => (ho.lt k hk).1, hp.2⟩

set_option maxRecDepth 100000 in
set_option maxHeartbeats 4000000 in
theorem rg_delete {r : Nat} {v : Value} {zs : List Int} {w : World} (h : RefL r v zs w) (i mm k : Nat) (hi : i ≤ zs.length) (hz : zs.length ≤ 1073741824) (h1 : 1 ≤ mm) (hk : k = min mm (zs.length - i)) :
    Calls Try.prog 31 #[.pointer (some ⟨r, 0, none⟩), .int .i64 (i : Nat), .int .i64 (mm : Nat)] w fun e w' => ∃ u v', e = .returned u ∧ w'.ownsRow w.heap.size 3 1 u k (iv ((zs.drop i).take k)) ∧ RefL r v' (zs.take i ++ zs.drop (i + k)) w' ∧ (∀ k, v'.ownBlock = some k → w.heap.size ≤ k) ∧ (∀ k, u.ownBlock = some k → v'.ownBlock ≠ some k) ∧ Kept (fun b => b = r) w w' := by
  obtain ⟨it, hi0, hz0, hz1, hz2⟩ := info_parts info_i64
  have HH := run.hid h
  have HRW := run.hid (fun w' (hb : Below w.heap.size w w') => (h.below hb).own)
  have HBX := run.hid (fun w' (hb : Below w.heap.size w w') => (h.below hb).box)
  have c0 := h.box.cell (i := 0) (by omega)
  obtain ⟨N, hN⟩ : ∃ N, N = zs.length := ⟨_, rfl⟩
  have HC := run.hid h.cases
  have hi00 : ¬ (i : Int) < 0 := by omega
  have hm1 : ¬ (mm : Int) < 1 := by omega
  have hNi : ¬ zs.length < i := by omega
  have hNi2 : ¬ (zs.length : Int) < (i : Int) := by omega
  rw [← hN] at hi hz HRW HC hk hNi hNi2
  have HN := run.hid hN
  have hkN : i + k ≤ N := by omega
  have hmin : (if (N : Int) - (i : Int) < (mm : Int) then (N : Int) - (i : Int) else (mm : Int)) = (k : Int) := by split <;> omega
  have hmin2 : (if (mm : Int) < (N : Int) - (i : Int) then (mm : Int) else (N : Int) - (i : Int)) = (k : Int) := by split <;> omega
  have hmin3 : min (mm : Int) ((N : Int) - (i : Int)) = (k : Int) := by omega
  obtain ⟨q, hq⟩ : ∃ q, q = i + k := ⟨_, rfl⟩
  have hqi : (i : Int) + (k : Int) = (q : Int) := by omega
  have HQ := run.hid hq
  rw [← hq] at hkN ⊢
  have hiq : i ≤ q := by omega
  have HK := run.hid hk
  clear h hN hq hk
  rcases HC.out with ⟨rfl, rfl⟩ | ⟨g, cap, rfl⟩
  · have h0 := HN.out
    simp only [List.length_nil] at h0
    subst h0
    obtain rfl : i = 0 := by omega
    obtain rfl : q = 0 := by omega
    obtain rfl : k = 0 := by have := HQ.out; omega
    simp only [Int.natCast_zero] at *
    have hm0 : min (mm : Int) 0 = 0 := by omega
    clear HC hi
    go_enter Try.func31, Try.ntmps31
    go_wp2_with (at_builtin; refine run.wpList_append_any _ rfl _ _ 22 rfl w.heap.size 3 it (.int .i64 0) 1 8 Try.underlying22 hi0 hz0 hz1 hz2 rfl (by decide) _ 0 [] rfl (World.ownsRow_nil _ _ _ _) _ 0 (iv []) rfl (none_reads _) (iv_one _) (by unfold maxLen; omega) (by omega) (by first | exact Nat.le_refl _ | omega) ?_)
    intro v1 w1 own1 gr1 hold1 step1
    have HB1 : Hid (Below w.heap.size w w1) := run.below_append (Below.refl _ _) (World.ownsRow_nil _ _ 3 1) gr1 (Nat.le_refl _)
    have HO1 : Hid (w1.ownsRow w.heap.size 3 1 v1 0 (iv [])) := run.hid (by simpa [iv_nil] using own1)
    clear own1 gr1 hold1 step1
    have hs1 := HB1.out.size
    obtain ⟨a1, cap1, rfl⟩ := run.own_value HO1.out
    have c1 := (HB1.out.cell (p := ⟨r, 0, none⟩) (run.lt_of_cell c0)).trans c0
    go_wp2_with (at_builtin; refine run.wpList_append_any _ rfl _ _ 22 rfl w1.heap.size 3 it (.int .i64 0) 1 8 Try.underlying22 hi0 hz0 hz1 hz2 rfl (by decide) _ 0 [] rfl (World.ownsRow_nil _ _ _ _) _ 0 (iv []) rfl (none_reads _) (iv_one _) (by unfold maxLen; omega) (by omega) (by first | exact Nat.le_refl _ | omega) ?_)
    intro v2 w2 own2 gr2 hold2 step2
    have HB12 : Hid (Below w1.heap.size w1 w2) := run.below_append (Below.refl _ _) (World.ownsRow_nil _ _ 3 1) gr2 (Nat.le_refl _)
    have HB2 : Hid (Below w.heap.size w w2) := HB1.out.trans (HB12.out.mono hs1)
    have HO2 : Hid (w2.ownsRow w1.heap.size 3 1 v2 0 (iv [])) := run.hid (by simpa [iv_nil] using own2)
    clear own2 gr2 hold2 step2
    have hs2 := HB2.out.size
    have hs12 := HB12.out.size
    have c2 := (HB2.out.cell (p := ⟨r, 0, none⟩) (run.lt_of_cell c0)).trans c0
    go_wp2_with (at_builtin; refine run.wpList_append_any _ rfl _ _ 22 rfl w1.heap.size 3 it (.int .i64 0) 1 8 Try.underlying22 hi0 hz0 hz1 hz2 rfl (by decide) _ 0 (iv []) rfl HO2.out _ 0 (iv []) rfl (none_reads _) (iv_one _) (by unfold maxLen; omega) (by omega) (by first | exact Nat.le_refl _ | omega) ?_)
    intro v3 w3 own3 gr3 hold3 step3
    have HB13 : Hid (Below w1.heap.size w1 w3) := run.below_append HB12.out HO2.out gr3 hs12
    have HB3 : Hid (Below w.heap.size w w3) := HB1.out.trans (HB13.out.mono hs1)
    have HO3 : Hid (w3.ownsRow w1.heap.size 3 1 v3 0 (iv [])) := run.hid (by simpa [iv_nil] using own3)
    clear own3 gr3 hold3 step3
    have c3 := (HBX.out w3 HB3.out).cell (i := 0) (by omega)
    have f3 := (HBX.out w3 HB3.out).frozen 0
    obtain ⟨a3, cap3, rfl⟩ := run.own_value HO3.out
    clear c0 c1 c2
    go_wp2
    go_ret
    have hl : (([] : List Int).take 0 ++ ([] : List Int).drop 0).length = 0 := by simp
    have he : iv (([] : List Int).take 0 ++ ([] : List Int).drop 0) = (iv []) := by
      simp [iv]
    have ho : w3.ownsRow w1.heap.size 3 1 (.slice a3 0 cap3) (([] : List Int).take 0 ++ ([] : List Int).drop 0).length (iv (([] : List Int).take 0 ++ ([] : List Int).drop 0)) := by
      rw [hl, he]
      exact HO3.out
    have hp := HH.out.put HB3.out hs1 ho
    have hk1 : ∀ j, (Value.slice a1 0 cap1).ownBlock = some j → w.heap.size ≤ j ∧ j < w1.heap.size := fun j hj => HO1.out.lt j hj
    have hrl := HH.out.box.lt
    refine ⟨_, _, rfl, ?_, hp.1, fun j hj => by have := (ho.lt j hj).1; omega, fun j hj hj2 => by have := (hk1 j hj).2; have := (ho.lt j hj2).1; omega, hp.2⟩
    have h5 := run.own_kept (run.own_below HO1.out HB13.out) (setCell_grownR w3 r 0 (.slice a3 0 cap3)) (fun j hj e => by have := (hk1 j hj).1; injection e with e; omega)
    exact h5
  · have hcap := own_some0 (HRW.out w (Below.refl _ _))
    obtain ⟨hc1, hc2⟩ := hcap
    clear HC
    by_cases hic : i = cap
    · subst hic
      obtain rfl : q = i := by omega
      obtain rfl : k = 0 := by have := HQ.out; omega
      go_enter Try.func31, Try.ntmps31
      go_wp2_with (at_builtin; refine run.wpList_append_any _ rfl _ _ 22 rfl w.heap.size 3 it (.int .i64 0) 1 8 Try.underlying22 hi0 hz0 hz1 hz2 rfl (by decide) _ 0 [] rfl (World.ownsRow_nil _ _ _ _) _ 0 (iv []) rfl (zero_reads _ _ _) (iv_one _) (by unfold maxLen; omega) (by omega) (by first | exact Nat.le_refl _ | omega) ?_)
      intro v1 w1 own1 gr1 hold1 step1
      have HB1 : Hid (Below w.heap.size w w1) := run.below_append (Below.refl _ _) (World.ownsRow_nil _ _ 3 1) gr1 (Nat.le_refl _)
      have HO1 : Hid (w1.ownsRow w.heap.size 3 1 v1 0 (iv [])) := run.hid (by simpa [iv_nil] using own1)
      clear own1 gr1 hold1 step1
      have hs1 := HB1.out.size
      obtain ⟨a1, cap1, rfl⟩ := run.own_value HO1.out
      have c1 := (HB1.out.cell (p := ⟨r, 0, none⟩) (run.lt_of_cell c0)).trans c0
      go_wp2_with (at_builtin; refine run.wpList_append_any _ rfl _ _ 22 rfl w1.heap.size 3 it (.int .i64 0) 1 8 Try.underlying22 hi0 hz0 hz1 hz2 rfl (by decide) _ 0 [] rfl (World.ownsRow_nil _ _ _ _) _ q (iv ((zs.drop 0).take q)) rfl (part_reads (HRW.out w1 HB1.out) HN.out.symm (by omega)) (iv_one _) (by unfold maxLen; omega) (by omega) (by first | exact Nat.le_refl _ | omega) ?_)
      intro v2 w2 own2 gr2 hold2 step2
      have HB12 : Hid (Below w1.heap.size w1 w2) := run.below_append (Below.refl _ _) (World.ownsRow_nil _ _ 3 1) gr2 (Nat.le_refl _)
      have HB2 : Hid (Below w.heap.size w w2) := HB1.out.trans (HB12.out.mono hs1)
      have HO2 : Hid (w2.ownsRow w1.heap.size 3 1 v2 q (iv ((zs.drop 0).take q))) := run.hid (by simpa [iv_nil] using own2)
      clear own2 gr2 hold2 step2
      have hs2 := HB2.out.size
      have hs12 := HB12.out.size
      have c2 := (HB2.out.cell (p := ⟨r, 0, none⟩) (run.lt_of_cell c0)).trans c0
      go_wp2_with (at_builtin; refine run.wpList_append_any _ rfl _ _ 22 rfl w1.heap.size 3 it (.int .i64 0) 1 8 Try.underlying22 hi0 hz0 hz1 hz2 rfl (by decide) _ q (iv ((zs.drop 0).take q)) rfl HO2.out _ 0 (iv []) rfl (zero_reads _ _ _) (iv_one _) (by unfold maxLen; omega) (by omega) (by first | exact Nat.le_refl _ | omega) ?_)
      intro v3 w3 own3 gr3 hold3 step3
      have HB13 : Hid (Below w1.heap.size w1 w3) := run.below_append HB12.out HO2.out gr3 hs12
      have HB3 : Hid (Below w.heap.size w w3) := HB1.out.trans (HB13.out.mono hs1)
      have HO3 : Hid (w3.ownsRow w1.heap.size 3 1 v3 q (iv ((zs.drop 0).take q))) := run.hid (by simpa [iv_nil] using own3)
      clear own3 gr3 hold3 step3
      have c3 := (HBX.out w3 HB3.out).cell (i := 0) (by omega)
      have f3 := (HBX.out w3 HB3.out).frozen 0
      obtain ⟨a3, cap3, rfl⟩ := run.own_value HO3.out
      clear c0 c1 c2
      go_wp2
      go_ret
      have hl : (zs.take q ++ zs.drop q).length = q := by rw [List.length_append, List.length_take, List.length_drop, ← HN.out]; omega
      have he : iv (zs.take q ++ zs.drop q) = (iv ((zs.drop 0).take q)) := by
        rw [List.drop_of_length_le (l := zs) (i := q) (by rw [← HN.out]; omega), List.append_nil, List.drop_zero]
      have ho : w3.ownsRow w1.heap.size 3 1 (.slice a3 q cap3) (zs.take q ++ zs.drop q).length (iv (zs.take q ++ zs.drop q)) := by
        rw [hl, he]
        exact HO3.out
      have hp := HH.out.put HB3.out hs1 ho
      have hk1 : ∀ j, (Value.slice a1 0 cap1).ownBlock = some j → w.heap.size ≤ j ∧ j < w1.heap.size := fun j hj => HO1.out.lt j hj
      have hrl := HH.out.box.lt
      refine ⟨_, _, rfl, ?_, hp.1, fun j hj => by have := (ho.lt j hj).1; omega, fun j hj hj2 => by have := (hk1 j hj).2; have := (ho.lt j hj2).1; omega, hp.2⟩
      have h5 := run.own_kept (run.own_below HO1.out HB13.out) (setCell_grownR w3 r 0 (.slice a3 q cap3)) (fun j hj e => by have := (hk1 j hj).1; injection e with e; omega)
      exact h5
    · have hci : ¬ cap = i := fun e => hic e.symm
      by_cases hqc : q = cap
      · subst hqc
        go_enter Try.func31, Try.ntmps31
        go_wp2_with (at_builtin; refine run.wpList_append_any _ rfl _ _ 22 rfl w.heap.size 3 it (.int .i64 0) 1 8 Try.underlying22 hi0 hz0 hz1 hz2 rfl (by decide) _ 0 [] rfl (World.ownsRow_nil _ _ _ _) _ (q - i) (iv ((zs.drop i).take (q - i))) rfl (part_reads (HRW.out w (Below.refl _ _)) HN.out.symm (by omega)) (iv_one _) (by unfold maxLen; omega) (by omega) (by first | exact Nat.le_refl _ | omega) ?_)
        intro v1 w1 own1 gr1 hold1 step1
        have HB1 : Hid (Below w.heap.size w w1) := run.below_append (Below.refl _ _) (World.ownsRow_nil _ _ 3 1) gr1 (Nat.le_refl _)
        have HO1 : Hid (w1.ownsRow w.heap.size 3 1 v1 (q - i) (iv ((zs.drop i).take (q - i)))) := run.hid (by simpa [iv_nil] using own1)
        clear own1 gr1 hold1 step1
        have hs1 := HB1.out.size
        obtain ⟨a1, cap1, rfl⟩ := run.own_value HO1.out
        have c1 := (HB1.out.cell (p := ⟨r, 0, none⟩) (run.lt_of_cell c0)).trans c0
        go_wp2_with (at_builtin; refine run.wpList_append_any _ rfl _ _ 22 rfl w1.heap.size 3 it (.int .i64 0) 1 8 Try.underlying22 hi0 hz0 hz1 hz2 rfl (by decide) _ 0 [] rfl (World.ownsRow_nil _ _ _ _) _ i (iv ((zs.drop 0).take i)) rfl (part_reads (HRW.out w1 HB1.out) HN.out.symm (by omega)) (iv_one _) (by unfold maxLen; omega) (by omega) (by first | exact Nat.le_refl _ | omega) ?_)
        intro v2 w2 own2 gr2 hold2 step2
        have HB12 : Hid (Below w1.heap.size w1 w2) := run.below_append (Below.refl _ _) (World.ownsRow_nil _ _ 3 1) gr2 (Nat.le_refl _)
        have HB2 : Hid (Below w.heap.size w w2) := HB1.out.trans (HB12.out.mono hs1)
        have HO2 : Hid (w2.ownsRow w1.heap.size 3 1 v2 i (iv ((zs.drop 0).take i))) := run.hid (by simpa [iv_nil] using own2)
        clear own2 gr2 hold2 step2
        have hs2 := HB2.out.size
        have hs12 := HB12.out.size
        have c2 := (HB2.out.cell (p := ⟨r, 0, none⟩) (run.lt_of_cell c0)).trans c0
        go_wp2_with (at_builtin; refine run.wpList_append_any _ rfl _ _ 22 rfl w1.heap.size 3 it (.int .i64 0) 1 8 Try.underlying22 hi0 hz0 hz1 hz2 rfl (by decide) _ i (iv ((zs.drop 0).take i)) rfl HO2.out _ 0 (iv []) rfl (zero_reads _ _ _) (iv_one _) (by unfold maxLen; omega) (by omega) (by first | exact Nat.le_refl _ | omega) ?_)
        intro v3 w3 own3 gr3 hold3 step3
        have HB13 : Hid (Below w1.heap.size w1 w3) := run.below_append HB12.out HO2.out gr3 hs12
        have HB3 : Hid (Below w.heap.size w w3) := HB1.out.trans (HB13.out.mono hs1)
        have HO3 : Hid (w3.ownsRow w1.heap.size 3 1 v3 i (iv ((zs.drop 0).take i))) := run.hid (by simpa [iv_nil] using own3)
        clear own3 gr3 hold3 step3
        have c3 := (HBX.out w3 HB3.out).cell (i := 0) (by omega)
        have f3 := (HBX.out w3 HB3.out).frozen 0
        obtain ⟨a3, cap3, rfl⟩ := run.own_value HO3.out
        clear c0 c1 c2
        go_wp2
        go_ret
        have hl : (zs.take i ++ zs.drop q).length = i := by rw [List.length_append, List.length_take, List.length_drop, ← HN.out]; omega
        have he : iv (zs.take i ++ zs.drop q) = (iv ((zs.drop 0).take i)) := by
          rw [List.drop_of_length_le (l := zs) (i := q) (by rw [← HN.out]; omega), List.append_nil, List.drop_zero]
        have ho : w3.ownsRow w1.heap.size 3 1 (.slice a3 i cap3) (zs.take i ++ zs.drop q).length (iv (zs.take i ++ zs.drop q)) := by
          rw [hl, he]
          exact HO3.out
        have hp := HH.out.put HB3.out hs1 ho
        have hk1 : ∀ j, (Value.slice a1 (q - i) cap1).ownBlock = some j → w.heap.size ≤ j ∧ j < w1.heap.size := fun j hj => HO1.out.lt j hj
        have hrl := HH.out.box.lt
        refine ⟨_, _, rfl, ?_, hp.1, fun j hj => by have := (ho.lt j hj).1; omega, fun j hj hj2 => by have := (hk1 j hj).2; have := (ho.lt j hj2).1; omega, hp.2⟩
        have h5 := run.own_kept (run.own_below HO1.out HB13.out) (setCell_grownR w3 r 0 (.slice a3 i cap3)) (fun j hj e => by have := (hk1 j hj).1; injection e with e; omega)
        rw [show k = q - i by have := HQ.out; omega]
        exact h5
      · have hcq : ¬ cap = q := fun e => hqc e.symm
        go_enter Try.func31, Try.ntmps31
        go_wp2_with (at_builtin; refine run.wpList_append_any _ rfl _ _ 22 rfl w.heap.size 3 it (.int .i64 0) 1 8 Try.underlying22 hi0 hz0 hz1 hz2 rfl (by decide) _ 0 [] rfl (World.ownsRow_nil _ _ _ _) _ (q - i) (iv ((zs.drop i).take (q - i))) rfl (part_reads (HRW.out w (Below.refl _ _)) HN.out.symm (by omega)) (iv_one _) (by unfold maxLen; omega) (by omega) (by first | exact Nat.le_refl _ | omega) ?_)
        intro v1 w1 own1 gr1 hold1 step1
        have HB1 : Hid (Below w.heap.size w w1) := run.below_append (Below.refl _ _) (World.ownsRow_nil _ _ 3 1) gr1 (Nat.le_refl _)
        have HO1 : Hid (w1.ownsRow w.heap.size 3 1 v1 (q - i) (iv ((zs.drop i).take (q - i)))) := run.hid (by simpa [iv_nil] using own1)
        clear own1 gr1 hold1 step1
        have hs1 := HB1.out.size
        obtain ⟨a1, cap1, rfl⟩ := run.own_value HO1.out
        have c1 := (HB1.out.cell (p := ⟨r, 0, none⟩) (run.lt_of_cell c0)).trans c0
        go_wp2_with (at_builtin; refine run.wpList_append_any _ rfl _ _ 22 rfl w1.heap.size 3 it (.int .i64 0) 1 8 Try.underlying22 hi0 hz0 hz1 hz2 rfl (by decide) _ 0 [] rfl (World.ownsRow_nil _ _ _ _) _ i (iv ((zs.drop 0).take i)) rfl (part_reads (HRW.out w1 HB1.out) HN.out.symm (by omega)) (iv_one _) (by unfold maxLen; omega) (by omega) (by first | exact Nat.le_refl _ | omega) ?_)
        intro v2 w2 own2 gr2 hold2 step2
        have HB12 : Hid (Below w1.heap.size w1 w2) := run.below_append (Below.refl _ _) (World.ownsRow_nil _ _ 3 1) gr2 (Nat.le_refl _)
        have HB2 : Hid (Below w.heap.size w w2) := HB1.out.trans (HB12.out.mono hs1)
        have HO2 : Hid (w2.ownsRow w1.heap.size 3 1 v2 i (iv ((zs.drop 0).take i))) := run.hid (by simpa [iv_nil] using own2)
        clear own2 gr2 hold2 step2
        have hs2 := HB2.out.size
        have hs12 := HB12.out.size
        have c2 := (HB2.out.cell (p := ⟨r, 0, none⟩) (run.lt_of_cell c0)).trans c0
        go_wp2_with (at_builtin; refine run.wpList_append_any _ rfl _ _ 22 rfl w1.heap.size 3 it (.int .i64 0) 1 8 Try.underlying22 hi0 hz0 hz1 hz2 rfl (by decide) _ i (iv ((zs.drop 0).take i)) rfl HO2.out _ (N - q) (iv ((zs.drop q).take (N - q))) rfl (part_reads (HRW.out w2 HB2.out) HN.out.symm (by omega)) (iv_one _) (by unfold maxLen; omega) (by omega) (by first | exact Nat.le_refl _ | omega) ?_)
        intro v3 w3 own3 gr3 hold3 step3
        have HB13 : Hid (Below w1.heap.size w1 w3) := run.below_append HB12.out HO2.out gr3 hs12
        have HB3 : Hid (Below w.heap.size w w3) := HB1.out.trans (HB13.out.mono hs1)
        have HO3 : Hid (w3.ownsRow w1.heap.size 3 1 v3 (i + (N - q)) ((iv ((zs.drop 0).take i)) ++ (iv ((zs.drop q).take (N - q))))) := run.hid (by simpa [iv_nil] using own3)
        clear own3 gr3 hold3 step3
        have c3 := (HBX.out w3 HB3.out).cell (i := 0) (by omega)
        have f3 := (HBX.out w3 HB3.out).frozen 0
        obtain ⟨a3, cap3, rfl⟩ := run.own_value HO3.out
        clear c0 c1 c2
        go_wp2
        go_ret
        have hl : (zs.take i ++ zs.drop q).length = (i + (N - q)) := by rw [List.length_append, List.length_take, List.length_drop, ← HN.out]; omega
        have he : iv (zs.take i ++ zs.drop q) = ((iv ((zs.drop 0).take i)) ++ (iv ((zs.drop q).take (N - q)))) := by
          rw [iv_app, List.drop_zero, List.take_of_length_le (l := zs.drop q) (by rw [List.length_drop, ← HN.out]; omega)]
        have ho : w3.ownsRow w1.heap.size 3 1 (.slice a3 (i + (N - q)) cap3) (zs.take i ++ zs.drop q).length (iv (zs.take i ++ zs.drop q)) := by
          rw [hl, he]
          exact HO3.out
        have hp := HH.out.put HB3.out hs1 ho
        have hk1 : ∀ j, (Value.slice a1 (q - i) cap1).ownBlock = some j → w.heap.size ≤ j ∧ j < w1.heap.size := fun j hj => HO1.out.lt j hj
        have hrl := HH.out.box.lt
        refine ⟨_, _, rfl, ?_, hp.1, fun j hj => by have := (ho.lt j hj).1; omega, fun j hj hj2 => by have := (hk1 j hj).2; have := (ho.lt j hj2).1; omega, hp.2⟩
        have h5 := run.own_kept (run.own_below HO1.out HB13.out) (setCell_grownR w3 r 0 (.slice a3 (i + (N - q)) cap3)) (fun j hj e => by have := (hk1 j hj).1; injection e with e; omega)
        rw [show k = q - i by have := HQ.out; omega]
        exact h5

set_option maxHeartbeats 1000000 in
theorem rg_insert_out {r : Nat} {v : Value} {zs : List Int} {w : World} (h : RefL r v zs w) (i : Int) (u : Value) (hi : i < 0 ∨ (zs.length : Int) < i) :
    Calls Try.prog 28 #[.pointer (some ⟨r, 0, none⟩), .int .i64 i, u] w fun e w' => e = .returned (.bool false) ∧ w = w' := by
  have c0 := h.box.cell (i := 0) (by omega)
  obtain ⟨a, c, rfl⟩ := run.own_value h.own
  clear h
  generalize zs.length = N at *
  go_enter Try.func28, Try.ntmps28
  by_cases h0 : i < 0
  · clear hi
    go_wp2
    go_ret
    exact ⟨rfl, rfl⟩
  · have h1 : (N : Int) < i := by omega
    clear hi
    go_wp2
    go_ret
    exact ⟨rfl, rfl⟩
set_option maxHeartbeats 1000000 in
theorem rg_delete_out {r : Nat} {v : Value} {zs : List Int} {w : World} (h : RefL r v zs w) (i m : Int) (hi : (i < 0 ∨ (zs.length : Int) < i) ∨ m < 1) :
    Calls Try.prog 31 #[.pointer (some ⟨r, 0, none⟩), .int .i64 i, .int .i64 m] w fun e w' => e = .returned (.slice none 0 0) ∧ w = w' := by
  have c0 := h.box.cell (i := 0) (by omega)
  obtain ⟨a, c, rfl⟩ := run.own_value h.own
  clear h
  generalize zs.length = N at *
  go_enter Try.func31, Try.ntmps31
  by_cases h0 : i < 0
  · clear hi
    go_wp2
    go_ret
    exact ⟨rfl, rfl⟩
  · by_cases h1 : (N : Int) < i
    · clear hi
      go_wp2
      go_ret
      exact ⟨rfl, rfl⟩
    · have h2 : m < 1 := by omega
      clear hi
      go_wp2
      go_ret
      exact ⟨rfl, rfl⟩
set_option maxHeartbeats 1000000 in
theorem rg_at {r : Nat} {v : Value} {zs : List Int} {w : World} (h : RefL r v zs w) (i : Int) :
    Calls Try.prog 33 #[.pointer (some ⟨r, 0, none⟩), .int .i64 i] w fun e w' => e = .returned (.tuple #[.int .i64 (atI zs i).1, .bool (atI zs i).2]) ∧ w = w' := by
  have c0 := h.box.cell (i := 0) (by omega)
  have HO := run.hid h.own
  have HC := run.hid h.cases
  have HA := run.hid (show (0 ≤ i ∧ i < zs.length → atI zs i = (zs.getD i.toNat 0, true)) ∧ (¬ (0 ≤ i ∧ i < zs.length) → atI zs i = (0, false)) from ⟨fun h => if_pos h, fun h => if_neg h⟩)
  generalize atI zs i = AA at *
  by_cases h0 : i < 0
  · obtain ⟨a, c, rfl⟩ := run.own_value HO.out
    have HAA := run.hid (HA.out.2 (by omega))
    clear h HC HA HO
    go_enter Try.func33, Try.ntmps33
    go_wp2
    go_ret2
    rw [HAA.out]
    exact ⟨rfl, rfl⟩
  · by_cases h1 : i < zs.length
    · obtain ⟨k, rfl⟩ : ∃ k : Nat, i = k := ⟨i.toNat, by omega⟩
      have hk : k < zs.length := by omega
      have HAA := run.hid (HA.out.1 ⟨by omega, by omega⟩)
      rcases HC.out with ⟨-, h2⟩ | ⟨g, cap, rfl⟩
      · rw [h2] at hk
        exact absurd hk (by simp)
      · have hc := HO.out.cellAt k (by omega)
        rw [iv_get hk] at hc
        have hin : ¬ (zs.length : Int) ≤ (k : Int) := by omega
        rw [Int.toNat_natCast] at HAA
        generalize zs.getD k 0 = z at *
        generalize zs.length = N at *
        clear h HC HA HO h0 h1
        go_enter Try.func33, Try.ntmps33
        go_wp2
        go_ret2
        rw [HAA.out]
        exact ⟨rfl, rfl⟩
    · obtain ⟨a, c, rfl⟩ := run.own_value HO.out
      have HAA := run.hid (HA.out.2 (by omega))
      have hin : (zs.length : Int) ≤ i := by omega
      generalize zs.length = N at *
      clear h HC HA HO h1
      go_enter Try.func33, Try.ntmps33
      go_wp2
      go_ret2
      rw [HAA.out]
      exact ⟨rfl, rfl⟩
end Go.Proofs.Ytgpgbbbcodnieaa.ed
