/-
  The document's buffer: New; far.
-/
import Derived.Test.YtdgcfmfjgidbjaaGreatCelRW
import Derived.Test.YtdgcfmfjgidbjaaGreatCelRack2
import Derived.Lib.MinMax
import Derived.Deep.RegionLaw
import Derived.BigQuiet
namespace Go.Proofs.YtdgcfmfjgidbjaaGreat.cel
open Go Go.RowKit Go.Proofs
set_option linter.unusedVariables false
theorem blank_zero : blankT s0 = b0 := by decide
theorem rnew_no (a c : Int) (w : World) (h : sizedOk a c = false) : Calls Tryz.prog 11 #[.int .i64 a, .int .i64 c] w fun e w' => e = .returned (.tuple #[.pointer none, .int .i64 5]) ∧ w = w' := by
  have H := run.hid (refsize_any a c w)
  rw [h] at H
  clear h
  go_enter Tryz.func11, Tryz.ntmps11
  go_wp2_with fail
  refine H.out.mono ?_
  rintro e w' ⟨rfl, rfl⟩
  go_wp2
  go_ret2
  exact ⟨rfl, rfl⟩
theorem rep_next (k : Nat) : cells5 (List.replicate (k + 1) b0) = cells5 (List.replicate k b0) ++ [.string ⟨#[32]⟩, .int .i8 1, .int .i32 0, .int .i32 0, .int .u8 0] := by
  rw [List.replicate_succ', cells5_append]
  rfl
set_option maxRecDepth 100000 in
set_option maxHeartbeats 8000000 in
theorem rnew_ok (W H : Nat) (w : World) (h1 : W ≤ 4096) (h2 : H ≤ 4096) (h3 : W * H ≤ 1048576) :
    Calls Tryz.prog 11 #[.int .i64 W, .int .i64 H] w fun e w' => e = .returned (.tuple #[.pointer (some ⟨w.heap.size, 0, none⟩), .int .i64 0]) ∧ (∃ v, RB w' (w.heap.size + 1) w.heap.size v W H (fillT (W * H) (W * H))) ∧ Below w.heap.size w w' := by
  obtain ⟨it, hi0, hi1, hi2, hi3⟩ := info_parts info_cell
  have HS := run.hid (refsize_any W H w)
  have hcm := Int.natCast_mul W H
  rw [show sizedOk W H = true by unfold sizedOk; rw [← hcm]; simp; omega] at HS
  have HBL := run.hid (fun w => refblank_any s0 (by unfold SV.wf w32 s0; simp) w)
  rw [blank_zero] at HBL
  change Hid (∀ w, Calls _ _ #[.agg #[.int .i32 0, .int .i32 0, .int .u8 0]] _ fun e w' => e = .returned (.agg #[.string ⟨#[32]⟩, .int .i8 1, .int .i32 0, .int .i32 0, .int .u8 0]) ∧ _) at HBL
  have hfl : fillT (W * H) (W * H) = List.replicate (W * H) b0 := by unfold fillT; rw [Nat.sub_self]; simp
  rw [hfl]
  have HFIN := run.hid (fun (w' : World) (v : Value) (hb : w'.heap[w.heap.size]? = some (.cells #[.int .i64 W, .int .i64 H, v] 71 (0, 0))) (ho : w'.ownsRow (w.heap.size + 1) 59 5 v (W * H) (cells5 (List.replicate (W * H) b0))) =>
    (⟨hb, ho, List.length_replicate, fun k hk => by have := (ho.lt k hk).1; omega, h1, h2, h3⟩ : RB w' (w.heap.size + 1) w.heap.size v W H (List.replicate (W * H) b0)))
  have hbx := run.heap_new w (.cells #[.int .i64 W, .int .i64 H, .slice none 0 0] 71)
  have hbw := run.below_one w (.cells #[.int .i64 W, .int .i64 H, .slice none 0 0] 71)
  have hsz : (w.alloc (.cells #[.int .i64 W, .int .i64 H, .slice none 0 0] 71)).heap.size = w.heap.size + 1 := World.size_alloc _ _
  obtain ⟨N, hN⟩ : ∃ N, N = W * H := ⟨_, rfl⟩
  have HM := run.hid (show (W : Int) * (H : Int) = (N : Int) by rw [hN]; exact hcm.symm)
  rw [← hN] at h3 HFIN ⊢
  clear hcm hN hfl
  go_enter Tryz.func11, Tryz.ntmps11
  go_wp2_with fail
  refine HS.out.mono ?_
  rintro e w' ⟨rfl, rfl⟩
  clear HS
  go_upto_region 4 with fail
  generalize w.alloc (.cells #[.int .i64 W, .int .i64 H, .slice none 0 0] 71) = w1 at *
  have HBX := run.hid hbx
  have HBW := run.hid hbw
  clear hbx hbw
  generalize hn : w.heap.size = n at *
  have hm := HM.out
  go_wp2
  go_loopw [7] (fun vi wr => ∃ (k : Nat) (v : Value), k ≤ N ∧ vi = .int .i64 k ∧ Hid (wr.heap[n]? = some (.cells #[.int .i64 W, .int .i64 H, v] 71 (0, 0))) ∧ Hid (wr.ownsRow (n + 1) 59 5 v k (cells5 (List.replicate k b0))) ∧ Hid (Below n w wr)) (fun vi _ => ((N : Int) - intOf vi).toNat)
  case atStart => exact ⟨0, _, Nat.zero_le _, rfl, HBX, World.ownsRow_nil _ _ _ _, HBW⟩
  case round =>
    obtain ⟨k, v, hk, rfl, HB, HO, HBr⟩ := hrel
    have hsr := HBr.out.size
    have hnl : n < wr.heap.size := (Array.getElem?_eq_some_iff.1 HB.out).1
    obtain ⟨la, lc, rfl⟩ := run.own_value HO.out
    by_cases hlt : k < N
    · have c0 := blk_cell HB.out 0
      have c1 := blk_cell HB.out 1
      have c2 := blk_cell HB.out 2
      change wr.cell? _ = some (.slice la k lc) at c2
      go_upto_region 7 with fail
      have hK0 : ∀ w', Below (n + 1) wr w' → w'.ownsRow (n + 1) 59 5 (.slice la k lc) k (cells5 (List.replicate k b0)) → w'.cell? ⟨n, 2, none⟩ = some (.slice la k lc) ∧ w'.frozen? ⟨n, 2, none⟩ = false ∧ w'.heap[n]? = some (.cells #[.int .i64 W, .int .i64 H, .slice la k lc] 71 (0, 0)) ∧ w'.ownsRow (n + 1) 59 5 (.slice la k lc) k (cells5 (List.replicate k b0)) ∧ Below (n + 1) wr w' := fun w' hb ho => by
        have h1 := (hb.block n (by omega)).trans HB.out
        exact ⟨blk_cell h1 2, blk_free h1 2, h1, ho, hb⟩
      have HK := run.hid hK0
      have hnr : n + 1 ≤ wr.heap.size := hnl
      obtain ⟨q0, f0, b00, o00, bl00⟩ := hK0 _ (Below.drew (Below.refl _ wr)) HO.out.drew
      clear hK0 c0 c1 c2
      generalize hXS : cells5 (List.replicate k b0) = XS at *
      go_region_law
        (first
          | (go_simp; go_at_call 34; refine (HBL.out _).mono ?_; rintro e w7 ⟨rfl, hb7⟩; have ho7 := run.own_below HO.out.drew hb7; have hs7 := hb7.size; obtain ⟨q7, f7, b7, o7, bl7⟩ := HK.out _ ((Below.drew (Below.refl _ wr)).trans (hb7.mono hnr)) ho7; obtain ⟨q8, f8, b8, o8, bl8⟩ := HK.out _ (((Below.drew (Below.refl _ wr)).trans (hb7.mono hnr)).alloc (Nat.le_trans hnr hs7) (.cells #[.string ⟨#[32]⟩, .int .i8 1, .int .i32 0, .int .i32 0, .int .u8 0] 59)) (ho7.alloc _))
          | (refine run.step_append_any (by rfl) _ _ 35 (by rfl) (n + 1) 59 it (.agg #[.string ⟨#[]⟩, .int .i8 0, .int .i32 0, .int .i32 0, .int .u8 0]) 5 32 Tryz.underlying35 hi0 hi1 hi2 hi3 rfl (by decide) _ _ _ (by rfl) o8 _ 1 [.string ⟨#[32]⟩, .int .i8 1, .int .i32 0, .int .i32 0, .int .u8 0] (by rfl) (run.readsN_new w7 [.string ⟨#[32]⟩, .int .i8 1, .int .i32 0, .int .i32 0, .int .u8 0] 1 5 _ rfl) (by intro u hu; simp only [List.mem_cons, List.not_mem_nil, or_false] at hu; rcases hu with rfl | rfl | rfl | rfl | rfl <;> rfl) (by unfold maxLen; omega) (by omega) (by rw [World.size_alloc]; exact Nat.le_succ_of_le (Nat.le_trans hnr hs7)) ?_; intro v8 w8 hown8 hgrow hold hstep; obtain ⟨a8, c8, rfl⟩ := run.own_value hown8; obtain ⟨q9, f9, b9, o9, bl9⟩ := HK.out _ (run.below_append bl8 o8 hgrow (by rw [World.size_alloc]; exact Nat.le_succ_of_le (Nat.le_trans hnr hs7))) hold))
      all_goals
        have HB9 : Hid ((w8.setCell ⟨n, 2, none⟩ (.slice a8 (k + 1) c8)).heap[n]? = some (.cells #[.int .i64 W, .int .i64 H, .slice a8 (k + 1) c8] 71 (0, 0))) := blk_set b9
        have HO9 : Hid ((w8.setCell ⟨n, 2, none⟩ (.slice a8 (k + 1) c8)).ownsRow (n + 1) 59 5 (.slice a8 (k + 1) c8) (k + 1) (cells5 (List.replicate (k + 1) b0))) := by
          show World.ownsRow _ _ _ _ _ _ _
          rw [rep_next, hXS]
          refine run.own_kept hown8 (run.setCell_grown w8 n 2 _) (fun q hq e => ?_)
          have := (hown8.lt q hq).1
          simp only [Option.some.injEq] at e
          omega
        have HW9 : Hid (Below n w (w8.setCell ⟨n, 2, none⟩ (.slice a8 (k + 1) c8))) := by
          have h1 : Below n w w8 := HBr.out.trans (bl9.mono (Nat.le_succ n))
          exact h1.grown (run.setCell_grown w8 n 2 _) (by have := h1.size; omega) (fun q hq => by simp only [Option.some.injEq] at hq; omega)
        clear hown8 hgrow hold hstep q0 f0 b00 o00 bl00 q7 f7 b7 o7 bl7 q8 f8 b8 o8 bl8 q9 f9 b9 o9 bl9 ho7 hb7 HK HB HO HBr hXS
        go_wp2
        go_roundw
        case rel => exact ⟨k + 1, _, by omega, by go_num, HB9, HO9, HW9⟩
        case measure => simp [intOf]; omega
    · obtain rfl : k = N := by omega
      have HE := run.hid (HFIN.out wr _ HB.out HO.out)
      clear HB HO
      go_wp2
      go_ret2
      subst hn
      exact ⟨rfl, ⟨_, HE.out⟩, HBr.out⟩
theorem far_any (x : Int) (w : World) : Calls Tryz.prog 40 #[.int .i64 x] w fun e w' => e = .returned (.int .i64 (max (-2199023255552) (min x 2199023255552))) ∧ w' = w := by
  obtain ⟨m, hm⟩ : ∃ m, m = min x 2199023255552 := ⟨_, rfl⟩
  rw [← hm]
  obtain ⟨z, hz⟩ : ∃ z, z = max (-2199023255552) m := ⟨_, rfl⟩
  rw [← hz]
  have h1 := hm.symm
  have h2 := hz.symm
  clear hm hz
  go_enter Tryz.func40, Tryz.ntmps40
  go_wp2
  go_ret
  exact ⟨rfl, rfl⟩
end Go.Proofs.YtdgcfmfjgidbjaaGreat.cel
