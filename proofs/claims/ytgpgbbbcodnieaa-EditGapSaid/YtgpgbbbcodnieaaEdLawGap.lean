/-
  The walk of the law EditGap.
-/
import Derived.Test.YtgpgbbbcodnieaaEdOpenM
import Derived.Test.YtgpgbbbcodnieaaEdAlive
import Derived.Lib.QuietBelow
namespace Go.Proofs.Ytgpgbbbcodnieaa.ed
open Go Go.RowKit Go.Proofs
set_option linter.unusedVariables false
/-- how many things the first moves hand in -/
def tot (SL : List MV) (i : Nat) : Nat := ((SL.take i).map fun q => 1 + q.l.length).sum
theorem tot_next {SL : List MV} {i : Nat} (h : i < SL.length) : tot SL (i + 1) = tot SL i + 1 + (SL.getD i mv0).l.length := by
  unfold tot
  rw [List.take_succ_eq_append_getElem h, List.map_append, List.sum_append, List.getD_eq_getElem?_getD, List.getElem?_eq_getElem h]
  simp
  omega
theorem tot_mono (SL : List MV) (i : Nat) : tot SL i ≤ tot SL (i + 1) := by
  rcases Nat.lt_or_ge i SL.length with h | h
  · rw [tot_next h]; omega
  · unfold tot
    rw [List.take_of_length_le (by omega), List.take_of_length_le (by omega)]
    exact Nat.le_refl _
theorem tot_le {SL : List MV} {i j : Nat} (h : i ≤ j) : tot SL i ≤ tot SL j := by
  induction j with
  | zero => rw [Nat.le_zero.1 h]; exact Nat.le_refl _
  | succ j ih =>
    rcases Nat.lt_or_ge i (j + 1) with h1 | h1
    · exact Nat.le_trans (ih (by omega)) (tot_mono SL j)
    · have : i = j + 1 := by omega
      rw [this]; exact Nat.le_refl _
theorem tot_ge (SL : List MV) : ∀ i, i ≤ SL.length → i ≤ tot SL i
  | 0, _ => Nat.zero_le _
  | i + 1, h => by
    have := tot_ge SL i (by omega)
    rw [tot_next (by omega)]
    omega
set_option maxRecDepth 100000 in
set_option maxHeartbeats 2000000 in
theorem beyond_any (a0 : Option Addr) (N0 c0 : Nat) (a : Option Addr) (SL : List MV) (c : Nat) (w : World) (hS : MScript w a SL) (hN0 : N0 ≤ 17592186043904) (hl : SL.length ≤ 17592186043904) :
    Calls Try.prog 5 #[.slice a0 N0 c0, .slice a SL.length c] w fun e w' => ∃ b, e = .returned (.bool b) ∧ w = w' ∧ (b = false → SL.length = 0 ∨ N0 + tot SL SL.length ≤ 134217728) := by
  have HS := run.hid (fun i hi => hS.at (Below.refl _ _) i hi)
  have HT := run.hid (fun i (hi : i < SL.length) => tot_next hi)
  have HT0 := run.hid (show tot SL 0 = 0 from rfl)
  generalize hN : SL.length = N at *
  have HM := run.hid (fun (i : Nat) (h : i ≤ N) => tot_le (SL := SL) h)
  clear hS hN
  go_enter Try.func5, Try.ntmps5
  go_wp2
  go_loopw [6, 5] (fun kv nv wr => ∃ i n : Nat, i ≤ N ∧ kv = .int .i64 i ∧ nv = .int .i64 n ∧ Hid (n = N0 + tot SL i) ∧ (i = 0 ∨ n ≤ 134217728) ∧ wr = w) (fun kv _ _ => (N - intOf kv).toNat)
  case atStart => exact ⟨0, N0, by omega, rfl, rfl, by show _ = _; rw [HT0.out]; rfl, .inl rfl, rfl⟩
  case round =>
    obtain ⟨i, q, hi, rfl, rfl, hq, hb, rfl⟩ := hrel
    have hq2 : q ≤ 17592186043904 := by
      rcases hb with rfl | h
      · have := hq.out; rw [HT0.out] at this; omega
      · omega
    by_cases hil : i < N
    · obtain ⟨bd, od, rfl, hbd, hcell, hR, hl2⟩ := HS.out i hil
      have ht := HT.out i hil
      obtain ⟨-, -, -, -, x4⟩ := hcell
      generalize SL.getD i mv0 = qs at *
      generalize qs.l.length = K at *
      generalize qs.a = qa at *
      generalize qs.c = qc at *
      have HTI := run.hid ht
      clear ht hR
      by_cases hbig : 134217728 < q + 1 + K
      · have hbi : (134217728 : Int) < (q : Int) + 1 + (K : Int) := by omega
        go_wp2
        go_ret
        exact ⟨true, rfl, rfl, fun h => by cases h⟩
      · have hbi : ¬ (134217728 : Int) < (q : Int) + 1 + (K : Int) := by omega
        have hnn : ((q : Int) + 1 + (K : Int)) = ((q + 1 + K : Nat) : Int) := by omega
        have HNN := run.hid hnn
        clear hnn
        go_wp2
        go_roundw
        case rel => exact ⟨i + 1, q + 1 + K, by omega, by go_num, by rw [HNN.out], by show _ = _; rw [HTI.out, hq.out]; omega, .inr (by omega), trivial⟩
        case measure => simp [intOf]; omega
    · obtain rfl : i = N := by omega
      go_wp2
      go_ret
      exact ⟨false, rfl, rfl, fun _ => by have := hq.out; omega⟩

/-- both of the document's gaps made, and their row -/
theorem refs_made (w : World) (v : Value) : ∃ w11, w11 = (((w.alloc (.cells #[v] 30)).alloc (.cells #[.slice none 0 0] 30)).alloc (.cells #[.pointer (some ⟨w.heap.size, 0, none⟩), .pointer (some ⟨w.heap.size + 1, 0, none⟩)] 28)) ∧
    Below w.heap.size w w11 ∧ w11.heap.size = w.heap.size + 3 ∧ w11.rowIs w.heap.size 30 1 (fun _ => v) ∧ w11.rowIs (w.heap.size + 1) 30 1 (fun _ => .slice none 0 0) ∧
    w11.cell? ⟨w.heap.size + 2, 0, none⟩ = some (.pointer (some ⟨w.heap.size, 0, none⟩)) ∧ w11.cell? ⟨w.heap.size + 2, 1, none⟩ = some (.pointer (some ⟨w.heap.size + 1, 0, none⟩)) := by
  refine ⟨_, rfl, ?_⟩
  have h0 := World.rowIs_alloc w #[v] 30 (fun _ => v) (by intro i hi; have h0 : i = 0 := Nat.lt_one_iff.1 hi; subst h0; rfl)
  have hs1 : (w.alloc (.cells #[v] 30)).heap.size = w.heap.size + 1 := by simp
  have hb1 := run.below_one w (.cells #[v] 30)
  generalize w.alloc (.cells #[v] 30) = w9 at *
  have h1 := World.rowIs_alloc w9 #[.slice none 0 0] 30 (fun _ => .slice none 0 0) (by intro i hi; have h0 : i = 0 := Nat.lt_one_iff.1 hi; subst h0; rfl)
  rw [hs1] at h1
  have hs2 : (w9.alloc (.cells #[.slice none 0 0] 30)).heap.size = w.heap.size + 2 := by simp [hs1]
  have hb2 := run.below_one w9 (.cells #[.slice none 0 0] 30)
  have h0' := h0.alloc (.cells #[.slice none 0 0] 30)
  generalize w9.alloc (.cells #[.slice none 0 0] 30) = w10 at *
  have hb3 := run.below_one w10 (.cells #[.pointer (some ⟨w.heap.size, 0, none⟩), .pointer (some ⟨w.heap.size + 1, 0, none⟩)] 28)
  refine ⟨(hb1.trans (hb2.mono (by omega))).trans (hb3.mono (by omega)), by simp [hs2], h0'.alloc _, h1.alloc _, ?_, ?_⟩
  · rw [← hs2]; exact World.cell?_alloc_at _ _ _ _ rfl
  · rw [← hs2]; exact World.cell?_alloc_at _ _ _ _ rfl
theorem LS.kept {n q1 q2 g0 r0 g1 r1 gt i T lb0 lb1 lbt : Nat} {v0 v1 : Value} {zs0 zs1 : List Int} {w w' : World} {S : Nat → Prop} (h : LS n q1 q2 g0 r0 g1 r1 gt i T lb0 v0 zs0 lb1 v1 zs1 lbt w) (hk : Kept S w w')
    (hS : ∀ k, (OwnP g0 lb0 r0 v0 k ∨ OwnP g1 lb1 r1 v1 k ∨ k = gt ∨ k = lbt ∨ k = q1 ∨ k = q2) → ¬ S k) : LS n q1 q2 g0 r0 g1 r1 gt i T lb0 v0 zs0 lb1 v1 zs1 lbt w' :=
  ⟨h.p0.kept hk (fun k hk => hS k (.inl hk)), h.p1.kept hk (fun k hk => hS k (.inr (.inl hk))), h.tx.kept hk (hS _ (by simp)) (hS _ (by simp)), h.d01, h.t0, h.t1, h.tl, hk.cellK h.a0 (hS _ (by simp)), hk.cellK h.a1 (hS _ (by simp)), hk.cellK h.b0 (hS _ (by simp)), hk.cellK h.b1 (hS _ (by simp)), h.e0, h.e1, h.et, h.len⟩

theorem LS.more {n q1 q2 g0 r0 g1 r1 gt i T T' lb0 lb1 lbt : Nat} {v0 v1 : Value} {zs0 zs1 : List Int} {w : World} (h : LS n q1 q2 g0 r0 g1 r1 gt i T lb0 v0 zs0 lb1 v1 zs1 lbt w) (hT : T ≤ T') : LS n q1 q2 g0 r0 g1 r1 gt i T' lb0 v0 zs0 lb1 v1 zs1 lbt w :=
  ⟨h.p0, h.p1, h.tx, h.d01, h.t0, h.t1, h.tl, h.a0, h.a1, h.b0, h.b1, h.e0, h.e1, h.et, Nat.le_trans h.len hT⟩
theorem i64_and1E (n : Int) : bits .and .i64 n 1 = n % 2 := by
  have h1 : (BitVec.ofInt 64 1).toNat = 2 ^ 1 - 1 := by decide
  have key : (BitVec.ofInt 64 n &&& BitVec.ofInt 64 1).toNat = (n % ((2 ^ 64 : Nat) : Int)).toNat % 2 ^ 1 := by
    rw [BitVec.toNat_and, BitVec.toNat_ofInt, h1, Nat.and_two_pow_sub_one_eq_mod]
  show IntKind.i64.wrap ((BitVec.ofInt 64 n &&& BitVec.ofInt 64 1).toNat : Nat) = n % 2
  rw [key, IntKind.wrap_i64]
  omega

set_option maxRecDepth 100000 in
set_option maxHeartbeats 8000000 in
theorem lawGap_any (a0 : Option Addr) (xs : List Int) (c0 : Nat) (a : Option Addr) (SL : List MV) (c : Nat) (w : World) (hX : run.ReadsN 1 w (.slice a0 xs.length c0) xs.length (iv xs)) (hX1 : xs.length ≤ 17592186043904) (hS : MScript w a SL) (hSL : SL.length ≤ 17592186043904) :
    Calls Try.prog 3 #[.slice a0 xs.length c0, .slice a SL.length c] w fun e w' => e = .returned (.bool true) ∧ Below w.heap.size w w' := by
  obtain ⟨it, hi0, hz0, hz1, hz2⟩ := info_parts info_i64
  have HBY := run.hid (beyond_any a0 xs.length c0 a SL c w hS hX1 hSL)
  have HXR := run.hid (fun w' (hb : Below w.heap.size w w') => hX.below hb)
  have HSC := run.hid (fun w' (hb : Below w.heap.size w w') i hi => hS.at hb i hi)
  have HT := run.hid (fun i (hi : i < SL.length) => tot_next hi)
  have HTG := run.hid (tot_ge SL)
  have HTL := run.hid (fun i j (h : i ≤ j) => tot_le (SL := SL) h)
  have HT0 := run.hid (show tot SL 0 = 0 from rfl)
  obtain ⟨N, hN⟩ : ∃ N, N = xs.length := ⟨_, rfl⟩
  obtain ⟨M, hM⟩ : ∃ M, M = SL.length := ⟨_, rfl⟩
  rw [← hN] at HBY HXR hX1 ⊢
  rw [← hM] at HBY HSC HT HTG hSL ⊢
  have HN := run.hid hN
  have HM := run.hid hM
  clear hX hS hN hM
  generalize hn : w.heap.size = n at *
  go_enter Try.func3, Try.ntmps3
  go_wp2_with fail
  refine HBY.out.mono ?_
  rintro e w' ⟨bb, rfl, rfl, hbb⟩
  cases bb with
  | true =>
    clear hbb
    go_wp2
    go_ret
    exact ⟨rfl, Below.refl _ _⟩
  | false =>
    have htot := hbb rfl
    have HTT := run.hid htot
    clear hbb htot HBY
    have HRA := run.hid (HXR.out (w.alloc (.cells #[] 3)) ((Below.refl _ _).alloc (Nat.le_of_eq hn.symm) _))
    go_wp2_with (at_builtin; refine run.wpList_append_any _ rfl _ _ 22 rfl n 3 it (.int .i64 0) 1 8 Try.underlying22 hi0 hz0 hz1 hz2 rfl (by decide) _ _ _ rfl (own_emptyI (by rw [← hn]; exact run.heap_new w (.cells #[] 3)) (Nat.le_refl _)) _ N (iv xs) rfl HRA.out (iv_one _) (by unfold maxLen; omega) (by omega) (by simp; omega) ?_)
    intro v3 w3 hown3 hgrow hold hstep
    have HL : Hid (w3.ownsRow n 3 1 v3 (N + 0) (iv xs ++ List.replicate 0 (.int .i64 (-77)))) := by
      show World.ownsRow _ _ _ _ _ _ _
      rw [List.replicate_zero, List.append_nil, Nat.add_zero]
      simpa using hown3
    have HB3 : Hid (Below n w w3) := by
      have h1 := (Below.refl n w).alloc (Nat.le_of_eq hn.symm) (.cells #[] 3)
      exact run.below_append h1 (own_emptyI (by rw [← hn]; exact run.heap_new w (.cells #[] 3)) (Nat.le_refl _)) hgrow (by simp; omega)
    clear hown3 hgrow hold hstep
    have hs3 := HB3.out.size
    rw [hn] at hs3
    go_wp2
    go_loopw [6, 5] (fun kv v wr => ∃ q : Nat, q ≤ 9 ∧ kv = .int .i64 q ∧ Hid (wr.ownsRow n 3 1 v (N + q) (iv xs ++ List.replicate q (.int .i64 (-77)))) ∧ Hid (Below n w wr)) (fun v _ _ => 9 - (intOf v).toNat)
    case atStart => exact ⟨0, Nat.zero_le _, rfl, HL, HB3⟩
    case round =>
      obtain ⟨q, hq, rfl, HO, HBk⟩ := hrel
      have hsr := HBk.out.size
      rw [hn] at hsr
      by_cases hlt : q < 9
      · have hrp := run.hid (show iv xs ++ List.replicate (q + 1) (Value.int .i64 (-77)) = (iv xs ++ List.replicate q (.int .i64 (-77))) ++ [.int .i64 (-77)] by rw [List.replicate_succ', List.append_assoc])
        go_wp2_with (at_builtin; refine run.wpList_append_any _ rfl _ _ 22 rfl n 3 it (.int .i64 0) 1 8 Try.underlying22 hi0 hz0 hz1 hz2 rfl (by decide) _ _ _ rfl (HO.out.alloc _) _ 1 [.int .i64 (-77)] rfl (run.readsN_new wr [.int .i64 (-77)] 1 1 _ rfl) (by intro u hu; simp only [List.mem_singleton] at hu; subst hu; rfl) (by unfold maxLen; omega) (by omega) (by simp; omega) ?_)
        intro v8 w8 hown8 hgrow hold hstep
        have HO8 : Hid (w8.ownsRow n 3 1 v8 (N + (q + 1)) (iv xs ++ List.replicate (q + 1) (.int .i64 (-77)))) := by
          show World.ownsRow _ _ _ _ _ _ _
          rw [hrp.out]
          simpa [Nat.add_assoc] using hown8
        have HB8 := run.hid (run.below_append (HBk.out.alloc (by omega) _) (HO.out.alloc (.cells #[.int .i64 (-77)] 3)) hgrow (by simp; omega))
        clear hown8 hgrow hold hstep HO HBk
        go_wp2
        go_roundw
        case rel => exact ⟨q + 1, by omega, by go_num, HO8, HB8⟩
        case measure => simp [intOf]; omega
      · obtain rfl : q = 9 := by omega
        obtain ⟨gL, cL, rfl⟩ := own_someE HO.out (by omega)
        have HROOM := own_roomI HO.out
        rw [show ((9 : Nat) : Int) = 9 from rfl]
        clear HL HB3 HRA hs3
        generalize wr = w4 at *
        obtain ⟨hR1, hR2⟩ := HROOM
        have hgL := HO.out.lt gL rfl
        have HNG := run.hid (gi_new (some ⟨gL, 0, none⟩) cL xs w4 (front_src HO.out (iv_one _) (by rw [iv_length]) (by rw [← HN.out]; omega)) (by rw [← HN.out]; omega))
        rw [← HN.out] at HNG
        go_wp2_with fail
        refine HNG.out.mono ?_
        rintro e w5 ⟨g0, lb0, rfl, hG0, hg0, hl0, hb5⟩
        have hs5 := hb5.size
        have HB5 : Hid (Below n w w5) := HBk.out.trans (hb5.mono hsr)
        have HO5 := run.hid (run.own_below HO.out hb5)
        have HG0 := run.hid hG0
        have hlt0 := hG0.lt
        clear hG0 hb5 HBk HO HNG
        go_wp2_with fail
        refine (gi_new none 0 [] w5 ⟨rfl, by simp [iv], .inl ⟨rfl, rfl, rfl⟩⟩ (by simp)).mono ?_
        rintro e w6 ⟨g1, lb1, rfl, hG1, hg1, hl1, hb6⟩
        have hs6 := hb6.size
        have HB6 : Hid (Below n w w6) := HB5.out.trans (hb6.mono (by omega))
        have HO6 := run.hid (run.own_below HO5.out hb6)
        have HG06 := run.hid (HG0.out.kept (Kept.of_below (S := fun _ => False) hb6) (fun h => h) (fun h => h))
        have HG1 := run.hid hG1
        have hlt1 := hG1.lt
        clear hG1 hb6 HB5 HO5 HG0
        go_upto_region 9 with fail
        have hbA := run.below_one w6 (.cells #[.pointer (some ⟨g0, 0, none⟩), .pointer (some ⟨g1, 0, none⟩)] 25)
        have qa0 : (w6.alloc (.cells #[.pointer (some ⟨g0, 0, none⟩), .pointer (some ⟨g1, 0, none⟩)] 25)).cell? ⟨w6.heap.size, 0, none⟩ = some (.pointer (some ⟨g0, 0, none⟩)) := World.cell?_alloc_at _ _ _ _ rfl
        have qa1 : (w6.alloc (.cells #[.pointer (some ⟨g0, 0, none⟩), .pointer (some ⟨g1, 0, none⟩)] 25)).cell? ⟨w6.heap.size, 1, none⟩ = some (.pointer (some ⟨g1, 0, none⟩)) := World.cell?_alloc_at _ _ _ _ rfl
        have hs7 : (w6.alloc (.cells #[.pointer (some ⟨g0, 0, none⟩), .pointer (some ⟨g1, 0, none⟩)] 25)).heap.size = w6.heap.size + 1 := by simp
        generalize w6.alloc (.cells #[.pointer (some ⟨g0, 0, none⟩), .pointer (some ⟨g1, 0, none⟩)] 25) = w7 at *
        have HB7 : Hid (Below n w w7) := HB6.out.trans (hbA.mono (by omega))
        have HO7 := run.hid (run.own_below HO6.out hbA)
        have HG07 := run.hid (HG06.out.kept (Kept.of_below (S := fun _ => False) hbA) (fun h => h) (fun h => h))
        have HG17 := run.hid (HG1.out.kept (Kept.of_below (S := fun _ => False) hbA) (fun h => h) (fun h => h))
        have HQA := run.hid (And.intro qa0 qa1)
        clear hbA qa0 qa1 HB6 HO6 HG06 HG1
        generalize hq1 : w6.heap.size = q1 at *
        have HS7 := run.hid hs7
        clear hs7
        generalize hB7 : w7.heap.size = B7 at *
        have hB7n : n ≤ B7 := by have := HS7.out; omega
        have HRA := run.hid (HXR.out (w7.alloc (.cells #[] 3)) (HB7.out.alloc (by omega) _))
        go_wp2_with (at_builtin; refine run.wpList_append_any _ rfl _ _ 22 rfl B7 3 it (.int .i64 0) 1 8 Try.underlying22 hi0 hz0 hz1 hz2 rfl (by decide) _ _ _ rfl (own_emptyI (by rw [← hB7]; exact run.heap_new w7 (.cells #[] 3)) (Nat.le_refl _)) _ N (iv xs) rfl HRA.out (iv_one _) (by unfold maxLen; omega) (by omega) (by simp; omega) ?_)
        intro v8 w8 hown8 hgrow hold hstep
        have HO8 : Hid (w8.ownsRow B7 3 1 v8 N (iv xs)) := run.hid (by simpa using hown8)
        have HB78 : Hid (Below B7 w7 w8) := by
          have h1 := (Below.refl B7 w7).alloc (Nat.le_of_eq hB7.symm) (.cells #[] 3)
          exact run.below_append h1 (own_emptyI (by rw [← hB7]; exact run.heap_new w7 (.cells #[] 3)) (Nat.le_refl _)) hgrow (by simp; omega)
        clear hown8 hgrow hold hstep HRA
        obtain ⟨a8, c8, rfl⟩ := run.own_value HO8.out
        have hs8 := HB78.out.size
        go_upto_region 10 with fail
        obtain ⟨w11, hw11, hb11, hs11, hrow0, hrow1, qb0, qb1⟩ := refs_made w8 (.slice a8 N c8)
        rw [show w8.heap.size + 2 = w8.heap.size + 1 + 1 from rfl] at qb0 qb1
        rw [← hw11]
        clear hw11
        have hR8 : Below B7 w7 w11 := HB78.out.trans (hb11.mono (by omega))
        have hk11 : Kept (fun _ => False) w7 w11 := Kept.of_below (by rw [hB7]; exact hR8)
        have hv8 : ∀ k, (Value.slice a8 N c8).ownBlock = some k → B7 ≤ k ∧ k < w8.heap.size := fun k hk => HO8.out.lt k hk
        have HREF0 : Hid (RefL w8.heap.size (.slice a8 N c8) xs w11) := ⟨hrow0, by rw [← HN.out]; exact run.own_mono (run.own_below HO8.out hb11) (Nat.zero_le _), fun k hk e => by have := (hv8 k hk).2; omega⟩
        have HREF1 : Hid (RefL (w8.heap.size + 1) (.slice none 0 0) [] w11) := ⟨hrow1, World.ownsRow_nil _ _ _ _, fun k hk => by simp [Value.ownBlock] at hk⟩
        have HG0 := run.hid (HG07.out.kept hk11 (fun h => h) (fun h => h))
        have HG1 := run.hid (HG17.out.kept hk11 (fun h => h) (fun h => h))
        have HO11 := run.hid (run.own_below HO7.out (by rw [hB7]; exact hR8))
        have HB11 : Hid (Below n w w11) := HB7.out.trans (hR8.mono hB7n)
        have HQB := run.hid (And.intro qb0 qb1)
        have HQA1 := run.hid (And.intro (hk11.cellK HQA.out.1 (fun h => h)) (hk11.cellK HQA.out.2 (fun h => h)))
        have HV8 := run.hid hv8
        clear hrow0 hrow1 qb0 qb1 hb11 hR8 hk11 HB7 HB78 HO8 HO7 HG07 HG17 HQA hv8
        generalize hR : w8.heap.size = R at *
        clear hR
        have hq17 := HS7.out
        have HGS := run.hid (gs_new w11)
        go_wp2_with fail
        refine HGS.out.mono ?_
        rintro e w12 ⟨gt, lbt, rfl, hX0, hgt, hlbt, hb12⟩
        rw [hs11] at hgt hlbt
        have hs12 := hb12.size
        rw [hs11] at hs12
        have hxl := hX0.lt
        have HLS12 : Hid (LS n q1 (R + 1 + 1) g0 R g1 (R + 1) gt 0 N lb0 (.slice a8 N c8) xs lb1 (.slice none 0 0) [] lbt w12) := by
          have hkk : Kept (fun _ => False) w11 w12 := Kept.of_below hb12
          have hv8 := HV8.out
          have hnone : ∀ k, ¬ (Value.slice none 0 0).ownBlock = some k := fun k hk => by simp [Value.ownBlock] at hk
          have hnl := HN.out
          refine ⟨⟨HG0.out.kept hkk (fun h => h) (fun h => h), HREF0.out.below hb12, by omega, by omega, fun k hk => by have := hv8 k hk; omega, ?_⟩, ⟨HG1.out.kept hkk (fun h => h) (fun h => h), HREF1.out.below hb12, by omega, by omega, fun k hk => absurd hk (hnone k), ?_⟩, hX0, ?_, ?_, ?_, by omega, hkk.cellK HQA1.out.1 (fun h => h), hkk.cellK HQA1.out.2 (fun h => h), hkk.cellK HQB.out.1 (fun h => h), hkk.cellK HQB.out.2 (fun h => h), ?_, ?_, by omega, by rw [← hnl]; simp⟩
          · intro k hk
            rcases hk with rfl | rfl | rfl | hk
            · omega
            · omega
            · omega
            · have := hv8 k hk; omega
          · intro k hk
            rcases hk with rfl | rfl | rfl | hk
            · omega
            · omega
            · omega
            · exact absurd hk (hnone k)
          · intro k hk hk2
            have h1 : k < w5.heap.size ∨ B7 ≤ k ∧ k ≤ R := by
              rcases hk with rfl | rfl | rfl | hk
              · omega
              · omega
              · omega
              · have := hv8 k hk; omega
            have h2 : w5.heap.size ≤ k ∧ k < q1 ∨ k = R + 1 := by
              rcases hk2 with rfl | rfl | rfl | hk2
              · omega
              · omega
              · omega
              · exact absurd hk2 (hnone k)
            omega
          · intro k hk
            rcases hk with rfl | rfl | rfl | hk
            · omega
            · omega
            · omega
            · have := hv8 k hk; omega
          · intro k hk
            rcases hk with rfl | rfl | rfl | hk
            · omega
            · omega
            · omega
            · exact absurd hk (hnone k)
          · intro k hk
            rcases hk with rfl | rfl | rfl | hk
            · omega
            · omega
            · omega
            · have := hv8 k hk; omega
          · intro k hk
            rcases hk with rfl | rfl | rfl | hk
            · omega
            · omega
            · omega
            · exact absurd hk (hnone k)
        have HB12 : Hid (Below n w w12) := HB11.out.trans (hb12.mono (by omega))
        have HO12 := run.hid (run.own_below HO11.out hb12)
        have qa0 := HLS12.out.a0
        have qa1 := HLS12.out.a1
        have HAL := run.hid (alive_any w12)
        clear hX0 hb12 HG0 HG1 HREF0 HREF1 HO11 HB11 HQB HQA1 HGS
        go_wp2_with fail
        refine HAL.out.mono ?_
        rintro e w13 ⟨rfl, hb13⟩
        have hs13 := hb13.size
        have HLS := run.hid (HLS12.out.below hb13)
        have HB13 : Hid (Below n w w13) := HB12.out.trans (hb13.mono (by omega))
        have HO13 := run.hid (run.own_below HO12.out hb13)
        clear hb13 qa0 qa1 HLS12 HB12 HO12 HAL
        obtain ⟨HX, hHX⟩ : ∃ HX, HX = iv xs ++ List.replicate 9 (Value.int .i64 (-77)) := ⟨_, rfl⟩
        have HXL : Hid (HX.length = N + 9) := by show _ = _; rw [hHX, List.length_append, iv_length, List.length_replicate, ← HN.out]
        have HXA : Hid (∀ q, q < N → HX[q]? = some (.int .i64 (xs.getD q 0))) := fun q h1 => by
          rw [hHX, List.getElem?_append_left (by rw [iv_length, ← HN.out]; exact h1), iv_get (by rw [← HN.out]; exact h1)]
        have HXB : Hid (∀ q, N ≤ q → q < N + 9 → HX[q]? = some (.int .i64 (-77))) := fun q h1 h2 => by
          rw [hHX, List.getElem?_append_right (by rw [iv_length, ← HN.out]; exact h1), List.getElem?_replicate, if_pos (by rw [iv_length, ← HN.out]; omega)]
        rw [← hHX] at HO13
        have HO13z : Hid (w13.ownsRow n 3 1 (.slice (some ⟨gL, 0, none⟩) (N + 9) cL) (N + 9) (over (.int .i64 (-5)) HX 0)) := HO13.out
        have hn13 : n ≤ w13.heap.size := by omega
        have hgL4 : ∀ k, (OwnP g0 lb0 R (.slice a8 N c8) k ∨ OwnP g1 lb1 (R + 1) (.slice none 0 0) k ∨ k = gt ∨ k = lbt ∨ k = q1 ∨ k = R + 1 + 1) → ¬ k = gL := by
          have hv8 := HV8.out
          have hq17 := HS7.out
          intro k hk e
          subst e
          rcases hk with (rfl | rfl | rfl | hk) | (rfl | rfl | rfl | hk) | rfl | rfl | rfl | rfl
          all_goals first | omega | (have := hv8 _ hk; omega) | (simp [Value.ownBlock] at hk)
        have HGL := run.hid hgL4
        clear hgL4 hHX HO13 hlt0 hlt1 hg0 hl0 hg1 hl1 hgt hlbt hxl hs12 hs13 hs5 hs6 hs8 hsr hR1 hR2
        go_wp2
        go_loopw [10] (fun kv wr => ∃ j : Nat, j ≤ N ∧ kv = .int .i64 j ∧ Hid (wr.ownsRow n 3 1 (.slice (some ⟨gL, 0, none⟩) (N + 9) cL) (N + 9) (over (.int .i64 (-5)) HX j)) ∧ Hid (Kept (fun b => b = gL) w13 wr)) (fun kv _ => (N - intOf kv).toNat)
        case atStart => exact ⟨0, by omega, rfl, HO13z, Kept.refl _ _⟩
        case round =>
          clear HO13z
          obtain ⟨j, hj, rfl, H4, HKr⟩ := hrel
          have HBr : Hid (Below n w wr) := HB13.out.trans (HKr.out.below hn13 (fun q _ hq => by subst hq; exact hgL.1))
          by_cases hil : j < N
          · obtain ⟨b1, o1, c1', e1, l1, k2⟩ := reads_int (zs := xs) (by rw [← HN.out]; exact HXR.out wr HBr.out) (k := j) (by rw [← HN.out]; exact hil)
            simp only [Value.slice.injEq] at e1
            obtain ⟨rfl, -, rfl⟩ := e1
            have k1 := H4.out.cellAt j (by omega)
            have h2 : (over (.int .i64 (-5)) HX j)[j]? = HX[j]? := by
              unfold over
              rw [List.getElem?_append_right (by simp), List.length_replicate, Nat.sub_self, List.getElem?_drop, Nat.add_zero]
            rw [h2, HXA.out j hil] at k1
            have hx := over_next (z := .int .i64 (-5)) (xs := HX) (i := j) (by rw [HXL.out]; omega)
            have hfz := H4.out.frozenAt j
            generalize xs.getD j 0 = tz at *
            have HXN := run.hid hx
            clear h2 hx
            go_upto_region 16 with fail
            go_quiet (fail)
            have HO := run.hid ((show (wr.drewN nq).ownsRow n 3 1 (.slice (some ⟨gL, 0, none⟩) (N + 9) cL) (N + 9) (over (.int .i64 (-5)) HX j) from H4.out).stored j (.int .i64 (-5))).1
            rw [HXN.out] at HO
            have HKn := run.hid (Kept.stored (HKr.out.trans (Kept.of_below (S := fun _ => False) (drewN_belowE _ wr nq)) (fun q _ hq => hq.elim)) (g := gL) (.inl rfl) j (.int .i64 (-5)))
            clear H4 HKr HBr k2
            go_wp2
            clear k1 hfz
            go_roundw
            case rel => exact ⟨j + 1, by omega, by go_num, HO, HKn⟩
            case measure => simp [intOf]; omega
          · obtain rfl : j = N := by omega
            have HLS14 := run.hid (HLS.out.kept HKr.out HGL.out)
            clear hil HLS HKr HB13 HGL hn13
            generalize wr = w14 at *
            go_wp2
            go_loopw [11] (fun kv wr => ∃ q : Nat, q ≤ 9 ∧ kv = .int .i64 q ∧ wr = w14) (fun kv _ => (9 - intOf kv).toNat)
            case atStart => exact ⟨0, by omega, rfl, rfl⟩
            case round =>
              obtain ⟨q, hq, rfl, rfl⟩ := hrel
              by_cases hq9 : q < 9
              · have k1 := H4.out.cellAt (j + q) (by omega)
                have h2 : (over (.int .i64 (-5)) HX j)[j + q]? = HX[j + q]? := by
                  unfold over
                  rw [List.getElem?_append_right (by simp), List.length_replicate, List.getElem?_drop]
                  congr 1
                  omega
                rw [h2, HXB.out (j + q) (by omega) (by omega)] at k1
                clear h2
                go_wp2
                go_roundw
                case rel => exact ⟨q + 1, by omega, by go_num, trivial⟩
                case measure => simp [intOf]; omega
              · obtain rfl : q = 9 := by omega
                rw [show ((9 : Nat) : Int) = 9 from rfl]
                clear hq9 H4 HXA HXB HXL
                generalize wr = wz at *
                generalize hr1 : R + 1 = r1 at *
                generalize hq2 : r1 + 1 = q2 at *
                clear hr1 hq2
                go_wp2
                go_loopw [12] (fun kv wr => ∃ i : Nat, i ≤ M ∧ kv = .int .i64 i ∧ ∃ lb0 v0 zs0 lb1 v1 zs1 lbt, Hid (LS n q1 q2 g0 R g1 r1 gt i (j + tot SL i) lb0 v0 zs0 lb1 v1 zs1 lbt wr) ∧ Hid (Below n w wr)) (fun kv _ => (M - intOf kv).toNat)
                case atStart => exact ⟨0, by omega, rfl, _, _, _, _, _, _, _, HLS14.out.more (by omega), HBr⟩
                case round =>
                  clear HLS14 HBr
                  obtain ⟨i, hi, rfl, lb0, v0, zs0, lb1, v1, zs1, lbt, HL, HBr⟩ := hrel
                  --LOOP4
                  have hbr : Below n w wr := HBr.out
                  have hnr := hbr.size
                  rw [hn] at hnr
                  clear hbr
                  by_cases hil : i < M
                  · obtain ⟨bd, od, rfl, hbd, hcell, hR, hl2⟩ := HSC.out wr HBr.out i hil
                    have HRD := run.hid (fun w' (hb : Below n wr w') => by obtain ⟨_, _, _, _, _, h1, _⟩ := HSC.out w' (HBr.out.trans hb) i hil; exact h1 : ∀ w', Below n wr w' → run.ReadsN 1 w' (.slice (SL.getD i mv0).a (SL.getD i mv0).l.length (SL.getD i mv0).c) (SL.getD i mv0).l.length (iv (SL.getD i mv0).l))
                    have HTI := run.hid (HT.out i hil)
                    have htt := HTT.out.resolve_left (by omega)
                    have htl := HTL.out (i + 1) M (by omega)
                    have hti := HTI.out
                    rw [HM.out] at htt htl
                    generalize SL.getD i mv0 = qs at *
                    obtain ⟨sd, sk, si, sm, sa, sl, sc⟩ := qs
                    obtain ⟨x0, x1, x2, x3, x4⟩ := hcell
                    simp only at x0 x1 x2 x3 x4 hl2 HRD hti HTI
                    obtain ⟨K, hK⟩ : ∃ K, K = sl.length := ⟨_, rfl⟩
                    rw [← hK] at hti HTI
                    have hKb : K ≤ 134217728 := by omega
                    have hib : i ≤ 134217728 := by have := HTG.out i (by omega); omega
                    have hlen := HL.out.len
                    have hTb : zs0.length + zs1.length ≤ 134217728 := by omega
                    have HKE := run.hid hK
                    clear htt htl hti hR hl2 hK
                    have hm : bits .and .i64 sk 1 = 0 ∨ bits .and .i64 sk 1 = 1 := by rw [i64_and1E]; omega
                    have ha0 := HL.out.a0
                    have ha1 := HL.out.a1
                    have hb0 := HL.out.b0
                    have hb1 := HL.out.b1
                    have hq1w := run.lt_of_cell ha0
                    have hq2w := run.lt_of_cell hb0
                    have HD : Hid (Below wr.heap.size wr wr.drew) := (Below.refl _ _).drew
                    have HBDn := run.hid hbd
                    rcases hm with hm | hm
                    · have HMV := run.hid (moves_any n g0 lb0 R v0 zs0 sl sd sk si sm sa sc wr.drew (HL.out.p0.below HD.out) (by omega) (by have := HKE.out; omega) (fun w' hb => HRD.out w' ((HD.out.mono hnr).trans hb)))
                      have HKM : Hid (∀ w', Moved n g0 lb0 R v0 zs0 sl.length wr.drew w' → w'.cell? ⟨bd, od + i * 5, none⟩ = some (.int .i64 sd) ∧ w'.cell? ⟨bd, od + i * 5 + 1, none⟩ = some (.int .i64 sk) ∧ w'.cell? ⟨bd, od + i * 5 + 2, none⟩ = some (.int .i64 si) ∧ w'.cell? ⟨bd, od + i * 5 + 3, none⟩ = some (.int .i64 sm) ∧ w'.cell? ⟨bd, od + i * 5 + 4, none⟩ = some (.slice sa sl.length sc) ∧ w'.cell? ⟨q1, 0, none⟩ = some (.pointer (some ⟨g0, 0, none⟩)) ∧ w'.cell? ⟨q2, 0, none⟩ = some (.pointer (some ⟨R, 0, none⟩))) := by
                        intro w' hmv
                        obtain ⟨hbm, _, _, _, hls⟩ := (HL.out.below HD.out).move0 hmv
                        have hw : ∀ o v, wr.cell? ⟨bd, o, none⟩ = some v → w'.cell? ⟨bd, o, none⟩ = some v := fun o v h => (hbm.cell (p := ⟨bd, o, none⟩) HBDn.out).trans h
                        exact ⟨hw _ _ x0, hw _ _ x1, hw _ _ x2, hw _ _ x3, hw _ _ x4, hls.a0, hls.b0⟩
                      have HK0 : Hid (∀ w', w' = wr.drew → w'.cell? ⟨bd, od + i * 5, none⟩ = some (.int .i64 sd) ∧ w'.cell? ⟨bd, od + i * 5 + 1, none⟩ = some (.int .i64 sk) ∧ w'.cell? ⟨bd, od + i * 5 + 2, none⟩ = some (.int .i64 si) ∧ w'.cell? ⟨bd, od + i * 5 + 3, none⟩ = some (.int .i64 sm) ∧ w'.cell? ⟨bd, od + i * 5 + 4, none⟩ = some (.slice sa sl.length sc) ∧ w'.cell? ⟨q1, 0, none⟩ = some (.pointer (some ⟨g0, 0, none⟩)) ∧ w'.cell? ⟨q2, 0, none⟩ = some (.pointer (some ⟨R, 0, none⟩))) := by
                        rintro w' rfl
                        exact ⟨x0, x1, x2, x3, x4, ha0, hb0⟩
                      have hz0' : (0 : Int) ≤ (i : Int) := by omega
                      clear x0 x1 x2 x3 x4 ha0 ha1 hb0 hb1 HT HSC HRD
                      go_upto_region 27 with fail
                      go_region_held3 (fun w' => w'.cell? ⟨bd, od + i * 5, none⟩ = some (.int .i64 sd) ∧ w'.cell? ⟨bd, od + i * 5 + 1, none⟩ = some (.int .i64 sk) ∧ w'.cell? ⟨bd, od + i * 5 + 2, none⟩ = some (.int .i64 si) ∧ w'.cell? ⟨bd, od + i * 5 + 3, none⟩ = some (.int .i64 sm) ∧ w'.cell? ⟨bd, od + i * 5 + 4, none⟩ = some (.slice sa sl.length sc) ∧ w'.cell? ⟨q1, 0, none⟩ = some (.pointer (some ⟨g0, 0, none⟩)) ∧ w'.cell? ⟨q2, 0, none⟩ = some (.pointer (some ⟨R, 0, none⟩)))
                        (first
                          | assumption
                          | exact HK0.out _ rfl
                          | exact HKM.out _ hmv
                          | go_keep
                          | (trace_state; fail))
                        (first
                          | (go_at_call 9; refine HMV.out.mono ?_; rintro e w9 ⟨rfl, hmv⟩))
                      all_goals
                        obtain ⟨hbm, lb0', v0', zs0', hls⟩ := (HL.out.below HD.out).move0 hmv
                        have HB9 : Hid (Below n w w9) := (HBr.out.trans (HD.out.mono hnr)).trans hbm
                        have HL9 := run.hid hls
                        have hn9 := HB9.out.size
                        rw [hn] at hn9
                        clear hls hmv hbm HMV HKM HK0 HL HBr
                        have hsz := HL9.out.sizes
                        have HBX := run.hid (run.below_one w9 (.cells #[.string ⟨#[120]⟩] 9))
                        have HIN := run.hid (gs_insert (HL9.out.below HBX.out).tx (some ⟨w9.heap.size, 0, none⟩) 1 (src_new (t := 9) (cs := #[.string ⟨#[120]⟩]) (by intro v hv; simp at hv; subst hv; rfl) rfl) (by omega) (fun b off e => by cases e; omega))
                        go_wp2_with fail
                        refine HIN.out.mono ?_
                        rintro e w11 ⟨rfl, lbt', hX, hlb, hk⟩
                        obtain ⟨hb11, hls⟩ := (HL9.out.below HBX.out).text hX hlb hk
                        have HB11 : Hid (Below n w w11) := (HB9.out.trans (HBX.out.mono hn9)).trans hb11
                        have HL11 := run.hid (hls.more (T' := j + tot SL (i + 1)) (by have := HTI.out; have := HKE.out; omega))
                        clear hls hb11 hX hlb hk HIN HBX HL9 HB9 hsz
                        go_wp2
                        go_roundw
                        case rel => exact ⟨i + 1, by omega, by go_num, _, _, _, _, _, _, _, HL11, HB11⟩
                        case measure => simp [intOf]; omega
                    · have HMV := run.hid (moves_any n g1 lb1 r1 v1 zs1 sl sd sk si sm sa sc wr.drew (HL.out.p1.below HD.out) (by omega) (by have := HKE.out; omega) (fun w' hb => HRD.out w' ((HD.out.mono hnr).trans hb)))
                      have HKM : Hid (∀ w', Moved n g1 lb1 r1 v1 zs1 sl.length wr.drew w' → w'.cell? ⟨bd, od + i * 5, none⟩ = some (.int .i64 sd) ∧ w'.cell? ⟨bd, od + i * 5 + 1, none⟩ = some (.int .i64 sk) ∧ w'.cell? ⟨bd, od + i * 5 + 2, none⟩ = some (.int .i64 si) ∧ w'.cell? ⟨bd, od + i * 5 + 3, none⟩ = some (.int .i64 sm) ∧ w'.cell? ⟨bd, od + i * 5 + 4, none⟩ = some (.slice sa sl.length sc) ∧ w'.cell? ⟨q1, 1, none⟩ = some (.pointer (some ⟨g1, 0, none⟩)) ∧ w'.cell? ⟨q2, 1, none⟩ = some (.pointer (some ⟨r1, 0, none⟩))) := by
                        intro w' hmv
                        obtain ⟨hbm, _, _, _, hls⟩ := (HL.out.below HD.out).move1 hmv
                        have hw : ∀ o v, wr.cell? ⟨bd, o, none⟩ = some v → w'.cell? ⟨bd, o, none⟩ = some v := fun o v h => (hbm.cell (p := ⟨bd, o, none⟩) HBDn.out).trans h
                        exact ⟨hw _ _ x0, hw _ _ x1, hw _ _ x2, hw _ _ x3, hw _ _ x4, hls.a1, hls.b1⟩
                      have HK0 : Hid (∀ w', w' = wr.drew → w'.cell? ⟨bd, od + i * 5, none⟩ = some (.int .i64 sd) ∧ w'.cell? ⟨bd, od + i * 5 + 1, none⟩ = some (.int .i64 sk) ∧ w'.cell? ⟨bd, od + i * 5 + 2, none⟩ = some (.int .i64 si) ∧ w'.cell? ⟨bd, od + i * 5 + 3, none⟩ = some (.int .i64 sm) ∧ w'.cell? ⟨bd, od + i * 5 + 4, none⟩ = some (.slice sa sl.length sc) ∧ w'.cell? ⟨q1, 1, none⟩ = some (.pointer (some ⟨g1, 0, none⟩)) ∧ w'.cell? ⟨q2, 1, none⟩ = some (.pointer (some ⟨r1, 0, none⟩))) := by
                        rintro w' rfl
                        exact ⟨x0, x1, x2, x3, x4, ha1, hb1⟩
                      have hz0' : (0 : Int) ≤ (i : Int) := by omega
                      clear x0 x1 x2 x3 x4 ha0 ha1 hb0 hb1 HT HSC HRD
                      go_upto_region 27 with fail
                      go_region_held3 (fun w' => w'.cell? ⟨bd, od + i * 5, none⟩ = some (.int .i64 sd) ∧ w'.cell? ⟨bd, od + i * 5 + 1, none⟩ = some (.int .i64 sk) ∧ w'.cell? ⟨bd, od + i * 5 + 2, none⟩ = some (.int .i64 si) ∧ w'.cell? ⟨bd, od + i * 5 + 3, none⟩ = some (.int .i64 sm) ∧ w'.cell? ⟨bd, od + i * 5 + 4, none⟩ = some (.slice sa sl.length sc) ∧ w'.cell? ⟨q1, 1, none⟩ = some (.pointer (some ⟨g1, 0, none⟩)) ∧ w'.cell? ⟨q2, 1, none⟩ = some (.pointer (some ⟨r1, 0, none⟩)))
                        (first
                          | assumption
                          | exact HK0.out _ rfl
                          | exact HKM.out _ hmv
                          | go_keep
                          | (trace_state; fail))
                        (first
                          | (go_at_call 9; refine HMV.out.mono ?_; rintro e w9 ⟨rfl, hmv⟩))
                      all_goals
                        obtain ⟨hbm, lb1', v1', zs1', hls⟩ := (HL.out.below HD.out).move1 hmv
                        have HB9 : Hid (Below n w w9) := (HBr.out.trans (HD.out.mono hnr)).trans hbm
                        have HL9 := run.hid hls
                        have hn9 := HB9.out.size
                        rw [hn] at hn9
                        clear hls hmv hbm HMV HKM HK0 HL HBr
                        have hsz := HL9.out.sizes
                        have HBX := run.hid (run.below_one w9 (.cells #[.string ⟨#[120]⟩] 9))
                        have HIN := run.hid (gs_insert (HL9.out.below HBX.out).tx (some ⟨w9.heap.size, 0, none⟩) 1 (src_new (t := 9) (cs := #[.string ⟨#[120]⟩]) (by intro v hv; simp at hv; subst hv; rfl) rfl) (by omega) (fun b off e => by cases e; omega))
                        go_wp2_with fail
                        refine HIN.out.mono ?_
                        rintro e w11 ⟨rfl, lbt', hX, hlb, hk⟩
                        obtain ⟨hb11, hls⟩ := (HL9.out.below HBX.out).text hX hlb hk
                        have HB11 : Hid (Below n w w11) := (HB9.out.trans (HBX.out.mono hn9)).trans hb11
                        have HL11 := run.hid (hls.more (T' := j + tot SL (i + 1)) (by have := HTI.out; have := HKE.out; omega))
                        clear hls hb11 hX hlb hk HIN HBX HL9 HB9 hsz
                        go_wp2
                        go_roundw
                        case rel => exact ⟨i + 1, by omega, by go_num, _, _, _, _, _, _, _, HL11, HB11⟩
                        case measure => simp [intOf]; omega
                  · obtain rfl : i = M := by omega
                    clear hil HSC HT
                    have HAT := run.hid (gs_at HL.out.tx ((i : Int) - 1))
                    have hTT := HTT.out
                    have hTb : j + tot SL i ≤ 17592186043904 := by
                      rcases hTT with h | h
                      · rw [h, HT0.out]; omega
                      · omega
                    obtain ⟨bx, sx, hat, hcase⟩ : ∃ bx sx, atX i ((i : Int) - 1) = (sx, bx) ∧ ((((0 : Int) < (i : Int) ∧ 0 < i) ∧ sx = (⟨#[120]⟩ : ByteArray) ∧ bx = true) ∨ ((¬ (0 : Int) < (i : Int) ∧ ¬ 0 < i) ∧ sx = (⟨#[]⟩ : ByteArray) ∧ bx = false)) := by
                      by_cases h0 : 0 < i
                      · exact ⟨true, ⟨#[120]⟩, if_pos (by omega), .inl ⟨⟨by omega, h0⟩, rfl, rfl⟩⟩
                      · exact ⟨false, ⟨#[]⟩, if_neg (by omega), .inr ⟨⟨by omega, h0⟩, rfl, rfl⟩⟩
                    rw [hat] at HAT
                    clear hat
                    go_wp2_with fail
                    refine HAT.out.mono ?_
                    rintro e w16 ⟨rfl, hs16⟩
                    have HL16 := run.hid (HL.out.kept (Kept.of_same (S := fun _ => False) hs16) (fun _ _ h => h))
                    have HB16 : Hid (Below n w w16) := HBr.out.trans ⟨hs16.os, hs16.tape, hs16.output, by rw [hs16.heap]; exact Nat.le_refl _, fun k hk => by rw [hs16.heap]⟩
                    clear HL HBr hs16 HAT
                    obtain ⟨A0, C0, rfl⟩ := run.own_value HL16.out.p0.ref.own
                    obtain ⟨A1, C1, rfl⟩ := run.own_value HL16.out.p1.ref.own
                    have hlen := HL16.out.len
                    have hq := HL16.out.sizes
                    have HA0 := run.hid (fun w' (hb : Below w16.heap.size w16 w') => all2_any (HL16.out.below hb).p0.gap _ (run.readsN_own (HL16.out.below hb).p0.ref.own) (by omega))
                    have HA1 := run.hid (fun w' (hb : Below w16.heap.size w16 w') => all2_any (HL16.out.below hb).p1.gap _ (run.readsN_own (HL16.out.below hb).p1.ref.own) (by omega))
                    have HLN := run.hid (fun w' (hb : Below w16.heap.size w16 w') => gs_len (HL16.out.below hb).tx)
                    obtain ⟨L0, hL0⟩ : ∃ L0, L0 = zs0.length := ⟨_, rfl⟩
                    obtain ⟨L1, hL1⟩ : ∃ L1, L1 = zs1.length := ⟨_, rfl⟩
                    rw [← hL0] at HA0
                    rw [← hL1] at HA1
                    have KS : Hid (∀ w', Below w16.heap.size w16 w' → w'.cell? ⟨q1, 0, none⟩ = some (.pointer (some ⟨g0, 0, none⟩)) ∧ w'.cell? ⟨q1, 1, none⟩ = some (.pointer (some ⟨g1, 0, none⟩)) ∧ w'.cell? ⟨q2, 0, none⟩ = some (.pointer (some ⟨R, 0, none⟩)) ∧ w'.cell? ⟨q2, 1, none⟩ = some (.pointer (some ⟨r1, 0, none⟩)) ∧ w'.cell? ⟨R, 0, none⟩ = some (.slice A0 L0 C0) ∧ w'.cell? ⟨r1, 0, none⟩ = some (.slice A1 L1 C1)) := fun w' hb => by
                      have h1 := HL16.out.below hb
                      exact ⟨h1.a0, h1.a1, h1.b0, h1.b1, by rw [hL0]; exact h1.p0.ref.box.cell (i := 0) (by omega), by rw [hL1]; exact h1.p1.ref.box.cell (i := 0) (by omega)⟩
                    have KB : Hid (∀ w' w'', Below w16.heap.size w16 w' → Same w' w'' → Below w16.heap.size w16 w'') := fun w' w'' hb hs => hb.trans ⟨hs.os, hs.tape, hs.output, by rw [hs.heap]; exact Nat.le_refl _, fun k hk => by rw [hs.heap]⟩
                    have hd16 : Below w16.heap.size w16 w16.drew := (Below.refl _ _).drew
                    have hn16 := HB16.out.size
                    rw [hn] at hn16
                    clear hlen hq hL0 hL1 HL16
                    rcases hcase with ⟨⟨h0, h0n⟩, rfl, rfl⟩ | ⟨⟨h0, h0n⟩, rfl, rfl⟩
                    · go_upto_region 31 with fail
                      go_region_held3 (fun w' => w'.cell? ⟨q1, 0, none⟩ = some (.pointer (some ⟨g0, 0, none⟩)) ∧ w'.cell? ⟨q1, 1, none⟩ = some (.pointer (some ⟨g1, 0, none⟩)) ∧ w'.cell? ⟨q2, 0, none⟩ = some (.pointer (some ⟨R, 0, none⟩)) ∧ w'.cell? ⟨q2, 1, none⟩ = some (.pointer (some ⟨r1, 0, none⟩)) ∧ w'.cell? ⟨R, 0, none⟩ = some (.slice A0 L0 C0) ∧ w'.cell? ⟨r1, 0, none⟩ = some (.slice A1 L1 C1))
                        (first
                          | assumption
                          | exact KS.out _ hd16
                          | exact KS.out _ (hd16.trans hb17)
                          | exact KS.out _ ((hd16.trans hb17).trans (hb18.mono (hd16.trans hb17).size))
                          | exact KS.out _ (KB.out _ _ ((hd16.trans hb17).trans (hb18.mono (hd16.trans hb17).size)) hs19)
                          | go_keep
                          | (trace_state; fail))
                        (first
                          | (go_at_call 12; have hbq := hd16.trans hb17; refine (HA1.out _ hbq).mono ?_; clear hbq; rintro e w18 ⟨rfl, hb18⟩)
                          | (go_at_call 12; refine (HA0.out _ hd16).mono ?_; rintro e w17 ⟨rfl, hb17⟩)
                          | (go_at_call 13; refine (HLN.out _ ((hd16.trans hb17).trans (hb18.mono (hd16.trans hb17).size))).mono ?_; rintro e w19 ⟨rfl, hs19⟩))
                      all_goals
                        have HF := run.hid (HB16.out.trans ((KB.out _ _ ((hd16.trans hb17).trans (hb18.mono (hd16.trans hb17).size)) hs19).mono hn16))
                        go_wp2
                        go_ret
                        exact ⟨rfl, HF.out⟩
                    · go_upto_region 31 with fail
                      go_region_held3 (fun w' => w'.cell? ⟨q1, 0, none⟩ = some (.pointer (some ⟨g0, 0, none⟩)) ∧ w'.cell? ⟨q1, 1, none⟩ = some (.pointer (some ⟨g1, 0, none⟩)) ∧ w'.cell? ⟨q2, 0, none⟩ = some (.pointer (some ⟨R, 0, none⟩)) ∧ w'.cell? ⟨q2, 1, none⟩ = some (.pointer (some ⟨r1, 0, none⟩)) ∧ w'.cell? ⟨R, 0, none⟩ = some (.slice A0 L0 C0) ∧ w'.cell? ⟨r1, 0, none⟩ = some (.slice A1 L1 C1))
                        (first
                          | assumption
                          | exact KS.out _ hd16
                          | exact KS.out _ (hd16.trans hb17)
                          | exact KS.out _ ((hd16.trans hb17).trans (hb18.mono (hd16.trans hb17).size))
                          | exact KS.out _ (KB.out _ _ ((hd16.trans hb17).trans (hb18.mono (hd16.trans hb17).size)) hs19)
                          | go_keep
                          | (trace_state; fail))
                        (first
                          | (go_at_call 12; have hbq := hd16.trans hb17; refine (HA1.out _ hbq).mono ?_; clear hbq; rintro e w18 ⟨rfl, hb18⟩)
                          | (go_at_call 12; refine (HA0.out _ hd16).mono ?_; rintro e w17 ⟨rfl, hb17⟩)
                          | (go_at_call 13; refine (HLN.out _ ((hd16.trans hb17).trans (hb18.mono (hd16.trans hb17).size))).mono ?_; rintro e w19 ⟨rfl, hs19⟩))
                      all_goals
                        have HF := run.hid (HB16.out.trans ((KB.out _ _ ((hd16.trans hb17).trans (hb18.mono (hd16.trans hb17).size)) hs19).mono hn16))
                        go_wp2
                        go_ret
                        exact ⟨rfl, HF.out⟩
end Go.Proofs.Ytgpgbbbcodnieaa.ed
