/-
  EditGap's helper move, where it inserts.
-/
import Derived.Test.YtgpgbbbcodnieaaEdMoveD
namespace Go.Proofs.Ytgpgbbbcodnieaa.ed
open Go Go.RowKit Go.Proofs
set_option linter.unusedVariables false
theorem own_emptyI {W : World} {B X : Nat} (h : W.heap[X]? = some (.cells #[] 3 (0, 0))) (hB : B ≤ X) : W.ownsRow B 3 1 (.slice (some ⟨X, 0, none⟩) 0 0) 0 [] :=
  ⟨rfl, .inr ⟨X, 0, #[], rfl, hB, h, Nat.le_refl _, by unfold maxLen; omega, rfl, rfl⟩⟩
theorem own_roomI {w : World} {B e sz n cap g : Nat} {xs : List Value} (h : w.ownsRow B e sz (.slice (some ⟨g, 0, none⟩) n cap) n xs) : n ≤ cap ∧ cap ≤ 9223372036854775807 := own_some0 h
theorem front_reads {w : World} {B g n cap m c : Nat} {xs ys : List Value} (h : w.ownsRow B 3 1 (.slice (some ⟨g, 0, none⟩) n cap) n (xs ++ ys)) (hl : xs.length = m) (hm : m ≤ n) : run.ReadsN 1 w (.slice (some ⟨g, 0, none⟩) m c) m xs := by
  refine ⟨by omega, _, c, rfl, fun _ => ⟨g, 0, rfl, (h.lt g rfl).2, fun i u hi => ?_⟩, fun h => by cases h⟩
  have hi2 : i < xs.length := (List.getElem?_eq_some_iff.1 hi).1
  rw [h.cellAt (0 + i) (by omega), Nat.zero_add, List.getElem?_append_left hi2, hi]
theorem front_src {w : World} {B g n cap m c : Nat} {xs ys : List Value} (h : w.ownsRow B 3 1 (.slice (some ⟨g, 0, none⟩) n cap) n (xs ++ ys)) (h1 : ∀ u ∈ xs, u.oneCell' = true) (hl : xs.length = m) (hm : m ≤ n) : Src 1 w (some ⟨g, 0, none⟩) m c xs := by
  refine ⟨by omega, h1, .inr ⟨g, 0, rfl, (h.lt g rfl).2, fun i u hi => ?_⟩⟩
  have hi2 : i < xs.length := (List.getElem?_eq_some_iff.1 hi).1
  rw [h.cellAt (0 + i) (by omega), Nat.zero_add, List.getElem?_append_left hi2, hi]
set_option maxRecDepth 100000 in
set_option maxHeartbeats 8000000 in
theorem move_ins (n g lb r : Nat) (v : Value) (zs ys : List Int) (k i m : Int) (a : Option Addr) (c : Nat) (w : World) (h : PG n g lb r v zs w) (hz : zs.length ≤ 536870912) (hy : ys.length ≤ 536870912)
    (hR : ∀ w', Below n w w' → run.ReadsN 1 w' (.slice a ys.length c) ys.length (iv ys)) :
    Calls Try.prog 9 #[.pointer (some ⟨g, 0, none⟩), .pointer (some ⟨r, 0, none⟩), moveV 0 k i m (.slice a ys.length c)] w fun e w' => e = .returned (.bool true) ∧ Moved n g lb r v zs ys.length w w' := by
  obtain ⟨it, hi0, hz0, hz1, hz2⟩ := info_parts info_i64
  obtain ⟨N, hN⟩ : ∃ N, N = ys.length := ⟨_, rfl⟩
  have HLEN := run.hid (insT2_len zs i ys)
  have HP0 := run.hid h
  have HLT := run.hid h.lt
  have HLOW := run.hid h.low
  have HN1 := run.hid (And.intro h.n1 (And.intro h.n2 h.n3))
  have HRR := run.hid hR
  obtain ⟨zs', hzs⟩ : ∃ zs', zs' = (insT2 zs i ys).2 := ⟨_, rfl⟩
  obtain ⟨bb, hbb⟩ : ∃ bb, bb = (insT2 zs i ys).1 := ⟨_, rfl⟩
  have HI := run.hid (fun X lb0 v0 (hX : PG n g lb0 r v0 zs X) a c hs hfar => pg_insert hX i a c ys hs (by omega) (by omega) hfar)
  have HIR := run.hid (fun X (hX : RefL r v zs X) hr => pr_insert hX i a c ys hr (by omega) (by omega))
  rw [← hzs, ← hbb] at HI HIR
  rw [← hzs] at HLEN
  rw [← hN] at HLEN HRR HI HIR hy ⊢
  have hb := run.below_one w (.cells #[.int .i64 0, .int .i64 k, .int .i64 i, .int .i64 m, .slice a N c] 37)
  have hsz : (w.alloc (.cells #[.int .i64 0, .int .i64 k, .int .i64 i, .int .i64 m, .slice a N c] 37)).heap.size = w.heap.size + 1 := by simp
  have s0 : (w.alloc (.cells #[.int .i64 0, .int .i64 k, .int .i64 i, .int .i64 m, .slice a N c] 37)).cell? ⟨w.heap.size, 0, none⟩ = some (.int .i64 0) := World.cell?_alloc_at _ _ _ _ rfl
  have s2 : (w.alloc (.cells #[.int .i64 0, .int .i64 k, .int .i64 i, .int .i64 m, .slice a N c] 37)).cell? ⟨w.heap.size, 2, none⟩ = some (.int .i64 i) := World.cell?_alloc_at _ _ _ _ rfl
  have s4 : (w.alloc (.cells #[.int .i64 0, .int .i64 k, .int .i64 i, .int .i64 m, .slice a N c] 37)).cell? ⟨w.heap.size, 4, none⟩ = some (.slice a N c) := World.cell?_alloc_at _ _ _ _ rfl
  have HP1 := run.hid (h.below hb)
  have HB := run.hid hb
  have HN := run.hid hN
  have HZ := run.hid hz
  have hle := h.le
  clear h hb hzs hbb hz hN hR
  generalize hB : w.heap.size = B at *
  have HBE := run.hid hB
  go_enter Try.func9, Try.ntmps9
  go_upto_region 1 with fail
  generalize w.alloc (.cells #[.int .i64 0, .int .i64 k, .int .i64 i, .int .i64 m, .slice a N c] 37) = w1 at *
  have S2 := run.hid s2
  have S4 := run.hid s4
  have HSZ := run.hid hsz
  have hgB := HLT.out g (.inl rfl)
  have hlB := HLT.out lb (.inr (.inl rfl))
  have hrB := HLT.out r (.inr (.inr (.inl rfl)))
  have hB1 : B < w1.heap.size := by omega
  have HRA := run.hid (HRR.out (w1.alloc (.cells #[] 3)) ((HB.out.mono hle).alloc (by omega) _))
  generalize hs1z : w1.heap.size = B1 at *
  clear s2 hsz
  go_wp2_with (at_builtin; refine run.wpList_append_any _ rfl _ _ 22 rfl B1 3 it (.int .i64 0) 1 8 Try.underlying22 hi0 hz0 hz1 hz2 rfl (by decide) _ _ _ rfl (own_emptyI (by rw [← hs1z]; exact run.heap_new w1 (.cells #[] 3)) (Nat.le_refl _)) _ N (iv ys) rfl HRA.out (iv_one _) (by unfold maxLen; omega) (by omega) (by simp; omega) ?_)
  intro v3 w3 hown3 hgrow hold hstep
  have HL : Hid (w3.ownsRow B1 3 1 v3 (N + 0) (iv ys ++ List.replicate 0 (.int .i64 (-77)))) := by
    show World.ownsRow _ _ _ _ _ _ _
    rw [List.replicate_zero, List.append_nil, Nat.add_zero]
    simpa using hown3
  have HB3 : Hid (Below B1 w1 w3) := by
    have h1 := (Below.refl B1 w1).alloc (Nat.le_of_eq hs1z.symm) (.cells #[] 3)
    exact run.below_append h1 (own_emptyI (by rw [← hs1z]; exact run.heap_new w1 (.cells #[] 3)) (Nat.le_refl _)) hgrow (by simp; omega)
  clear hown3 hgrow hold hstep s4
  have hs3 := HB3.out.size
  go_wp2
  go_loopw [8, 7] (fun kv v wr => ∃ q : Nat, q ≤ 9 ∧ kv = .int .i64 q ∧ Hid (wr.ownsRow B1 3 1 v (N + q) (iv ys ++ List.replicate q (.int .i64 (-77)))) ∧ Hid (Below B1 w1 wr)) (fun v _ _ => 9 - (intOf v).toNat)
  case atStart => exact ⟨0, Nat.zero_le _, rfl, HL, HB3⟩
  case round =>
    obtain ⟨q, hq, rfl, HO, HBk⟩ := hrel
    have hsr := HBk.out.size
    by_cases hlt : q < 9
    · have hrp := run.hid (show iv ys ++ List.replicate (q + 1) (Value.int .i64 (-77)) = (iv ys ++ List.replicate q (.int .i64 (-77))) ++ [.int .i64 (-77)] by rw [List.replicate_succ', List.append_assoc])
      go_wp2_with (at_builtin; refine run.wpList_append_any _ rfl _ _ 22 rfl B1 3 it (.int .i64 0) 1 8 Try.underlying22 hi0 hz0 hz1 hz2 rfl (by decide) _ _ _ rfl (HO.out.alloc _) _ 1 [.int .i64 (-77)] rfl (run.readsN_new wr [.int .i64 (-77)] 1 1 _ rfl) (by intro u hu; simp only [List.mem_singleton] at hu; subst hu; rfl) (by unfold maxLen; omega) (by omega) (by simp; omega) ?_)
      intro v8 w8 hown8 hgrow hold hstep
      have HO8 : Hid (w8.ownsRow B1 3 1 v8 (N + (q + 1)) (iv ys ++ List.replicate (q + 1) (.int .i64 (-77)))) := by
        show World.ownsRow _ _ _ _ _ _ _
        rw [hrp.out]
        simpa [Nat.add_assoc] using hown8
      have HB8 := run.hid (run.below_append (HBk.out.alloc (by omega) _) (HO.out.alloc (.cells #[.int .i64 (-77)] 3)) hgrow (by simp; omega))
      clear hown8 hgrow hold hstep HO HBk
      go_wp2
      go_roundw
      case rel => exact ⟨q + 1, by omega, by go_num, HO8, HB8⟩
      case measure => simp [intOf]; omega
    · obtain rfl : q = 9 := by omega
      obtain ⟨gL, cL, rfl⟩ := own_someE HO.out (by omega)
      have HROOM := own_roomI HO.out
      rw [show ((9 : Nat) : Int) = 9 from rfl]
      have HB14 := run.hid HBk.out
      have HP4 := run.hid (HP1.out.below (by rw [hs1z]; exact HBk.out))
      have hgL := (HO.out.lt gL rfl).1
      have s2 := (HBk.out.cell (p := ⟨B, 2, none⟩) hB1).trans S2.out
      have s4 := (HBk.out.cell (p := ⟨B, 4, none⟩) hB1).trans S4.out
      generalize wr = w4 at *
      have hd4 : Below w4.heap.size w4 w4.drew := (Below.refl _ _).drew
      have HI4 := run.hid (HI.out w4.drew lb v (HP4.out.below hd4) (some ⟨gL, 0, none⟩) cL (front_src (show w4.drew.ownsRow B1 3 1 (.slice (some ⟨gL, 0, none⟩) (N + 9) cL) (N + 9) (iv ys ++ List.replicate 9 (.int .i64 (-77))) from HO.out) (iv_one _) (by rw [iv_length]; exact HN.out.symm) (by omega)) (fun b off e => by cases e; omega))
      have HKC := run.hid (fun w' (hk : Kept (fun b => b = g ∨ b = lb) w4.drew w') => show w'.cell? ⟨B, 2, none⟩ = some (.int .i64 i) ∧ w'.cell? ⟨B, 4, none⟩ = some (.slice a N c) from ⟨hk.cellK s2 (fun e => by rcases e with e | e <;> simp at e <;> omega), hk.cellK s4 (fun e => by rcases e with e | e <;> simp at e <;> omega)⟩)
      obtain ⟨hR1, hR2⟩ := HROOM
      have c1 : (0 : Int) ≤ (N : Int) := by omega
      have c2 : (N : Int) ≤ (cL : Int) := by omega
      clear HL HB3 HBk HRA HI
      go_wp2_with fail
      go_upto_region 8 with fail
      go_region_held3 (fun w' => w'.cell? ⟨B, 2, none⟩ = some (.int .i64 i) ∧ w'.cell? ⟨B, 4, none⟩ = some (.slice a N c))
        (first
          | assumption
          | exact HKC.out _ (Kept.refl _ _)
          | exact HKC.out _ hk5
          | go_keep
          | (trace_state; fail))
        (first
          | (go_at_call 26; refine HI4.out.mono ?_; rintro e w5 ⟨rfl, lb', hG5, hR5, hlb, hk5⟩))
      have hs5 := hk5.size
      have hdz : w4.drew.heap.size = w4.heap.size := rfl
      rw [hdz] at hlb hs5
      have HO5 := run.hid (own_keptK (show w4.drew.ownsRow B1 3 1 (.slice (some ⟨gL, 0, none⟩) (N + 9) cL) (N + 9) (iv ys ++ List.replicate 9 (.int .i64 (-77))) from HO.out) hk5 (fun q hq e => by simp only [Value.ownBlock, Option.some.injEq] at hq; rcases e with e | e <;> omega))
      have hgL4 := (HO.out.lt gL rfl).2
      have HW5 : Hid (Below n w w5) := (((HB.out.mono hle).trans (HB14.out.mono (by omega))).trans (hd4.mono (by omega))).trans (hk5.below (by rw [hdz]; omega) (fun q _ hq => by rcases hq with rfl | rfl; exact HLOW.out _ (.inl rfl); exact HLOW.out _ (.inr (.inl rfl))))
      have HK5 := run.hid hk5
      have HG5 := run.hid hG5
      have HLB := run.hid hlb
      obtain ⟨d2, d4⟩ := HKC.out _ hk5
      have D4 := run.hid d4
      have hlb5 := hG5.lt.2.1
      clear HI4 HKC hG5 hk5 s2 s4
      go_wp2_with fail
      refine (HIR.out w5 hR5 (HRR.out w5 HW5.out)).mono ?_
      rintro e w6 ⟨rfl, v', hR6, hv', hk6⟩
      have hs6 := hk6.size
      have HV := run.hid hv'
      have HK6 := run.hid hk6
      have hlbr : lb' ≠ r := by
        rcases HLB.out with e | e
        · rw [e]; exact fun e2 => HN1.out.2.1 e2.symm
        · omega
      have HG6 := run.hid (HG5.out.kept hk6 (fun e => HN1.out.1 e.symm) hlbr)
      have HR6 := run.hid hR6
      have HO6 := run.hid (own_keptK HO5.out hk6 (fun q hq e => by simp only [Value.ownBlock, Option.some.injEq] at hq; omega))
      have HW6 : Hid (Below n w w6) := HW5.out.trans (hk6.below (by omega) (fun q _ hq => by subst hq; exact HLOW.out _ (.inr (.inr (.inl rfl)))))
      have d4 := hk6.cellK D4.out (fun e => by simp at e; omega)
      clear hv' hk6 hR6 hR5 HO5 HG5 d2
      have hd6 : Below w6.heap.size w6 w6.drew := (Below.refl _ _).drew
      have HSM := run.hid (ints_same ys (.slice (some ⟨gL, 0, none⟩) N cL) (.slice a N c) w6.drew (by rw [← HN.out]; exact front_reads (show w6.drew.ownsRow B1 3 1 (.slice (some ⟨gL, 0, none⟩) (N + 9) cL) (N + 9) (iv ys ++ List.replicate 9 (.int .i64 (-77))) from HO6.out) (by rw [iv_length]; exact HN.out.symm) (by omega)) (by rw [← HN.out]; exact HRR.out _ (HW6.out.trans (hd6.mono (by have := HW6.out.size; omega)))) (by rw [← HN.out]; omega))
      have HKD := run.hid (fun w' (hb : Below w6.drew.heap.size w6.drew w') => show w'.cell? ⟨B, 4, none⟩ = some (.slice a N c) from (hb.cell (p := ⟨B, 4, none⟩) (run.lt_of_cell d4)).trans d4)
      go_wp2_with fail
      go_upto_region 10 with fail
      go_region_held3 (fun w' => w'.cell? ⟨B, 4, none⟩ = some (.slice a N c))
        (first
          | assumption
          | exact HKD.out _ (Below.refl _ _)
          | exact HKD.out _ hb7
          | go_keep
          | (trace_state; fail))
        (first
          | (go_at_call 29; refine HSM.out.mono ?_; rintro e w7 ⟨rfl, hb7⟩))
      have HB7 : Hid (Below w6.heap.size w6 w7) := hd6.trans hb7
      have hs7 := HB7.out.size
      have D7 := run.hid (HKD.out _ hb7)
      have HO7 := run.hid (run.own_below HO6.out HB7.out)
      have HG7 := run.hid (HG6.out.kept (Kept.of_below (S := fun _ => False) HB7.out) (fun h => h) (fun h => h))
      have HR7 := run.hid (HR6.out.below HB7.out)
      obtain ⟨HX, hHX⟩ : ∃ HX, HX = iv ys ++ List.replicate 9 (Value.int .i64 (-77)) := ⟨_, rfl⟩
      have HXL : Hid (HX.length = N + 9) := by show _ = _; rw [hHX, List.length_append, iv_length, List.length_replicate, ← HN.out]
      have HXA : Hid (∀ q, N ≤ q → q < N + 9 → HX[q]? = some (.int .i64 (-77))) := fun q h1 h2 => by
        rw [hHX, List.getElem?_append_right (by rw [iv_length, ← HN.out]; exact h1), List.getElem?_replicate, if_pos (by rw [iv_length, ← HN.out]; omega)]
      rw [← hHX] at HO7
      have HO7z : Hid (w7.ownsRow B1 3 1 (.slice (some ⟨gL, 0, none⟩) (N + 9) cL) (N + 9) (over (.int .i64 (-6)) HX 0)) := HO7.out
      clear hb7 hd6 HSM HKD HO6 HG6 HR6 hHX HO7 d4 HO
      go_wp2
      go_loopw [12, 11] (fun kv tv wr => ∃ j : Nat, j ≤ N + 9 ∧ kv = .int .i64 j ∧ tv = .bool true ∧ Hid (wr.ownsRow B1 3 1 (.slice (some ⟨gL, 0, none⟩) (N + 9) cL) (N + 9) (over (.int .i64 (-6)) HX j)) ∧ Hid (Kept (fun b => b = gL) w7 wr)) (fun kv _ _ => (N + 9 - intOf kv).toNat)
      case atStart => exact ⟨0, by omega, rfl, rfl, HO7z, Kept.refl _ _⟩
      case round =>
        clear HO7z
        obtain ⟨j, hj, rfl, rfl, H4, HKr⟩ := hrel
        by_cases hil : j < N + 9
        · obtain ⟨ho, hg⟩ := H4.out.stored j (.int .i64 (-6))
          have hx := over_next (z := .int .i64 (-6)) (xs := HX) (i := j) (by rw [HXL.out]; exact hil)
          rw [hx] at ho
          obtain ⟨u0, hcl⟩ := cell_own H4.out (by rw [over_length _ _ _ (by rw [HXL.out]; omega), HXL.out]) hil
          have hfz := H4.out.frozenAt j
          have d4 := HKr.out.cellK D7.out (fun e => by simp at e; omega)
          have HO := run.hid ho
          have HKn := run.hid (HKr.out.stored (g := gL) (.inl rfl) j (.int .i64 (-6)))
          by_cases hjn : j < N
          · have hni : ¬ N ≤ j := by omega
            clear ho hg hx H4 HKr
            go_wp2
            clear hcl hfz d4
            go_roundw
            case rel => exact ⟨j + 1, by omega, by go_num, rfl, HO, HKn⟩
            case measure => simp [intOf]; omega
          · have h7 : u0 = .int .i64 (-77) := by
              have h1 := H4.out.cellAt j (by omega)
              rw [hcl] at h1
              have h2 : (over (.int .i64 (-6)) HX j)[j]? = HX[j]? := by
                unfold over
                rw [List.getElem?_append_right (by simp), List.length_replicate, Nat.sub_self, List.getElem?_drop, Nat.add_zero]
              rw [h2, HXA.out j (by omega) hil] at h1
              exact Option.some.inj h1
            subst h7
            clear ho hg hx H4 HKr
            go_wp2
            clear hcl hfz d4
            go_roundw
            case rel => exact ⟨j + 1, by omega, by go_num, rfl, HO, HKn⟩
            case measure => simp [intOf]; omega
        · obtain rfl : j = N + 9 := by omega
          have hkr := HKr.out
          have hnr := HLOW.out g (.inl rfl)
          have hb1 := HBE.out
          have hlb1 := HLB.out
          have hv1 : ∀ q, v'.ownBlock = some q → q < B ∧ v.ownBlock = some q ∨ w5.heap.size ≤ q := fun q hq => by
            rcases HV.out q hq with h1 | h1
            · exact .inl ⟨HLT.out q (.inr (.inr (.inr h1))), h1⟩
            · exact .inr h1
          have hsub : ∀ q, OwnP g lb' r v' q → OwnP g lb r v q ∨ B ≤ q := by
            intro q hq
            rcases hq with rfl | rfl | rfl | hq
            · exact .inl (.inl rfl)
            · rcases hlb1 with e | e
              · exact .inl (.inr (.inl e))
              · right; omega
            · exact .inl (.inr (.inr (.inl rfl)))
            · rcases hv1 q hq with h1 | h1
              · exact .inl (.inr (.inr (.inr h1.2)))
              · right; omega
          have hpg : PG n g lb' r v' zs' wr := by
            refine ⟨HG7.out.kept hkr (by omega) (by rcases hlb1 with e | e <;> omega), HR7.out.kept hkr (by omega) (fun q hq e => by
              rcases hv1 q hq with h2 | h2 <;> omega), HN1.out.1, fun e => hlbr e.symm, ?_, ?_⟩
            · intro q hq
              rcases hv1 q hq with h1 | h1
              · obtain ⟨h3, h4⟩ := HN1.out.2.2 q h1.2
                refine ⟨h3, ?_⟩
                rcases hlb1 with e | e
                · rw [e]; exact h4
                · omega
              · omega
            · intro q hq
              rcases hsub q hq with h1 | h1
              · exact HLOW.out q h1
              · omega
          have k1 : Kept (OwnP g lb r v) w w1 := Kept.of_below (by rw [HBE.out]; exact HB.out)
          have k2 := k1.trans (Kept.of_below (S := fun _ => False) (by rw [hs1z]; exact HB14.out)) (fun q _ hq => hq.elim)
          have k3 := (k2.trans (Kept.of_below (S := fun _ => False) hd4) (fun q _ hq => hq.elim)).trans HK5.out (fun q _ hq => by rcases hq with rfl | rfl; exact .inl rfl; exact .inr (.inl rfl))
          have k4 := k3.trans HK6.out (fun q _ hq => by subst hq; exact .inr (.inr (.inl rfl)))
          have k5 := k4.trans (Kept.of_below (S := fun _ => False) HB7.out) (fun q _ hq => hq.elim)
          have k6 := k5.trans hkr (fun q hq1 hq => by omega)
          have HF : Hid (Moved n g lb r v zs N w wr) := ⟨lb', v', zs', hpg, fun q hq => by rw [HBE.out]; exact hsub q hq, HLEN.out, k6⟩
          clear hkr k1 k2 k3 k4 k5 k6 hpg hsub hv1 hil
          cases bb with
          | true =>
            go_wp2
            go_ret
            exact ⟨rfl, HF.out⟩
          | false =>
            go_wp2
            go_ret
            exact ⟨rfl, HF.out⟩
end Go.Proofs.Ytgpgbbbcodnieaa.ed
