/-
  EditGap's helper move, where it deletes.
-/
import Derived.Test.YtgpgbbbcodnieaaEdMove
namespace Go.Proofs.Ytgpgbbbcodnieaa.ed
open Go Go.RowKit Go.Proofs
set_option linter.unusedVariables false
theorem Kept.stored {S : Nat → Prop} {w w' : World} {g : Nat} (h : Kept S w w') (hg : S g ∨ w.heap.size ≤ g) (j : Nat) (u : Value) : Kept S w (w'.setCell ⟨g, j, none⟩ u) := by
  refine ⟨h.os, h.tape, h.output, by rw [show (w'.setCell ⟨g, j, none⟩ u).heap.size = w'.heap.size by simp [World.setCell]]; exact h.size, fun k hk hn => ?_⟩
  refine (Below.heap_setCell _ _ _ _ ?_).trans (h.block k hk hn)
  rintro rfl
  rcases hg with h1 | h1
  · exact hn h1
  · exact absurd hk (Nat.not_lt_of_le h1)
theorem Kept.grown {S : Nat → Prop} {w w' w'' : World} {o : Option Nat} (h : Kept S w w') (hg : w'.grownBy w'' o) (ho : ∀ k, o = some k → S k ∨ w.heap.size ≤ k) : Kept S w w'' :=
  ⟨hg.os.trans h.os, hg.tape.trans h.tape, hg.output.trans h.output, Nat.le_trans h.size hg.size, fun k hk hn => (hg.block k (Nat.lt_of_lt_of_le hk h.size) (by
    intro e
    rcases ho k e.symm with h1 | h1
    · exact hn h1
    · exact absurd hk (Nat.not_lt_of_le h1))).trans (h.block k hk hn)⟩
theorem cell_own {w : World} {B g n cap j : Nat} {xs : List Value} (h : w.ownsRow B 3 1 (.slice (some ⟨g, 0, none⟩) n cap) n xs) (hl : xs.length = n) (hj : j < n) : ∃ u, w.cell? ⟨g, j, none⟩ = some u := by
  rw [h.cellAt j (by omega)]
  exact ⟨_, List.getElem?_eq_getElem (by omega)⟩
set_option maxRecDepth 100000 in
set_option maxHeartbeats 8000000 in
theorem move_del (n g lb r : Nat) (v : Value) (zs : List Int) (k i m : Int) (p : Value) (w : World) (h : PG n g lb r v zs w) (hz : zs.length ≤ 536870912) :
    Calls Try.prog 9 #[.pointer (some ⟨g, 0, none⟩), .pointer (some ⟨r, 0, none⟩), moveV 1 k i m p] w fun e w' => e = .returned (.bool true) ∧ Moved n g lb r v zs 0 w w' := by
  obtain ⟨it, hi0, hz0, hz1, hz2⟩ := info_parts info_i64
  have hb := run.below_one w (.cells #[.int .i64 1, .int .i64 k, .int .i64 i, .int .i64 m, p] 37)
  have hsz : (w.alloc (.cells #[.int .i64 1, .int .i64 k, .int .i64 i, .int .i64 m, p] 37)).heap.size = w.heap.size + 1 := by simp
  have s0 : (w.alloc (.cells #[.int .i64 1, .int .i64 k, .int .i64 i, .int .i64 m, p] 37)).cell? ⟨w.heap.size, 0, none⟩ = some (.int .i64 1) := World.cell?_alloc_at _ _ _ _ rfl
  have s2 : (w.alloc (.cells #[.int .i64 1, .int .i64 k, .int .i64 i, .int .i64 m, p] 37)).cell? ⟨w.heap.size, 2, none⟩ = some (.int .i64 i) := World.cell?_alloc_at _ _ _ _ rfl
  have s3 : (w.alloc (.cells #[.int .i64 1, .int .i64 k, .int .i64 i, .int .i64 m, p] 37)).cell? ⟨w.heap.size, 3, none⟩ = some (.int .i64 m) := World.cell?_alloc_at _ _ _ _ rfl
  have HP1 := run.hid (h.below hb)
  have HLT := run.hid h.lt
  have HLOW := run.hid h.low
  have HN1 := run.hid (And.intro h.n1 (And.intro h.n2 h.n3))
  have HLEN := run.hid (delT2_len zs i m)
  have HB := run.hid hb
  have HZ := run.hid hz
  obtain ⟨ds, hds⟩ : ∃ ds, ds = (delT2 zs i m).1 := ⟨_, rfl⟩
  obtain ⟨zs', hzs⟩ : ∃ zs', zs' = (delT2 zs i m).2 := ⟨_, rfl⟩
  have HD := run.hid (pg_delete HP1.out i m (by omega))
  have HDR := run.hid (fun X (hX : RefL r v zs X) => pr_delete hX i m (by omega))
  rw [← hds, ← hzs] at HD HDR HLEN
  clear h hb hds hzs hz
  obtain ⟨hl1, hl2⟩ := HLEN.out
  generalize hK : ds.length = K at *
  generalize hB : w.heap.size = B at *
  have hKb : K ≤ 536870912 := by have := HZ.out; omega
  have HK := run.hid hK
  have HBE := run.hid hB
  go_enter Try.func9, Try.ntmps9
  go_upto_region 1 with fail
  generalize w.alloc (.cells #[.int .i64 1, .int .i64 k, .int .i64 i, .int .i64 m, p] 37) = w1 at *
  have S2 := run.hid s2
  have S3 := run.hid s3
  have hgB := HLT.out g (.inl rfl)
  have hlB := HLT.out lb (.inr (.inl rfl))
  have hrB := HLT.out r (.inr (.inr (.inl rfl)))
  go_wp2_with fail
  refine HD.out.mono ?_
  rintro e w2 ⟨u1, lb', rfl, hown1, hG2, hR2, hlb, hne, hk2⟩
  have hs2 := hk2.size
  have c2 := hk2.cellK S2.out (fun e => by rcases e with e | e <;> simp at e <;> omega)
  have c3 := hk2.cellK S3.out (fun e => by rcases e with e | e <;> simp at e <;> omega)
  have HO1 := run.hid hown1
  have HG2 := run.hid hG2
  have HR2 := run.hid hR2
  have HK2 := run.hid hk2
  have HLB := run.hid hlb
  have HNE := run.hid hne
  clear hown1 hG2 hR2 hk2 s2 s3 hne
  go_wp2_with fail
  refine (HDR.out _ HR2.out).mono ?_
  rintro e w3 ⟨u2, v', rfl, hown2, hR3, hv', hne2, hk3⟩
  have hs3 := hk3.size
  have HK3 := run.hid hk3
  have HR3 := run.hid hR3
  have HO2 := run.hid hown2
  have HV := run.hid hv'
  have HNE2 := run.hid hne2
  have HO13 := run.hid (own_keptK HO1.out hk3 (fun j hj e => by have := (HO1.out.lt j hj).1; subst e; omega))
  have HG3 := run.hid (HG2.out.kept hk3 (fun e => HN1.out.1 e.symm) (fun e => by
    rcases HLB.out with e2 | e2
    · exact HN1.out.2.1 (by rw [← e, e2])
    · omega))
  clear hown2 hR3 hv' hne2 hk3 c2 c3 HD HDR
  go_wp2_with fail
  refine (ints_same ds u1 u2 w3 (by rw [HK.out]; exact run.readsN_own HO13.out) (by rw [HK.out]; exact run.readsN_own HO2.out) (by rw [HK.out]; omega)).mono ?_
  rintro e w4 ⟨rfl, hb4⟩
  have hs4 := hb4.size
  have HB4 := run.hid hb4
  have H1 := run.hid (run.own_below HO13.out hb4)
  have H2 := run.hid (run.own_below HO2.out hb4)
  have HG4 := run.hid (HG3.out.kept (Kept.of_below (S := fun _ => False) hb4) (fun h => h) (fun h => h))
  have HR4 := run.hid (HR3.out.below hb4)
  obtain ⟨a1, c1, rfl⟩ := run.own_value H1.out
  obtain ⟨a2, c2, rfl⟩ := run.own_value H2.out
  have HU1 := run.hid (fun b (hb : (Value.slice a1 K c1).ownBlock = some b) => HO1.out.lt b hb)
  have HL2 := run.hid HG2.out.lt.2.1
  have HIL := run.hid (show (iv ds).length = K by rw [iv_length]; exact HK.out)
  have H1z : Hid (w4.ownsRow w1.heap.size 3 1 (.slice a1 K c1) K (over (.int .i64 (-8)) (iv ds) 0)) := H1.out
  have HSZ := run.hid hsz
  clear hb4 HO13 HO2 HG3 HR3 HO1 HR2 HG2 hsz
  go_wp2
  go_loopw [16] (fun vi wr => ∃ j : Nat, j ≤ K ∧ vi = .int .i64 j ∧ Hid (wr.ownsRow w1.heap.size 3 1 (.slice a1 K c1) K (over (.int .i64 (-8)) (iv ds) j)) ∧ Hid (Kept (fun b => (Value.slice a1 K c1).ownBlock = some b) w4 wr)) (fun vi _ => (K - intOf vi).toNat)
  case atStart => exact ⟨0, by omega, rfl, H1z, Kept.refl _ _⟩
  case round =>
    obtain ⟨j, hj, rfl, H4, HKr⟩ := hrel
    by_cases hil : j < K
    · obtain ⟨g4, c4', e4⟩ := own_someE H4.out (by omega)
      simp only [Value.slice.injEq, true_and] at e4
      obtain ⟨rfl, rfl⟩ := e4
      obtain ⟨ho, hg⟩ := H4.out.stored j (.int .i64 (-8))
      have hx := over_next (z := .int .i64 (-8)) (xs := iv ds) (i := j) (by rw [HIL.out]; exact hil)
      rw [hx] at ho
      obtain ⟨u0, hcl⟩ := cell_own H4.out (by rw [over_length _ _ _ (by rw [HIL.out]; omega), HIL.out]) hil
      have hfz := H4.out.frozenAt j
      have HO := run.hid ho
      have HKn := run.hid (HKr.out.stored (g := g4) (.inl rfl) j (.int .i64 (-8)))
      clear ho hg hx H4 HKr
      go_wp2
      clear hcl hfz
      go_roundw
      case rel => exact ⟨j + 1, by omega, by go_num, HO, HKn⟩
      case measure => simp [intOf]; omega
    · obtain rfl : j = K := by omega
      generalize wr = wz at *
      generalize hhx : over (.int .i64 (-8)) (iv ds) j = HX at *
      have H4z : Hid (wz.ownsRow w1.heap.size 3 1 (.slice a1 j c1) (j + 0) (HX ++ List.replicate 0 (.int .i64 (-9)))) := by show World.ownsRow _ _ _ _ _ _ _; rw [List.replicate_zero, List.append_nil]; exact H4.out
      clear H4 hil hhx
      go_wp2
      go_loopw [17, 13] (fun vi va wr => ∃ q : Nat, q ≤ 40 ∧ vi = .int .i64 q ∧ Hid (wr.ownsRow w1.heap.size 3 1 va (j + q) (HX ++ List.replicate q (.int .i64 (-9)))) ∧ Hid (Kept (fun b => (Value.slice a1 j c1).ownBlock = some b) w4 wr) ∧ Hid (∀ b, va.ownBlock = some b → (Value.slice a1 j c1).ownBlock = some b ∨ w4.heap.size ≤ b)) (fun vi _ _ => (40 - intOf vi).toNat)
      case atStart => exact ⟨0, by omega, rfl, H4z, HKr, fun b hb => .inl hb⟩
      case round =>
        clear H4z HKr
        obtain ⟨q, hq, rfl, H4, HKr, HAv⟩ := hrel
        by_cases hkl : q < 40
        · have hrp := run.hid (show HX ++ List.replicate (q + 1) (Value.int .i64 (-9)) = (HX ++ List.replicate q (.int .i64 (-9))) ++ [.int .i64 (-9)] by rw [List.replicate_succ', List.append_assoc])
          have hww : w1.heap.size ≤ wr.heap.size := by have := HKr.out.size; omega
          go_wp2_with (at_builtin; refine run.wpList_append_any _ rfl _ _ 22 rfl w1.heap.size 3 it (.int .i64 0) 1 8 Try.underlying22 hi0 hz0 hz1 hz2 rfl (by decide) _ _ _ rfl (H4.out.alloc _) _ 1 [.int .i64 (-9)] rfl (run.readsN_new wr [.int .i64 (-9)] 1 1 _ rfl) (by intro u hu; simp only [List.mem_singleton] at hu; subst hu; rfl) (by unfold maxLen; omega) (by omega) (by simp; omega) ?_)
          intro v7 w7 hown7 hgrow7 _ hst7
          have HKn := run.hid ((HKr.out.alloc (.cells #[.int .i64 (-9)] 3)).grown hgrow7 (fun b hb => HAv.out b hb))
          have HAn : Hid (∀ b, v7.ownBlock = some b → (Value.slice a1 j c1).ownBlock = some b ∨ w4.heap.size ≤ b) := by
            intro b hb
            rcases hst7 with ⟨gg, cc, e1, e2⟩ | hs
            · exact HAv.out b (by rw [e1]; rw [e2] at hb; exact hb)
            · have h1 := hs b hb
              have := HKr.out.size
              simp at h1
              right; omega
          have HO : Hid (w7.ownsRow w1.heap.size 3 1 v7 (j + (q + 1)) (HX ++ List.replicate (q + 1) (.int .i64 (-9)))) := by show World.ownsRow _ _ _ _ _ _ _; rw [hrp.out]; simpa [Nat.add_assoc] using hown7
          clear hown7 hgrow7 hst7 H4 HKr HAv
          go_wp2
          go_roundw
          case rel => exact ⟨q + 1, by omega, by go_num, HO, HKn, HAn⟩
          case measure => simp [intOf]; omega
        · obtain rfl : q = 40 := by omega
          rw [show ((40 : Nat) : Int) = 40 from rfl]
          obtain ⟨ga, ca, rfl⟩ := own_someE H4.out (by omega)
          go_wp2
          go_ret
          have hu := HU1.out
          have hl2 := HL2.out
          have hnr := HLOW.out g (.inl rfl)
          have hb1 := HBE.out
          have hsz := HSZ.out
          have hv1 : ∀ q, v'.ownBlock = some q → q < B ∧ v.ownBlock = some q ∨ w2.heap.size ≤ q := fun q hq => by
            rcases HV.out q hq with h1 | h1
            · exact .inl ⟨HLT.out q (.inr (.inr (.inr h1))), h1⟩
            · exact .inr h1
          have hlb1 : lb' = lb ∨ w1.heap.size ≤ lb' := HLB.out
          have hsub : ∀ q, OwnP g lb' r v' q → OwnP g lb r v q ∨ B ≤ q := by
            intro q hq
            rcases hq with rfl | rfl | rfl | hq
            · exact .inl (.inl rfl)
            · rcases hlb1 with e | e
              · exact .inl (.inr (.inl e))
              · right; omega
            · exact .inl (.inr (.inr (.inl rfl)))
            · rcases hv1 q hq with h1 | h1
              · exact .inl (.inr (.inr (.inr h1.2)))
              · right; omega
          have hpg : PG n g lb' r v' zs' wr := by
            refine ⟨HG4.out.kept HKr.out (fun e => by have := (hu g e).1; omega) (fun e => HNE.out e), HR4.out.kept HKr.out (fun e => by have := (hu r e).1; omega) (fun q hq e => by
              have h1 := hu q e
              rcases hv1 q hq with h2 | h2 <;> omega), HN1.out.1, ?_, ?_, ?_⟩
            · rcases hlb1 with e | e
              · rw [e]; exact HN1.out.2.1
              · omega
            · intro q hq
              rcases hv1 q hq with h1 | h1
              · obtain ⟨h3, h4⟩ := HN1.out.2.2 q h1.2
                refine ⟨h3, ?_⟩
                rcases hlb1 with e | e
                · rw [e]; exact h4
                · omega
              · omega
            · intro q hq
              rcases hsub q hq with h1 | h1
              · exact HLOW.out q h1
              · omega
          refine ⟨rfl, lb', v', zs', hpg, fun q hq => by rw [HBE.out]; exact hsub q hq, by omega, ?_⟩
          have k1 : Kept (OwnP g lb r v) w w1 := Kept.of_below (by rw [HBE.out]; exact HB.out)
          have k2 := k1.trans HK2.out (fun q _ hq => by rcases hq with rfl | rfl; exact .inl rfl; exact .inr (.inl rfl))
          have k3 := k2.trans HK3.out (fun q _ hq => by subst hq; exact .inr (.inr (.inl rfl)))
          have k4 := k3.trans (Kept.of_below (S := fun _ => False) HB4.out) (fun q _ hq => hq.elim)
          exact k4.trans HKr.out (fun q hq1 hq => by have := (hu q hq).1; omega)
end Go.Proofs.Ytgpgbbbcodnieaa.ed
