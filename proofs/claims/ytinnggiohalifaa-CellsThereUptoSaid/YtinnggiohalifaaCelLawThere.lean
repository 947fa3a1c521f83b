/-
  The walk of the law CellsThere, for texts of at most 2^20 bytes. (Printed by gen_cellawthere.py.)
-/
import Derived.Test.YtinnggiohalifaaCelTherePlain
import Derived.Test.YtinnggiohalifaaLxA
namespace Go.Proofs.Ytinnggiohalifaa.cel
open Go Go.RowKit Go.Proofs
open Go.Proofs.Ytinnggiohalifaa.wrp (TV t0 flow nl sp flow_any flow_len kept2 del2 sp_eq nl_eq)
open Go.Proofs.Ytinnggiohalifaa.clu (cells2 told)
set_option linter.unusedVariables false

/-- one cell built as a slice -/
theorem run_build1 {o : Oper} {ρ : Operand → Value} {w : World} {p : Operand} {a b c d e : Value} (ho : o.op = .buildSlice 35 1 #[(0, p)]) (hx : ρ p = .agg #[a, b, c, d, e]) :
    (execOp ρ o).run Try.prog w = .ok (.value (.slice (some ⟨w.heap.size, 0, none⟩) 1 1)) (w.alloc (.cells #[a, b, c, d, e] 44)) := by
  unfold execOp
  simp only [ho]
  simp [hx, go_sem]
theorem run_rem {o : Oper} {ρ : Operand → Value} {w : World} {p q : Operand} {t t' : TypeId} {x y : Int} (ho : o.op = .binOp .rem t p q t') (hx : ρ p = .int .i64 x) (hy : ρ q = .int .i64 y) (h0 : y ≠ 0) (hb : -9223372036854775808 ≤ Int.tmod x y ∧ Int.tmod x y ≤ 9223372036854775807) : (execOp ρ o).run Try.prog w = .ok (.value (.int .i64 (Int.tmod x y))) w := by
  have h1 := IntWalk.i64_in _ hb
  unfold execOp
  simp only [ho, hx, hy]
  simp [go_sem, h0]
theorem len_own {X : World} {B n : Nat} {v : Value} {xs : List Value} (h : X.ownsRow B 44 5 v n xs) (w : World) : (Builtin.len_ #[35] 3 #[v]).run Try.prog w = .ok (.int .i64 (n : Nat)) w := by
  obtain ⟨a, c, rfl⟩ := run.own_value h
  simp [go_sem, Builtin.len_]
set_option maxRecDepth 100000 in
set_option maxHeartbeats 8000000 in
theorem lawThere_any (t : ByteArray) (s : SV) (bY : Int) (w : World) (ht : t.size ≤ 1048576) (hs : s.wf) (hbY : w64 bY) :
    Calls Try.prog 8 #[.string t, s.val, .int .i64 bY] w fun e w' => e = .returned (.bool true) ∧ Below w.heap.size w w' := by
  obtain ⟨it, hinf, hz0, hsz, hby⟩ := info_parts info_cell
  have HFL := run.hid (fun w => flow_any t w (by omega))
  have HOV := run.hid (fun w => over_any s w)
  have hN := flow_len t
  have hFQ := @flow_at t
  have HPUT := run.hid (fun b g L w hB hG => put_any b g 64 3 L 1 1 t s allR w hB hG (by unfold RT.wf w64 allR; simp only; omega) (by omega))
  rw [let_all] at HPUT
  generalize flow t = F at *
  have HQ := run.hid (fun k hk => @hFQ k hk)
  obtain ⟨os, hos⟩ : ∃ os, os = overS s := ⟨_, rfl⟩
  rw [← hos] at HOV HPUT
  have HTH := run.hid (fun L hl hb => there_put os (F := F) (fun k hk => hFQ hk) (L := L) hl hb)
  have HWN := run.hid (fun k hk => @wantT_snoc os F k hk)
  have HWS := run.hid (fun k hk => @putW_snoc F k hk)
  have HWL := run.hid (putW_le (F := F) (fun k hk => by have := hFQ hk; omega))
  have HBL := run.hid (fun w => blank_any s w)
  have HFI := run.hid (fun b g L w hB hG => fill_any b g 64 3 L allR s 0 0 64 3 w hB hG (by unfold RT.wf w64 allR; simp only; omega) let_all (by omega) (by omega))
  have HSH := run.hid (fun d b g L w hB hG => shift_any b g 64 3 L allR d s 0 0 64 3 w hB hG (by unfold RT.wf w64 allR; simp only; omega) let_all (by omega) (by omega) (by omega))
  have HGP := run.hid (fun L (hG : Good 64 3 L) => partT_good (X := 0) (Y := 0) (RW := 64) hG 3 (by omega))
  have HALL := run.hid (show F.take F.length = F from List.take_of_length_le (Nat.le_refl _))
  have HW := run.hid (fun w => wakes_any w)
  have HAA := run.hid (fun w => all_any w)
  generalize blankT s = bx at *
  clear hFQ hs hos
  obtain ⟨sf, sb, sa⟩ := s
  obtain ⟨oF, oB, oA⟩ := os
  change Hid (∀ w, Calls _ _ #[.agg #[.int .i32 sf, .int .i32 sb, .int .u8 sa], _] _ fun e w' => e = .returned (.agg #[.int .i32 oF, .int .i32 oB, .int .u8 oA]) ∧ _) at HOV
  show Calls _ _ #[_, .agg #[.int .i32 sf, .int .i32 sb, .int .u8 sa], _] _ _
  have hb0 := run.below_one w (.cells #[.int .i32 sf, .int .i32 sb, .int .u8 sa] 24)
  have k0 := heap_alloc_new w (.cells #[.int .i32 sf, .int .i32 sb, .int .u8 sa] 24)
  have hFN : F.length ≤ 4194304 := by omega
  have HFC := run.hid (fun X base v (h : World.ownsRow X base 55 2 v F.length (cells2 F)) => clu.reads2_own h)
  obtain ⟨⟨c0, c1, c2⟩, -⟩ := blk3 k0
  have KK := run.hid (And.intro hb0 k0)
  clear hb0 k0
  go_enter Try.func8, Try.ntmps8
  go_wp2_with fail
  refine (HFL.out _).mono ?_
  rintro e w1 ⟨v, rfl, hrow, hb1⟩
  have hB1 := KK.out.1.trans (hb1.mono KK.out.1.size)
  have hk1 := (hb1.block w.heap.size (by simp)).trans KK.out.2
  obtain ⟨a, cap, rfl⟩ := run.own_value hrow
  clear c0 c1 c2 KK
  obtain ⟨⟨c0, c1, c2⟩, -⟩ := blk3 hk1
  go_wp2_with fail
  refine (HOV.out _).mono ?_
  rintro e w2 ⟨rfl, hb2⟩
  have hs1 := hB1.size
  have hlt1 := (Array.getElem?_eq_some_iff.1 hk1).1
  have hB2 := hB1.trans (hb2.mono hs1)
  have hk2 := (hb2.block w.heap.size hlt1).trans hk1
  have hrow2 := run.own_below hrow hb2
  clear c0 c1 c2 hk1 hrow hb1 hb2 HOV HFL
  have hs2 := hB2.size
  have hbo := run.below_one w2 (.cells #[.int .i32 oF, .int .i32 oB, .int .u8 oA] 24)
  have HB3 := run.hid (hB2.trans (hbo.mono hs2))
  have HKS := run.hid ((hbo.block w.heap.size ((Array.getElem?_eq_some_iff.1 hk2).1)).trans hk2)
  have HKO := run.hid (heap_alloc_new w2 (.cells #[.int .i32 oF, .int .i32 oB, .int .u8 oA] 24))
  have HROW := run.hid (run.own_below hrow2 hbo)
  have hns : w2.heap.size < (w2.alloc (.cells #[.int .i32 oF, .int .i32 oB, .int .u8 oA] 24)).heap.size := by simp
  have hs3 := HB3.out.size
  clear hk2 hrow2 hbo hB2 hB1 hlt1
  generalize hN2 : F.length = N at *
  go_upto_region 4 with fail
  generalize w2.alloc (.cells #[.int .i32 oF, .int .i32 oB, .int .u8 oA] 24) = w3 at *
  generalize w2.heap.size = ns at *
  go_wp2
  go_loopw [7, 10, 11] (fun vw vn vi wr => ∃ k : Nat, k ≤ N ∧ vi = .int .i64 k ∧ vn = .int .i64 (putW (F.take k) : Nat) ∧ Hid (wr.ownsRow w3.heap.size 44 5 vw (wantT ⟨oF, oB, oA⟩ (F.take k)).length (cells5 (wantT ⟨oF, oB, oA⟩ (F.take k)))) ∧ Below w3.heap.size w3 wr) (fun _ _ vi _ => ((N : Int) - intOf vi).toNat)
  case atStart => exact ⟨0, by omega, rfl, rfl, World.ownsRow_nil _ _ _ _, Below.refl _ _⟩
  case round =>
    obtain ⟨k, hk, rfl, rfl, HOW, hbel⟩ := hrel
    by_cases hlt : k < N
    · have hown := HOW.out
      have hQk := HQ.out k (by omega)
      have hwl := HWL.out k (by omega)
      have HP1 := run.hid (HWN.out k (by omega))
      have HP2 := run.hid (HWS.out k (by omega))
      obtain ⟨a', cap', he, hcell⟩ := HFC.out wr _ _ (run.own_below HROW.out hbel)
      simp only [Value.slice.injEq] at he
      obtain ⟨rfl, -, rfl⟩ := he
      obtain ⟨b1, o1', rfl, hb1, hx0, hx1⟩ := hcell k (by omega)
      clear hcell HOW
      have hsr := hbel.size
      change wr.cell? _ = some (.string (F.getD k t0).1) at hx0
      change wr.cell? _ = some (.int .i64 ((F.getD k t0).2 : Nat)) at hx1
      generalize F.getD k t0 = q at *
      obtain ⟨qs, qw⟩ := q
      dsimp only at hx0 hx1
      generalize wantT ⟨oF, oB, oA⟩ (F.take k) = l at *
      generalize putW (F.take k) = n at *
      by_cases e : qs = nl
      · have hcmp : (qs.toList == [10]) = true := by rw [nl_eq]; simp [e]
        have hsq : shownQ (qs, qw) = (sp, 1) := if_pos e
        change _ = ((⟨#[32]⟩ : ByteArray), 1) at hsq
        rw [hsq] at hQk
        clear e hQk
        by_cases h60 : 60 ≤ l.length
        · skip
          have hlen := len_own hown (wr.alloc (.cells #[.string ⟨#[32]⟩, .int .i64 1] 55))
          have hst : wantStep ⟨oF, oB, oA⟩ l (qs, qw) = l := if_pos h60
          rw [hst] at HP1
          rw [hsq] at HP2
          have HF := run.hid (hbel.trans ((run.below_one wr (.cells #[.string ⟨#[32]⟩, .int .i64 1] 55)).mono hbel.size))
          have HO := run.hid (hown.alloc (.cells #[.string ⟨#[32]⟩, .int .i64 1] 55))
          clear hown hst hsq HWS HWN HQ hbel
          go_wp2
          go_roundw
          case rel => exact ⟨k + 1, by omega, by go_num, by rw [HP2.out]; go_num, by show World.ownsRow _ _ _ _ _ _ _; rw [HP1.out]; exact HO.out, HF.out⟩
          case measure => simp [intOf]; omega
        · skip
          have hlen := len_own hown (wr.alloc (.cells #[.string ⟨#[32]⟩, .int .i64 1] 55))
          have hst : wantStep ⟨oF, oB, oA⟩ l (qs, qw) = l ++ [⟨⟨#[32]⟩, 1, ⟨oF, oB, oA⟩⟩] := by
            unfold wantStep cellQ
            rw [if_neg h60, hsq]
            exact if_neg (show ¬ (1 : Nat) = 2 by decide)
          rw [hst] at HP1
          rw [hsq] at HP2
          have hB1 := hbel.trans ((run.below_one wr (.cells #[.string ⟨#[32]⟩, .int .i64 1] 55)).mono hbel.size)
          have hkc := heap_alloc_new wr (.cells #[.string ⟨#[32]⟩, .int .i64 1] 55)
          have hko := (hB1.block _ (show ns < w3.heap.size by exact hns)).trans HKO.out
          have hown1 := hown.alloc (.cells #[.string ⟨#[32]⟩, .int .i64 1] 55)
          have hlne : ¬ (60 : Int) ≤ (l.length : Int) := by omega
          clear hst hsq
          go_upto_region 13 with fail
          have hszb : (wr.alloc (.cells #[.string ⟨#[32]⟩, .int .i64 1] 55)).heap.size = wr.heap.size + 1 := by simp
          generalize hwb : wr.alloc (.cells #[.string ⟨#[32]⟩, .int .i64 1] 55) = wb at *
          clear hwb hlen hx0 hx1
          obtain ⟨v8, w8, hr8, hown8, hg8, hold8, hst8⟩ := run.run_append_any (P := Try.prog) (wb.alloc (.cells #[.string ⟨#[32]⟩, .int .i8 1, .int .i32 oF, .int .i32 oB, .int .u8 oA] 44)) w3.heap.size 35 35 44 it (.agg #[.string ⟨#[]⟩, .int .i8 0, .int .i32 0, .int .i32 0, .int .u8 0]) 5 32 Try.underlying35 hinf hz0 hsz hby rfl (by decide) (u7) l.length (cells5 l) (hown1.alloc _) (.slice (some ⟨wb.heap.size, 0, none⟩) 1 1) 1 [.string ⟨#[32]⟩, .int .i8 1, .int .i32 oF, .int .i32 oB, .int .u8 oA] (run.readsN_new wb [.string ⟨#[32]⟩, .int .i8 1, .int .i32 oF, .int .i32 oB, .int .u8 oA] 1 5 _ rfl) (by intro u hu; simp only [List.mem_cons, List.not_mem_nil, or_false] at hu; rcases hu with rfl | rfl | rfl | rfl | rfl <;> rfl) (by unfold maxLen; omega) (by omega) (by rw [World.size_alloc]; omega)
          have HKw : w8.heap[wr.heap.size]? = some (.cells #[.string ⟨#[32]⟩, .int .i64 1] 55 (0, 0)) := (hg8.block wr.heap.size (by rw [World.size_alloc]; omega) (fun e => by have h1 := (hown.lt wr.heap.size (by first | exact e | exact e.symm)).2; omega)).trans ((blk_old _ (by omega)).trans hkc)
          have HKo : w8.heap[ns]? = some (.cells #[.int .i32 oF, .int .i32 oB, .int .u8 oA] 24 (0, 0)) := (hg8.block ns (by rw [World.size_alloc]; omega) (fun e => by have h1 := (hown1.lt ns (by first | exact e | exact e.symm)).1; omega)).trans ((blk_old _ (by omega)).trans hko)
          have HK : ∀ (D : Nat → Bool) (X : World), ((D 8 = false ∧ D 9 = false ∧ X = wb) ∨ (D 8 = true ∧ D 9 = false ∧ X = wb.alloc (.cells #[.string ⟨#[32]⟩, .int .i8 1, .int .i32 oF, .int .i32 oB, .int .u8 oA] 44)) ∨ (D 8 = true ∧ D 9 = true ∧ X = w8)) → X.heap[wr.heap.size]? = some (.cells #[.string ⟨#[32]⟩, .int .i64 1] 55 (0, 0)) ∧ X.heap[ns]? = some (.cells #[.int .i32 oF, .int .i32 oB, .int .u8 oA] 24 (0, 0)) := by
            rintro D X (⟨-, -, rfl⟩ | ⟨-, -, rfl⟩ | ⟨-, -, rfl⟩)
            · exact ⟨hkc, hko⟩
            · exact ⟨(blk_old _ (by omega)).trans hkc, (blk_old _ (by omega)).trans hko⟩
            · exact ⟨HKw, HKo⟩
          refine lx.straight (fun D X => (D 8 = false ∧ D 9 = false ∧ X = wb) ∨ (D 8 = true ∧ D 9 = false ∧ X = wb.alloc (.cells #[.string ⟨#[32]⟩, .int .i8 1, .int .i32 oF, .int .i32 oB, .int .u8 oA] 44)) ∨ (D 8 = true ∧ D 9 = true ∧ X = w8)) (by kernel_rfl) (.inl ⟨rfl, rfl, rfl⟩) ?_
          refine lx.begin 143 rfl ?_
          refine lx.o_pure (u7) (fun _ _ h => by first | rfl | kernel_rfl) ?_
          refine lx.o_pure (.pointer (some ⟨wr.heap.size, 0, none⟩)) (fun _ _ h => by first | rfl | kernel_rfl) ?_
          refine lx.o_pure (.string ⟨#[32]⟩) (fun D X hC => lx.run_load rfl rfl Try.underlying9 rfl (blk_cell (HK D X hC).1 0)) ?_
          refine lx.o_pure (.pointer (some ⟨wr.heap.size, 1, none⟩)) (fun _ _ h => by first | rfl | kernel_rfl) ?_
          refine lx.o_pure (.int .i64 1) (fun D X hC => lx.run_load rfl rfl Try.underlying3 rfl (blk_cell (HK D X hC).1 1)) ?_
          refine lx.o_pure (.int .i8 1) (fun _ _ h => by first | rfl | kernel_rfl) ?_
          refine lx.o_pure (.agg #[.int .i32 oF, .int .i32 oB, .int .u8 oA]) (fun D X hC => run_loadrow rfl rfl (HK D X hC).2 Try.underlying24 rfl (by kernel_rfl)) ?_
          refine lx.o_pure (.agg #[.string ⟨#[32]⟩, .int .i8 1, .int .i32 oF, .int .i32 oB, .int .u8 oA]) (fun _ _ h => by first | rfl | kernel_rfl) ?_
          refine lx.o_eff (.slice (some ⟨wb.heap.size, 0, none⟩) 1 1) (fun D X h0 hdep hC => ?_) ?_
          · rcases hC with ⟨e1, e2, rfl⟩ | ⟨e1, e2, rfl⟩ | ⟨e1, e2, rfl⟩
            · exact ⟨_, run_build1 rfl rfl, .inr (.inl ⟨rfl, e2, rfl⟩)⟩
            · rw [h0] at e1; cases e1
            · rw [h0] at e1; cases e1
          refine lx.o_eff v8 (fun D X h0 hdep hC => ?_) ?_
          · have hb : D 8 = true := hdep ⟨8, .data⟩ (by simp) rfl
            rcases hC with ⟨e1, e2, rfl⟩ | ⟨e1, e2, rfl⟩ | ⟨e1, e2, rfl⟩
            · rw [hb] at e1; cases e1
            · exact ⟨_, run_append rfl rfl rfl hr8, .inr (.inr ⟨hb, rfl, rfl⟩)⟩
            · rw [h0] at e2; cases e2
          refine lx.o_pure (v8) (fun _ _ h => by first | rfl | kernel_rfl) ?_
          refine lx.o_end ?_
          simp only [lx.ov]
          rintro X d hd hX
          obtain rfl : w8 = X := by
            rcases hX with ⟨e1, -, -⟩ | ⟨-, e1, -⟩ | ⟨-, -, h⟩
            · rw [hd 8 (by decide)] at e1; cases e1
            · rw [hd 9 (by decide)] at e1; cases e1
            · exact h.symm
          clear hd HK hr8
          have hB8 := run.below_append (hB1.alloc hB1.size (.cells #[.string ⟨#[32]⟩, .int .i8 1, .int .i32 oF, .int .i32 oB, .int .u8 oA] 44)) (hown1.alloc (.cells #[.string ⟨#[32]⟩, .int .i8 1, .int .i32 oF, .int .i32 oB, .int .u8 oA] 44)) hg8 (by rw [World.size_alloc]; omega)
          have hown9 : w8.ownsRow w3.heap.size 44 5 v8 (l.length + 1) (cells5 (l ++ [⟨⟨#[32]⟩, 1, ⟨oF, oB, oA⟩⟩])) := by rw [cells5_append]; exact hown8
          have x1 := blk_cell HKw 1
          change w8.cell? _ = some (.int .i64 1) at x1
          go_simp
          have HF := run.hid hB8
          have HO := run.hid hown9
          clear hown8 hown9 hg8 hold8 hst8 hB8 hB1 hown1 hown hkc hko HKw HKo HWS HWN HQ hbel
          go_wp2
          go_roundw
          case rel => exact ⟨k + 1, by omega, by go_num, by rw [HP2.out]; go_num, by show World.ownsRow _ _ _ _ _ _ _; rw [HP1.out]; simpa using HO.out, HF.out⟩
          case measure => simp [intOf]; omega
      · have hcmp : (qs.toList == [10]) = false := by
          cases hc : (qs.toList == [10]) with
          | false => rfl
          | true => rw [nl_eq] at hc; simp at hc; exact (e hc).elim
        have hsq : shownQ (qs, qw) = (qs, qw) := if_neg e
        rw [hsq] at hQk
        dsimp only at hQk
        clear e
        by_cases h60 : 60 ≤ l.length
        · have hqb : qw ≤ 2 := by omega
          clear hQk
          have hlen := len_own hown (wr.alloc (.cells #[.string qs, .int .i64 (qw : Nat)] 55))
          have hst : wantStep ⟨oF, oB, oA⟩ l (qs, qw) = l := if_pos h60
          rw [hst] at HP1
          rw [hsq] at HP2
          have HF := run.hid (hbel.trans ((run.below_one wr (.cells #[.string qs, .int .i64 (qw : Nat)] 55)).mono hbel.size))
          have HO := run.hid (hown.alloc (.cells #[.string qs, .int .i64 (qw : Nat)] 55))
          clear hown hst hsq HWS HWN HQ hbel
          go_wp2
          go_roundw
          case rel => exact ⟨k + 1, by omega, by go_num, by rw [HP2.out]; go_num, by show World.ownsRow _ _ _ _ _ _ _; rw [HP1.out]; exact HO.out, HF.out⟩
          case measure => simp [intOf]; omega
        · rcases hQk with rfl | rfl
          · skip
            have hlen := len_own hown (wr.alloc (.cells #[.string qs, .int .i64 1] 55))
            have hst : wantStep ⟨oF, oB, oA⟩ l (qs, 1) = l ++ [⟨qs, 1, ⟨oF, oB, oA⟩⟩] := by
              unfold wantStep cellQ
              rw [if_neg h60, hsq]
              exact if_neg (show ¬ (1 : Nat) = 2 by decide)
            rw [hst] at HP1
            rw [hsq] at HP2
            have hB1 := hbel.trans ((run.below_one wr (.cells #[.string qs, .int .i64 1] 55)).mono hbel.size)
            have hkc := heap_alloc_new wr (.cells #[.string qs, .int .i64 1] 55)
            have hko := (hB1.block _ (show ns < w3.heap.size by exact hns)).trans HKO.out
            have hown1 := hown.alloc (.cells #[.string qs, .int .i64 1] 55)
            have hlne : ¬ (60 : Int) ≤ (l.length : Int) := by omega
            clear hst hsq
            go_upto_region 13 with fail
            have hszb : (wr.alloc (.cells #[.string qs, .int .i64 1] 55)).heap.size = wr.heap.size + 1 := by simp
            generalize hwb : wr.alloc (.cells #[.string qs, .int .i64 1] 55) = wb at *
            clear hwb hlen hx0 hx1
            obtain ⟨v8, w8, hr8, hown8, hg8, hold8, hst8⟩ := run.run_append_any (P := Try.prog) (wb.alloc (.cells #[.string qs, .int .i8 1, .int .i32 oF, .int .i32 oB, .int .u8 oA] 44)) w3.heap.size 35 35 44 it (.agg #[.string ⟨#[]⟩, .int .i8 0, .int .i32 0, .int .i32 0, .int .u8 0]) 5 32 Try.underlying35 hinf hz0 hsz hby rfl (by decide) (u7) l.length (cells5 l) (hown1.alloc _) (.slice (some ⟨wb.heap.size, 0, none⟩) 1 1) 1 [.string qs, .int .i8 1, .int .i32 oF, .int .i32 oB, .int .u8 oA] (run.readsN_new wb [.string qs, .int .i8 1, .int .i32 oF, .int .i32 oB, .int .u8 oA] 1 5 _ rfl) (by intro u hu; simp only [List.mem_cons, List.not_mem_nil, or_false] at hu; rcases hu with rfl | rfl | rfl | rfl | rfl <;> rfl) (by unfold maxLen; omega) (by omega) (by rw [World.size_alloc]; omega)
            have HKw : w8.heap[wr.heap.size]? = some (.cells #[.string qs, .int .i64 1] 55 (0, 0)) := (hg8.block wr.heap.size (by rw [World.size_alloc]; omega) (fun e => by have h1 := (hown.lt wr.heap.size (by first | exact e | exact e.symm)).2; omega)).trans ((blk_old _ (by omega)).trans hkc)
            have HKo : w8.heap[ns]? = some (.cells #[.int .i32 oF, .int .i32 oB, .int .u8 oA] 24 (0, 0)) := (hg8.block ns (by rw [World.size_alloc]; omega) (fun e => by have h1 := (hown1.lt ns (by first | exact e | exact e.symm)).1; omega)).trans ((blk_old _ (by omega)).trans hko)
            have HK : ∀ (D : Nat → Bool) (X : World), ((D 8 = false ∧ D 9 = false ∧ X = wb) ∨ (D 8 = true ∧ D 9 = false ∧ X = wb.alloc (.cells #[.string qs, .int .i8 1, .int .i32 oF, .int .i32 oB, .int .u8 oA] 44)) ∨ (D 8 = true ∧ D 9 = true ∧ X = w8)) → X.heap[wr.heap.size]? = some (.cells #[.string qs, .int .i64 1] 55 (0, 0)) ∧ X.heap[ns]? = some (.cells #[.int .i32 oF, .int .i32 oB, .int .u8 oA] 24 (0, 0)) := by
              rintro D X (⟨-, -, rfl⟩ | ⟨-, -, rfl⟩ | ⟨-, -, rfl⟩)
              · exact ⟨hkc, hko⟩
              · exact ⟨(blk_old _ (by omega)).trans hkc, (blk_old _ (by omega)).trans hko⟩
              · exact ⟨HKw, HKo⟩
            refine lx.straight (fun D X => (D 8 = false ∧ D 9 = false ∧ X = wb) ∨ (D 8 = true ∧ D 9 = false ∧ X = wb.alloc (.cells #[.string qs, .int .i8 1, .int .i32 oF, .int .i32 oB, .int .u8 oA] 44)) ∨ (D 8 = true ∧ D 9 = true ∧ X = w8)) (by kernel_rfl) (.inl ⟨rfl, rfl, rfl⟩) ?_
            refine lx.begin 143 rfl ?_
            refine lx.o_pure (u7) (fun _ _ h => by first | rfl | kernel_rfl) ?_
            refine lx.o_pure (.pointer (some ⟨wr.heap.size, 0, none⟩)) (fun _ _ h => by first | rfl | kernel_rfl) ?_
            refine lx.o_pure (.string qs) (fun D X hC => lx.run_load rfl rfl Try.underlying9 rfl (blk_cell (HK D X hC).1 0)) ?_
            refine lx.o_pure (.pointer (some ⟨wr.heap.size, 1, none⟩)) (fun _ _ h => by first | rfl | kernel_rfl) ?_
            refine lx.o_pure (.int .i64 1) (fun D X hC => lx.run_load rfl rfl Try.underlying3 rfl (blk_cell (HK D X hC).1 1)) ?_
            refine lx.o_pure (.int .i8 1) (fun _ _ h => by first | rfl | kernel_rfl) ?_
            refine lx.o_pure (.agg #[.int .i32 oF, .int .i32 oB, .int .u8 oA]) (fun D X hC => run_loadrow rfl rfl (HK D X hC).2 Try.underlying24 rfl (by kernel_rfl)) ?_
            refine lx.o_pure (.agg #[.string qs, .int .i8 1, .int .i32 oF, .int .i32 oB, .int .u8 oA]) (fun _ _ h => by first | rfl | kernel_rfl) ?_
            refine lx.o_eff (.slice (some ⟨wb.heap.size, 0, none⟩) 1 1) (fun D X h0 hdep hC => ?_) ?_
            · rcases hC with ⟨e1, e2, rfl⟩ | ⟨e1, e2, rfl⟩ | ⟨e1, e2, rfl⟩
              · exact ⟨_, run_build1 rfl rfl, .inr (.inl ⟨rfl, e2, rfl⟩)⟩
              · rw [h0] at e1; cases e1
              · rw [h0] at e1; cases e1
            refine lx.o_eff v8 (fun D X h0 hdep hC => ?_) ?_
            · have hb : D 8 = true := hdep ⟨8, .data⟩ (by simp) rfl
              rcases hC with ⟨e1, e2, rfl⟩ | ⟨e1, e2, rfl⟩ | ⟨e1, e2, rfl⟩
              · rw [hb] at e1; cases e1
              · exact ⟨_, run_append rfl rfl rfl hr8, .inr (.inr ⟨hb, rfl, rfl⟩)⟩
              · rw [h0] at e2; cases e2
            refine lx.o_pure (v8) (fun _ _ h => by first | rfl | kernel_rfl) ?_
            refine lx.o_end ?_
            simp only [lx.ov]
            rintro X d hd hX
            obtain rfl : w8 = X := by
              rcases hX with ⟨e1, -, -⟩ | ⟨-, e1, -⟩ | ⟨-, -, h⟩
              · rw [hd 8 (by decide)] at e1; cases e1
              · rw [hd 9 (by decide)] at e1; cases e1
              · exact h.symm
            clear hd HK hr8
            have hB8 := run.below_append (hB1.alloc hB1.size (.cells #[.string qs, .int .i8 1, .int .i32 oF, .int .i32 oB, .int .u8 oA] 44)) (hown1.alloc (.cells #[.string qs, .int .i8 1, .int .i32 oF, .int .i32 oB, .int .u8 oA] 44)) hg8 (by rw [World.size_alloc]; omega)
            have hown9 : w8.ownsRow w3.heap.size 44 5 v8 (l.length + 1) (cells5 (l ++ [⟨qs, 1, ⟨oF, oB, oA⟩⟩])) := by rw [cells5_append]; exact hown8
            have x1 := blk_cell HKw 1
            change w8.cell? _ = some (.int .i64 1) at x1
            go_simp
            have HF := run.hid hB8
            have HO := run.hid hown9
            clear hown8 hown9 hg8 hold8 hst8 hB8 hB1 hown1 hown hkc hko HKw HKo HWS HWN HQ hbel
            go_wp2
            go_roundw
            case rel => exact ⟨k + 1, by omega, by go_num, by rw [HP2.out]; go_num, by show World.ownsRow _ _ _ _ _ _ _; rw [HP1.out]; simpa using HO.out, HF.out⟩
            case measure => simp [intOf]; omega
          · skip
            have hlen := len_own hown (wr.alloc (.cells #[.string qs, .int .i64 2] 55))
            have hst : wantStep ⟨oF, oB, oA⟩ l (qs, 2) = l ++ [⟨qs, 2, ⟨oF, oB, oA⟩⟩] ++ [⟨⟨#[]⟩, 0, ⟨oF, oB, oA⟩⟩] := by
              unfold wantStep cellQ
              rw [if_neg h60, hsq]
              exact if_pos rfl
            rw [hst] at HP1
            rw [hsq] at HP2
            have hB1 := hbel.trans ((run.below_one wr (.cells #[.string qs, .int .i64 2] 55)).mono hbel.size)
            have hkc := heap_alloc_new wr (.cells #[.string qs, .int .i64 2] 55)
            have hko := (hB1.block _ (show ns < w3.heap.size by exact hns)).trans HKO.out
            have hown1 := hown.alloc (.cells #[.string qs, .int .i64 2] 55)
            have hlne : ¬ (60 : Int) ≤ (l.length : Int) := by omega
            clear hst hsq
            go_upto_region 13 with fail
            have hszb : (wr.alloc (.cells #[.string qs, .int .i64 2] 55)).heap.size = wr.heap.size + 1 := by simp
            generalize hwb : wr.alloc (.cells #[.string qs, .int .i64 2] 55) = wb at *
            clear hwb hlen hx0 hx1
            obtain ⟨v8, w8, hr8, hown8, hg8, hold8, hst8⟩ := run.run_append_any (P := Try.prog) (wb.alloc (.cells #[.string qs, .int .i8 2, .int .i32 oF, .int .i32 oB, .int .u8 oA] 44)) w3.heap.size 35 35 44 it (.agg #[.string ⟨#[]⟩, .int .i8 0, .int .i32 0, .int .i32 0, .int .u8 0]) 5 32 Try.underlying35 hinf hz0 hsz hby rfl (by decide) (u7) l.length (cells5 l) (hown1.alloc _) (.slice (some ⟨wb.heap.size, 0, none⟩) 1 1) 1 [.string qs, .int .i8 2, .int .i32 oF, .int .i32 oB, .int .u8 oA] (run.readsN_new wb [.string qs, .int .i8 2, .int .i32 oF, .int .i32 oB, .int .u8 oA] 1 5 _ rfl) (by intro u hu; simp only [List.mem_cons, List.not_mem_nil, or_false] at hu; rcases hu with rfl | rfl | rfl | rfl | rfl <;> rfl) (by unfold maxLen; omega) (by omega) (by rw [World.size_alloc]; omega)
            have HKw : w8.heap[wr.heap.size]? = some (.cells #[.string qs, .int .i64 2] 55 (0, 0)) := (hg8.block wr.heap.size (by rw [World.size_alloc]; omega) (fun e => by have h1 := (hown.lt wr.heap.size (by first | exact e | exact e.symm)).2; omega)).trans ((blk_old _ (by omega)).trans hkc)
            have HKo : w8.heap[ns]? = some (.cells #[.int .i32 oF, .int .i32 oB, .int .u8 oA] 24 (0, 0)) := (hg8.block ns (by rw [World.size_alloc]; omega) (fun e => by have h1 := (hown1.lt ns (by first | exact e | exact e.symm)).1; omega)).trans ((blk_old _ (by omega)).trans hko)
            have HK : ∀ (D : Nat → Bool) (X : World), ((D 8 = false ∧ D 9 = false ∧ X = wb) ∨ (D 8 = true ∧ D 9 = false ∧ X = wb.alloc (.cells #[.string qs, .int .i8 2, .int .i32 oF, .int .i32 oB, .int .u8 oA] 44)) ∨ (D 8 = true ∧ D 9 = true ∧ X = w8)) → X.heap[wr.heap.size]? = some (.cells #[.string qs, .int .i64 2] 55 (0, 0)) ∧ X.heap[ns]? = some (.cells #[.int .i32 oF, .int .i32 oB, .int .u8 oA] 24 (0, 0)) := by
              rintro D X (⟨-, -, rfl⟩ | ⟨-, -, rfl⟩ | ⟨-, -, rfl⟩)
              · exact ⟨hkc, hko⟩
              · exact ⟨(blk_old _ (by omega)).trans hkc, (blk_old _ (by omega)).trans hko⟩
              · exact ⟨HKw, HKo⟩
            refine lx.straight (fun D X => (D 8 = false ∧ D 9 = false ∧ X = wb) ∨ (D 8 = true ∧ D 9 = false ∧ X = wb.alloc (.cells #[.string qs, .int .i8 2, .int .i32 oF, .int .i32 oB, .int .u8 oA] 44)) ∨ (D 8 = true ∧ D 9 = true ∧ X = w8)) (by kernel_rfl) (.inl ⟨rfl, rfl, rfl⟩) ?_
            refine lx.begin 143 rfl ?_
            refine lx.o_pure (u7) (fun _ _ h => by first | rfl | kernel_rfl) ?_
            refine lx.o_pure (.pointer (some ⟨wr.heap.size, 0, none⟩)) (fun _ _ h => by first | rfl | kernel_rfl) ?_
            refine lx.o_pure (.string qs) (fun D X hC => lx.run_load rfl rfl Try.underlying9 rfl (blk_cell (HK D X hC).1 0)) ?_
            refine lx.o_pure (.pointer (some ⟨wr.heap.size, 1, none⟩)) (fun _ _ h => by first | rfl | kernel_rfl) ?_
            refine lx.o_pure (.int .i64 2) (fun D X hC => lx.run_load rfl rfl Try.underlying3 rfl (blk_cell (HK D X hC).1 1)) ?_
            refine lx.o_pure (.int .i8 2) (fun _ _ h => by first | rfl | kernel_rfl) ?_
            refine lx.o_pure (.agg #[.int .i32 oF, .int .i32 oB, .int .u8 oA]) (fun D X hC => run_loadrow rfl rfl (HK D X hC).2 Try.underlying24 rfl (by kernel_rfl)) ?_
            refine lx.o_pure (.agg #[.string qs, .int .i8 2, .int .i32 oF, .int .i32 oB, .int .u8 oA]) (fun _ _ h => by first | rfl | kernel_rfl) ?_
            refine lx.o_eff (.slice (some ⟨wb.heap.size, 0, none⟩) 1 1) (fun D X h0 hdep hC => ?_) ?_
            · rcases hC with ⟨e1, e2, rfl⟩ | ⟨e1, e2, rfl⟩ | ⟨e1, e2, rfl⟩
              · exact ⟨_, run_build1 rfl rfl, .inr (.inl ⟨rfl, e2, rfl⟩)⟩
              · rw [h0] at e1; cases e1
              · rw [h0] at e1; cases e1
            refine lx.o_eff v8 (fun D X h0 hdep hC => ?_) ?_
            · have hb : D 8 = true := hdep ⟨8, .data⟩ (by simp) rfl
              rcases hC with ⟨e1, e2, rfl⟩ | ⟨e1, e2, rfl⟩ | ⟨e1, e2, rfl⟩
              · rw [hb] at e1; cases e1
              · exact ⟨_, run_append rfl rfl rfl hr8, .inr (.inr ⟨hb, rfl, rfl⟩)⟩
              · rw [h0] at e2; cases e2
            refine lx.o_pure (v8) (fun _ _ h => by first | rfl | kernel_rfl) ?_
            refine lx.o_end ?_
            simp only [lx.ov]
            rintro X d hd hX
            obtain rfl : w8 = X := by
              rcases hX with ⟨e1, -, -⟩ | ⟨-, e1, -⟩ | ⟨-, -, h⟩
              · rw [hd 8 (by decide)] at e1; cases e1
              · rw [hd 9 (by decide)] at e1; cases e1
              · exact h.symm
            clear hd HK hr8
            have hB8 := run.below_append (hB1.alloc hB1.size (.cells #[.string qs, .int .i8 2, .int .i32 oF, .int .i32 oB, .int .u8 oA] 44)) (hown1.alloc (.cells #[.string qs, .int .i8 2, .int .i32 oF, .int .i32 oB, .int .u8 oA] 44)) hg8 (by rw [World.size_alloc]; omega)
            have hown9 : w8.ownsRow w3.heap.size 44 5 v8 (l.length + 1) (cells5 (l ++ [⟨qs, 2, ⟨oF, oB, oA⟩⟩])) := by rw [cells5_append]; exact hown8
            have x1 := blk_cell HKw 1
            change w8.cell? _ = some (.int .i64 2) at x1
            go_simp
            have hv8 : v8.ownBlock ≠ some wr.heap.size := by
              intro e
              rcases hst8 with ⟨b, c, e1, e2⟩ | hs
              · have e3 : u7.ownBlock = v8.ownBlock := by rw [e1, e2]; rfl
                have := (hown.lt _ (e3.trans e)).2
                omega
              · have := hs _ e
                rw [World.size_alloc] at this
                omega
            have hs8 := hB8.size
            have hs8b := hg8.size
            rw [World.size_alloc] at hs8b
            have hkc8 := HKw
            have hko8 := HKo
            clear HKw HKo hkc hko
            have hkc := hkc8
            have hko := hko8
            go_upto_region 15 with fail
            obtain ⟨v6, w6, hr6, hown6, hg6, hold6, hst6⟩ := run.run_append_any (P := Try.prog) (w8.alloc (.cells #[.string ⟨#[]⟩, .int .i8 0, .int .i32 oF, .int .i32 oB, .int .u8 oA] 44)) w3.heap.size 35 35 44 it (.agg #[.string ⟨#[]⟩, .int .i8 0, .int .i32 0, .int .i32 0, .int .u8 0]) 5 32 Try.underlying35 hinf hz0 hsz hby rfl (by decide) (v8) (l.length + 1) (cells5 (l ++ [⟨qs, 2, ⟨oF, oB, oA⟩⟩])) (hown9.alloc _) (.slice (some ⟨w8.heap.size, 0, none⟩) 1 1) 1 [.string ⟨#[]⟩, .int .i8 0, .int .i32 oF, .int .i32 oB, .int .u8 oA] (run.readsN_new w8 [.string ⟨#[]⟩, .int .i8 0, .int .i32 oF, .int .i32 oB, .int .u8 oA] 1 5 _ rfl) (by intro u hu; simp only [List.mem_cons, List.not_mem_nil, or_false] at hu; rcases hu with rfl | rfl | rfl | rfl | rfl <;> rfl) (by unfold maxLen; omega) (by omega) (by rw [World.size_alloc]; omega)
            have HKw : w6.heap[wr.heap.size]? = some (.cells #[.string qs, .int .i64 2] 55 (0, 0)) := (hg6.block wr.heap.size (by rw [World.size_alloc]; omega) (fun e => (by first | exact hv8 e | exact hv8 e.symm))).trans ((blk_old _ (by omega)).trans hkc)
            have HKo : w6.heap[ns]? = some (.cells #[.int .i32 oF, .int .i32 oB, .int .u8 oA] 24 (0, 0)) := (hg6.block ns (by rw [World.size_alloc]; omega) (fun e => by have h1 := (hown9.lt ns (by first | exact e | exact e.symm)).1; omega)).trans ((blk_old _ (by omega)).trans hko)
            have HK : ∀ (D : Nat → Bool) (X : World), ((D 3 = false ∧ D 4 = false ∧ X = w8) ∨ (D 3 = true ∧ D 4 = false ∧ X = w8.alloc (.cells #[.string ⟨#[]⟩, .int .i8 0, .int .i32 oF, .int .i32 oB, .int .u8 oA] 44)) ∨ (D 3 = true ∧ D 4 = true ∧ X = w6)) → X.heap[wr.heap.size]? = some (.cells #[.string qs, .int .i64 2] 55 (0, 0)) ∧ X.heap[ns]? = some (.cells #[.int .i32 oF, .int .i32 oB, .int .u8 oA] 24 (0, 0)) := by
              rintro D X (⟨-, -, rfl⟩ | ⟨-, -, rfl⟩ | ⟨-, -, rfl⟩)
              · exact ⟨hkc, hko⟩
              · exact ⟨(blk_old _ (by omega)).trans hkc, (blk_old _ (by omega)).trans hko⟩
              · exact ⟨HKw, HKo⟩
            refine lx.straight (fun D X => (D 3 = false ∧ D 4 = false ∧ X = w8) ∨ (D 3 = true ∧ D 4 = false ∧ X = w8.alloc (.cells #[.string ⟨#[]⟩, .int .i8 0, .int .i32 oF, .int .i32 oB, .int .u8 oA] 44)) ∨ (D 3 = true ∧ D 4 = true ∧ X = w6)) (by kernel_rfl) (.inl ⟨rfl, rfl, rfl⟩) ?_
            refine lx.begin 143 rfl ?_
            refine lx.o_pure (v8) (fun _ _ h => by first | rfl | kernel_rfl) ?_
            refine lx.o_pure (.agg #[.int .i32 oF, .int .i32 oB, .int .u8 oA]) (fun D X hC => run_loadrow rfl rfl (HK D X hC).2 Try.underlying24 rfl (by kernel_rfl)) ?_
            refine lx.o_pure (.agg #[.string ⟨#[]⟩, .int .i8 0, .int .i32 oF, .int .i32 oB, .int .u8 oA]) (fun _ _ h => by first | rfl | kernel_rfl) ?_
            refine lx.o_eff (.slice (some ⟨w8.heap.size, 0, none⟩) 1 1) (fun D X h0 hdep hC => ?_) ?_
            · rcases hC with ⟨e1, e2, rfl⟩ | ⟨e1, e2, rfl⟩ | ⟨e1, e2, rfl⟩
              · exact ⟨_, run_build1 rfl rfl, .inr (.inl ⟨rfl, e2, rfl⟩)⟩
              · rw [h0] at e1; cases e1
              · rw [h0] at e1; cases e1
            refine lx.o_eff v6 (fun D X h0 hdep hC => ?_) ?_
            · have hb : D 3 = true := hdep ⟨3, .data⟩ (by simp) rfl
              rcases hC with ⟨e1, e2, rfl⟩ | ⟨e1, e2, rfl⟩ | ⟨e1, e2, rfl⟩
              · rw [hb] at e1; cases e1
              · exact ⟨_, run_append rfl rfl rfl hr6, .inr (.inr ⟨hb, rfl, rfl⟩)⟩
              · rw [h0] at e2; cases e2
            refine lx.o_pure (v6) (fun _ _ h => by first | rfl | kernel_rfl) ?_
            refine lx.o_end ?_
            simp only [lx.ov]
            rintro X d hd hX
            obtain rfl : w6 = X := by
              rcases hX with ⟨e1, -, -⟩ | ⟨-, e1, -⟩ | ⟨-, -, h⟩
              · rw [hd 3 (by decide)] at e1; cases e1
              · rw [hd 4 (by decide)] at e1; cases e1
              · exact h.symm
            clear hd HK hr6
            have hB6 := run.below_append (hB8.alloc hB8.size (.cells #[.string ⟨#[]⟩, .int .i8 0, .int .i32 oF, .int .i32 oB, .int .u8 oA] 44)) (hown9.alloc (.cells #[.string ⟨#[]⟩, .int .i8 0, .int .i32 oF, .int .i32 oB, .int .u8 oA] 44)) hg6 (by rw [World.size_alloc]; omega)
            have hown7 : w6.ownsRow w3.heap.size 44 5 v6 (l.length + 2) (cells5 (l ++ [⟨qs, 2, ⟨oF, oB, oA⟩⟩] ++ [⟨⟨#[]⟩, 0, ⟨oF, oB, oA⟩⟩])) := by rw [cells5_append]; exact hown6
            have HF := run.hid hB6
            have HO := run.hid hown7
            clear hown8 hown9 hg8 hold8 hst8 hB8 hB1 hown1 hown hkc hko hkc8 hko8 x1 HKw HKo HWS HWN HQ hbel hown6 hg6 hold6 hst6 hB6 hown7
            go_simp
            go_wp2
            go_roundw
            case rel => exact ⟨k + 1, by omega, by go_num, by rw [HP2.out]; go_num, by show World.ownsRow _ _ _ _ _ _ _; rw [HP1.out]; simpa using HO.out, HF.out⟩
            case measure => simp [intOf]; omega
    · obtain rfl : k = N := by omega
      have HNEW := run.hid (new_ok 64 3 wr (by omega) (by omega) (by omega))
      have HWT := run.hid (HTH.out (fillT 192 192) (by decide) (fun j hj => by
        show ((fillT 192 192).getD (64 + j) z0).wide = 1
        unfold fillT
        rw [show 192 - 192 = 0 from rfl, List.replicate_zero, List.append_nil, List.getD_eq_getElem?_getD, List.getElem?_replicate, if_pos (by omega)]
        rfl) k (Nat.le_refl _))
      rw [HALL.out] at HOW HWT ⊢
      clear HTH HWN HWS HWL HQ
      go_wp2_with fail
      refine HNEW.out.mono ?_
      rintro e wn ⟨rfl, hbf, hbn⟩
      have hsr := hbel.size
      have HB3n := run.hid (hbel.trans (hbn.mono hsr))
      have HGN := run.hid (fill_good 64 3)
      have HBN := run.hid hbf
      obtain ⟨L0, hL0⟩ : ∃ L0, L0 = fillT (64 * 3) (64 * 3) := ⟨_, rfl⟩
      rw [← hL0] at HGN HBN
      change Hid (List.length (putT 64 _ 1 _ 1 (fillT (64 * 3) (64 * 3)) F).2 = 192 ∧ _) at HWT
      rw [show fillT (64 * 3) (64 * 3) = L0 from hL0.symm] at HWT
      have HBW := run.hid hbn
      clear hL0 hbf hbn HNEW
      have hws : w.heap.size < w3.heap.size := (Array.getElem?_eq_some_iff.1 HKS.out).1
      obtain ⟨bb, hbb⟩ : ∃ bb, bb = wr.heap.size + 1 := ⟨_, rfl⟩
      obtain ⟨gg, hgg⟩ : ∃ gg, gg = wr.heap.size := ⟨_, rfl⟩
      rw [← hbb, ← hgg] at HBN
      rw [← hbb]
      have HKX := run.hid (fun (X : World) (hX : wn.grownBy X (some gg)) => show X.heap[w.heap.size]? = some (.cells #[.int .i32 sf, .int .i32 sb, .int .u8 sa] 24 (0, 0)) from by
        have h3 := (HB3n.out.block w.heap.size hws).trans HKS.out
        exact (hX.block w.heap.size (Array.getElem?_eq_some_iff.1 h3).1 (by simp; omega)).trans h3)
      clear hbb
      go_upto_region 17 with fail
      refine lx.region (fun D X => ∃ L2, Buf X bb gg 64 3 L2 ∧ Good 64 3 L2 ∧ wn.grownBy X (some gg) ∧ (D 11 = false → L2 = L0) ∧ (D 11 = true → L2 = (putT 64 ⟨0, 0, 64, 3⟩ 1 ⟨oF, oB, oA⟩ (farX 1) L0 F).2)) (by kernel_rfl) (by kernel_rfl) (by kernel_rfl) ⟨L0, HBN.out.below (drewB (Below.refl _ _)), HGN.out, drew_grown _ _, fun _ => rfl, fun h => (by cases h)⟩ ?_
      refine lx.begin 143 rfl ?_
      refine lx.o_pure (.int .i64 0) (fun _ _ h => by first | rfl | kernel_rfl) ?_
      refine lx.o_pure (.bool false) (fun _ _ h => by first | rfl | kernel_rfl) ?_
      refine lx.o_pure (.bool false) (fun _ _ h => by first | rfl | kernel_rfl) ?_
      refine lx.o_pure (.pointer (some ⟨bb, 0, none⟩)) (fun _ _ h => by first | rfl | kernel_rfl) ?_
      refine lx.o_pure (.bool false) (fun _ _ h => by first | rfl | kernel_rfl) ?_
      refine lx.o_pure (.bool false) (fun _ _ h => by first | rfl | kernel_rfl) ?_
      refine lx.o_pure (.bool false) (fun _ _ h => by first | rfl | kernel_rfl) ?_
      refine lx.o_pure (.pointer (some ⟨bb, 0, none⟩)) (fun _ _ h => by first | rfl | kernel_rfl) ?_
      refine lx.o_pure (.string t) (fun _ _ h => by first | rfl | kernel_rfl) ?_
      refine lx.o_pure (.agg #[.int .i32 sf, .int .i32 sb, .int .u8 sa]) (fun D X hC => run_loadrow rfl rfl (HKX.out X hC.choose_spec.2.2.1) Try.underlying24 rfl (by kernel_rfl)) ?_
      refine lx.o_call allR.val 32 #[] (fun _ _ _ => lx.run_fn rfl rfl rfl (enters_of Try.func32 (by kernel_rfl) rfl)) (fun D X hC => (HAA.out X).mono fun e w2 ⟨he, hw⟩ => ⟨he, by obtain ⟨L2, h1, h2, h3, h4⟩ := hC; exact ⟨L2, h1.below hw, h2, run.grown_trans h3 (grown_below hw gg) (.inl rfl), h4⟩⟩) ?_
      refine lx.o_callE (.int .i64 (putW F : Nat)) 31 #[.pointer (some ⟨bb, 0, none⟩), .int .i64 1, .int .i64 1, .string t, .agg #[.int .i32 sf, .int .i32 sb, .int .u8 sa], allR.val] (fun _ _ _ => lx.run_fn rfl rfl rfl (enters_of Try.func31 (by kernel_rfl) rfl)) (fun D X h0 hC => ?_) ?_
      · obtain ⟨L2, h1, h2, h3, h4, h5⟩ := hC
        obtain rfl := h4 h0
        exact (HPUT.out bb gg _ X h1 h2).mono fun e w2 ⟨he, hb2, hg2, hw2⟩ => ⟨he, _, hb2, hg2, run.grown_trans h3 hw2 (.inl rfl), (fun h => by cases h), fun _ => rfl⟩
      refine lx.o_pure (.int .i64 (putW F : Nat)) (fun _ _ h => by first | rfl | kernel_rfl) ?_
      refine lx.o_pure (.bool false) (fun D X hC => run_neint_f rfl rfl rfl rfl) ?_
      refine lx.o_pure (.bool false) (fun _ _ h => by first | rfl | kernel_rfl) ?_
      refine lx.o_end ?_
      simp only [lx.ov]
      rintro X d hd ⟨L2, hS, hSG, hg, -, h2⟩
      obtain rfl := h2 (hd 11 (by decide))
      have HF := run.hid (And.intro hS (And.intro hSG hg))
      clear hS hSG hg h2 hd
      go_simp
      obtain ⟨hS, hSG, hg⟩ := HF.out
      have hown := run.own_below HOW.out HBW.out
      have hownX := hown.kept hg (by
        cases hv : u7.ownBlock with
        | none => exact .inl rfl
        | some q =>
          refine .inr fun e => ?_
          have h1 := (HOW.out.lt q hv).2
          simp only [Option.some.injEq] at e
          omega)
      have hB0 := HB3.out.trans (HB3n.out.mono hs3)
      have HXB := run.hid (hB0.grown hg hB0.size (fun q hq => by simp only [Option.some.injEq] at hq; omega))
      have HBX := run.hid hS
      have HGX := run.hid hSG
      have HKS2 := run.hid (HKX.out X hg)
      have hXs := hg.size
      have hns2 := HB3n.out.size
      have hw3X : w3.heap.size ≤ X.heap.size := Nat.le_trans hns2 hXs
      obtain ⟨-, -, -, hw61, -, hwant⟩ := HWT.out
      change ∀ i, _ → (putT 64 ⟨0, 0, 64, 3⟩ 1 ⟨oF, oB, oA⟩ (farX 1) L0 F).2.getD (65 + i) z0 = _ at hwant
      generalize (putT 64 ⟨0, 0, 64, 3⟩ 1 ⟨oF, oB, oA⟩ (farX 1) L0 F).2 = LP at *
      generalize wantT ⟨oF, oB, oA⟩ F = WL at *
      obtain ⟨aw, cw, rfl⟩ := run.own_value hownX
      have HRD := run.hid (fun q (hq : q < WL.length) => reads_cell (reads5_own hownX) hq)
      have HWANT := run.hid hwant
      clear HOW HF hS hSG hg hown hownX HWT HPUT HKX HBN HGN hwant hB0 HFC HROW
      obtain ⟨NW, hNW⟩ : ∃ n, n = WL.length := ⟨_, rfl⟩
      rw [← hNW] at HRD HWANT hw61
      have HLW := run.hid hNW
      rw [← hNW]
      clear hNW
      have HCELL := run.hid (fun X' (hX' : Below X.heap.size X X') i (hi : i < 62) => cell_in bb gg 64 3 LP (1 + i) 1 X' (HBX.out.below hX') (by omega) (by omega))
      go_wp2
      go_loopw [15] (fun vi wr => ∃ j : Nat, j ≤ NW ∧ vi = .int .i64 j ∧ Below X.heap.size X wr) (fun vi _ => ((NW : Int) - intOf vi).toNat)
      case atStart => exact ⟨0, Nat.zero_le _, rfl, Below.refl _ _⟩
      case round =>
        obtain ⟨j, hj, rfl, hbel⟩ := hrel
        by_cases hjl : j < NW
        · have hc := HCELL.out wr hbel j (by omega)
          rw [show 1 * 64 + (1 + j) = 65 + j by omega, HWANT.out j (by first | exact hjl | (rw [← HLW.out]; exact hjl))] at hc
          change Calls _ _ #[_, .int .i64 ((1 + j : Nat) : Int), .int .i64 1] _ _ at hc
          rw [show ((1 + j : Nat) : Int) = 1 + (j : Int) by push_cast; rfl] at hc
          obtain ⟨b1, o1, haw, hb1, hc5⟩ := HRD.out j hjl
          subst haw
          generalize WL.getD j z0 = c at *
          obtain ⟨ct, cx, cf, cb, ca⟩ := c
          have HC := run.hid hc
          have hsX := hbel.size
          have HC5 := run.hid (fun X' (hX' : Below X.heap.size X X') => hc5.below hX' hb1)
          change Hid (Calls _ _ _ _ fun e w' => e = .returned (.tuple #[.agg #[.string ct, .int .i8 cx, .int .i32 cf, .int .i32 cb, .int .u8 ca], .bool true]) ∧ _) at HC
          clear hc hc5 HCELL HWANT HRD HLW
          go_wp2_with fail
          refine HC.out.mono ?_
          rintro e w4 ⟨rfl, hb4⟩
          have hB4 := hbel.trans (hb4.mono hsX)
          have hs4 := hB4.size
          have HKC := run.hid (heap_alloc_new w4 (.cells #[.string ct, .int .i8 cx, .int .i32 cf, .int .i32 cb, .int .u8 ca] 44))
          have HB5 := run.hid (hB4.alloc hs4 (.cells #[.string ct, .int .i8 cx, .int .i32 cf, .int .i32 cb, .int .u8 ca] 44))
          have HCE := run.hid (fun (Y : World) (hY : Below (w4.heap.size + 1) (w4.alloc (.cells #[.string ct, .int .i8 cx, .int .i32 cf, .int .i32 cb, .int .u8 ca] 44)) Y) => HC5.out Y (HB5.out.trans (hY.mono (by omega))))
          clear hb4 HC hB4 hbel
          go_upto_region 23 with fail
          refine lx.region (fun D X => Below (w4.heap.size + 1) (w4.alloc (.cells #[.string ct, .int .i8 cx, .int .i32 cf, .int .i32 cb, .int .u8 ca] 44)) X) (by kernel_rfl) (by kernel_rfl) (by kernel_rfl) (drewB (Below.refl _ _)) ?_
          refine lx.begin 143 rfl ?_
          refine lx.o_pure (.bool true) (fun _ _ h => by first | rfl | kernel_rfl) ?_
          refine lx.o_pure (.bool false) (fun _ _ h => by first | rfl | kernel_rfl) ?_
          refine lx.o_pure (.bool false) (fun _ _ h => by first | rfl | kernel_rfl) ?_
          refine lx.o_pure (CV.val ⟨ct, cx, ⟨cf, cb, ca⟩⟩) (fun D X hC => run_loadrow rfl rfl ((hC.block w4.heap.size (by simp)).trans HKC.out) Try.underlying44 rfl (by kernel_rfl)) ?_
          refine lx.o_pure (.slice (some ⟨b1, o1, none⟩) NW cw) (fun _ _ h => by first | rfl | kernel_rfl) ?_
          refine lx.o_pure (.int .i64 (j : Nat)) (fun _ _ h => by first | rfl | kernel_rfl) ?_
          refine lx.o_pure (.pointer (some ⟨b1, o1 + j * 5, none⟩)) (fun D X hC => run_atk rfl rfl rfl hjl hinf hsz) ?_
          refine lx.o_pure (CV.val ⟨ct, cx, ⟨cf, cb, ca⟩⟩) (fun D X hC => run_load5 rfl rfl (HCE.out X hC)) ?_
          refine lx.o_pure (.bool false) (fun D X hC => run_necell_f rfl rfl rfl rfl) ?_
          refine lx.o_pure (.bool false) (fun _ _ h => by first | rfl | kernel_rfl) ?_
          refine lx.o_end ?_
          simp only [lx.ov]
          rintro X9 d hd hC
          have HF9 := run.hid hC
          clear hC hd
          go_simp
          have HF := run.hid (HB5.out.trans (HF9.out.mono (by omega)))
          clear HF9 HCE HC5 HKC HB5
          go_wp2
          go_roundw
          case rel => exact ⟨j + 1, by omega, by go_num, HF.out⟩
          case measure => simp [intOf]; omega
        · obtain rfl : j = NW := by omega
          clear HCELL HWANT HRD HLW
          have HBWr := run.hid (HBX.out.below hbel)
          have HKSr := run.hid ((hbel.block w.heap.size (by omega)).trans HKS2.out)
          have HB0 := run.hid (HXB.out.trans (hbel.mono HXB.out.size))
          have HKY := run.hid (fun (X' : World) (hX : wr.grownBy X' (some gg)) => show X'.heap[w.heap.size]? = some (.cells #[.int .i32 sf, .int .i32 sb, .int .u8 sa] 24 (0, 0)) from (hX.block w.heap.size (Array.getElem?_eq_some_iff.1 HKSr.out).1 (by simp; omega)).trans HKSr.out)
          clear HBX HKS2 HXB hbel
          unfold w64 at hbY
          obtain ⟨LB, hLB⟩ : ∃ x, x = List.replicate 192 bx := ⟨_, rfl⟩
          have hPG := (HGP.out LP HGX.out).1
          have hFX := fun X h => HFI.out bb gg LP X h HGX.out
          rw [fill_all bx hPG, ← hLB] at hFX
          have HFX := run.hid hFX
          have hSX := fun d X h => HSH.out d bb gg LP X h HGX.out
          have hSX2 := fun (d : Int) (hd : d ≤ -3 ∨ 3 ≤ d) (X : World) (h : Buf X bb gg 64 3 LP) => by
            have := hSX d X h
            rw [shift_all bx (by omega) _ hPG, ← hLB] at this
            exact this
          have HSX := run.hid hSX2
          have HLB := run.hid hLB
          clear hFX hSX hSX2 hPG hLB HFI HSH HGP
          go_upto_if 107 with fail
          go_cut [6] (fun c wx => Buf wx bb gg 64 3 LB ∧ Below w.heap.size w wx ∧ wx.heap[w.heap.size]? = some (.cells #[.int .i32 sf, .int .i32 sb, .int .u8 sa] 24 (0, 0)))
          case first =>
           by_cases he : Int.tmod bY 2 = 0
           · go_upto_region 26 with fail
             refine lx.region (fun D X => ∃ L2, Buf X bb gg 64 3 L2 ∧ wr.grownBy X (some gg) ∧ (D 3 = false → L2 = LP) ∧ (D 3 = true → L2 = LB)) (by kernel_rfl) (by kernel_rfl) (by kernel_rfl) ⟨LP, HBWr.out.below (drewB (Below.refl _ _)), drew_grown _ _, fun _ => rfl, fun h => (by cases h)⟩ ?_
             refine lx.begin 143 rfl ?_
             refine lx.o_pure (.pointer (some ⟨bb, 0, none⟩)) (fun _ _ h => by first | rfl | kernel_rfl) ?_
             refine lx.o_call allR.val 32 #[] (fun _ _ _ => lx.run_fn rfl rfl rfl (enters_of Try.func32 (by kernel_rfl) rfl)) (fun D X hC => (HAA.out X).mono fun e w2 ⟨he, hw⟩ => ⟨he, by obtain ⟨L2, h1, h3, h4⟩ := hC; exact ⟨L2, h1.below hw, run.grown_trans h3 (grown_below hw gg) (.inl rfl), h4⟩⟩) ?_
             refine lx.o_pure (.agg #[.int .i32 sf, .int .i32 sb, .int .u8 sa]) (fun D X hC => run_loadrow rfl rfl (HKY.out X hC.choose_spec.2.1) Try.underlying24 rfl (by kernel_rfl)) ?_
             refine lx.o_callE (.tuple #[]) 34 #[.pointer (some ⟨bb, 0, none⟩), allR.val, .agg #[.int .i32 sf, .int .i32 sb, .int .u8 sa]] (fun _ _ _ => lx.run_fn rfl rfl rfl (enters_of Try.func34 (by kernel_rfl) rfl)) (fun D X h0 hC => ?_) ?_
             · obtain ⟨L2, h1, h3, h4, h5⟩ := hC
               obtain rfl := h4 h0
               exact (HFX.out X h1).mono fun e w2 ⟨he, hb2, hw2⟩ => ⟨he, _, hb2, run.grown_trans h3 hw2 (.inl rfl), (fun h => by cases h), fun _ => rfl⟩
             refine lx.o_end ?_
             simp only [lx.ov]
             rintro X2 d hd ⟨L2, hS, hg, -, h2⟩
             obtain rfl := h2 (hd 3 (by decide))

             go_simp
             go_wp2
             go_meet
             case rel => exact ⟨hS, HB0.out.grown hg HB0.out.size (fun q hq => by simp only [Option.some.injEq] at hq; omega), HKY.out X2 hg⟩
           · obtain ⟨dd, hdd⟩ : ∃ d, Int.tmod bY 1000 * 3 = d := ⟨_, rfl⟩
             have htm : -1000 < Int.tmod bY 1000 ∧ Int.tmod bY 1000 < 1000 := by
               refine ⟨?_, Int.tmod_lt_of_pos bY (by decide)⟩
               have := Int.tmod_lt_of_pos (-bY) (show (0 : Int) < 1000 by decide)
               rw [Int.neg_tmod] at this
               omega
             have hdb : dd ≤ -3 ∧ -2997 ≤ dd ∨ 3 ≤ dd ∧ dd ≤ 2997 := by
               have h1 := Int.tmod_add_mul_tdiv bY 2
               have h2 := Int.tmod_add_mul_tdiv bY 1000
               have h3 : Int.tmod bY 1000 < 1000 := Int.tmod_lt_of_pos bY (by decide)
               have h4 : -1000 < Int.tmod bY 1000 := by
                 have := Int.tmod_lt_of_pos (-bY) (show (0 : Int) < 1000 by decide)
                 rw [Int.neg_tmod] at this
                 omega
               have h5 : Int.tmod bY 1000 ≠ 0 := by
                 intro h
                 rw [h] at h2
                 apply he
                 have : (2 : Int) ∣ bY := ⟨500 * bY.tdiv 1000, by omega⟩
                 exact Int.tmod_eq_zero_of_dvd this
               omega
             have HDD := run.hid hdd
             clear hdd
             go_upto_region 27 with fail
             refine lx.region (fun D X => ∃ L2, Buf X bb gg 64 3 L2 ∧ wr.grownBy X (some gg) ∧ (D 6 = false → L2 = LP) ∧ (D 6 = true → L2 = LB)) (by kernel_rfl) (by kernel_rfl) (by kernel_rfl) ⟨LP, HBWr.out.below (drewB (Below.refl _ _)), drew_grown _ _, fun _ => rfl, fun h => (by cases h)⟩ ?_
             refine lx.begin 143 rfl ?_
             refine lx.o_pure (.pointer (some ⟨bb, 0, none⟩)) (fun _ _ h => by first | rfl | kernel_rfl) ?_
             refine lx.o_call allR.val 32 #[] (fun _ _ _ => lx.run_fn rfl rfl rfl (enters_of Try.func32 (by kernel_rfl) rfl)) (fun D X hC => (HAA.out X).mono fun e w2 ⟨he, hw⟩ => ⟨he, by obtain ⟨L2, h1, h3, h4⟩ := hC; exact ⟨L2, h1.below hw, run.grown_trans h3 (grown_below hw gg) (.inl rfl), h4⟩⟩) ?_
             refine lx.o_pure (.int .i64 bY) (fun _ _ h => by first | rfl | kernel_rfl) ?_
             refine lx.o_pure (.int .i64 (Int.tmod bY 1000)) (fun _ _ _ => run_rem rfl rfl rfl (by decide) (by omega)) ?_
             refine lx.o_pure (.int .i64 dd) (fun _ _ _ => lx.run_mul rfl rfl rfl HDD.out (by omega)) ?_
             refine lx.o_pure (.agg #[.int .i32 sf, .int .i32 sb, .int .u8 sa]) (fun D X hC => run_loadrow rfl rfl (HKY.out X hC.choose_spec.2.1) Try.underlying24 rfl (by kernel_rfl)) ?_
             refine lx.o_callE (.tuple #[]) 35 #[.pointer (some ⟨bb, 0, none⟩), allR.val, .int .i64 dd, .agg #[.int .i32 sf, .int .i32 sb, .int .u8 sa]] (fun _ _ _ => lx.run_fn rfl rfl rfl (enters_of Try.func35 (by kernel_rfl) rfl)) (fun D X h0 hC => ?_) ?_
             · obtain ⟨L2, h1, h3, h4, h5⟩ := hC
               obtain rfl := h4 h0
               exact (HSX.out dd (by omega) X h1).mono fun e w2 ⟨he, hb2, hw2⟩ => ⟨he, _, hb2, run.grown_trans h3 hw2 (.inl rfl), (fun h => by cases h), fun _ => rfl⟩
             refine lx.o_end ?_
             simp only [lx.ov]
             rintro X2 d hd ⟨L2, hS, hg, -, h2⟩
             obtain rfl := h2 (hd 6 (by decide))

             go_simp
             go_wp2
             go_meet
             case rel => exact ⟨hS, HB0.out.grown hg HB0.out.size (fun q hq => by simp only [Option.some.injEq] at hq; omega), HKY.out X2 hg⟩
          case rest =>
            obtain ⟨hS, hB, hK⟩ := hcut
            have hSC := screen_any bb gg 64 3 LB wc hS
            unfold scrV at hSC
            have HSC := run.hid hSC
            have HB6 := run.hid hB
            have HK6 := run.hid hK
            clear hS hB hK HSX HFX HBWr HKY HB0 HKSr hSC
            go_wp2_with fail
            refine HSC.out.mono ?_
            rintro e w5 ⟨v, rfl, hrow, hb5⟩
            obtain ⟨a3, c3, rfl⟩ := run.own_value hrow
            have hll : LB.length = 192 := by rw [HLB.out]; exact List.length_replicate
            have hrd : Reads5 w5 (.slice a3 LB.length c3) LB := reads5_own (by rw [hll]; exact hrow)
            have hgb : ∀ i, i < 192 → LB.getD i z0 = bx := fun i hi => by rw [HLB.out, List.getD_eq_getElem?_getD, List.getElem?_replicate, if_pos hi]; rfl
            have hs6 := HB6.out.size
            have hB7 := HB6.out.trans (hb5.mono hs6)
            have hs7 := hB7.size
            have hk7 := (hb5.block w.heap.size (Array.getElem?_eq_some_iff.1 HK6.out).1).trans HK6.out
            obtain ⟨b3, o3, ha3, -, -⟩ := reads_cell hrd (i := 0) (by omega)
            subst ha3
            have hbo := run.below_one w5 (.cells #[.int .i64 64, .int .i64 3, .slice (some ⟨b3, o3, none⟩) 192 c3, .int .i64 0, .int .i64 0, .bool false] 49)
            have HB8 := run.hid (hB7.trans (hbo.mono hs7))
            have HK8 := run.hid ((hbo.block w.heap.size (Array.getElem?_eq_some_iff.1 hk7).1).trans hk7)
            have HQ8 := run.hid (heap_alloc_new w5 (.cells #[.int .i64 64, .int .i64 3, .slice (some ⟨b3, o3, none⟩) 192 c3, .int .i64 0, .int .i64 0, .bool false] 49))
            have HR8 := run.hid (fun i (hi : i < 192) => show Cell5 (w5.alloc (.cells #[.int .i64 64, .int .i64 3, .slice (some ⟨b3, o3, none⟩) 192 c3, .int .i64 0, .int .i64 0, .bool false] 49)) b3 (o3 + i * 5) bx ∧ b3 < (w5.alloc (.cells #[.int .i64 64, .int .i64 3, .slice (some ⟨b3, o3, none⟩) 192 c3, .int .i64 0, .int .i64 0, .bool false] 49)).heap.size from by
              obtain ⟨b', o', e, hlt, h5⟩ := reads_cell hrd (i := i) (by omega)
              simp only [Option.some.injEq, Addr.mk.injEq] at e
              obtain ⟨rfl, rfl, -⟩ := e
              rw [hgb i hi] at h5
              exact ⟨h5.below hbo hlt, by simp; omega⟩)
            have hw8 : w.heap.size < (w5.alloc (.cells #[.int .i64 64, .int .i64 3, .slice (some ⟨b3, o3, none⟩) 192 c3, .int .i64 0, .int .i64 0, .bool false] 49)).heap.size := (Array.getElem?_eq_some_iff.1 HK8.out).1
            have hq8 : w5.heap.size < (w5.alloc (.cells #[.int .i64 64, .int .i64 3, .slice (some ⟨b3, o3, none⟩) 192 c3, .int .i64 0, .int .i64 0, .bool false] 49)).heap.size := (Array.getElem?_eq_some_iff.1 HQ8.out).1
            clear hll hrd hgb hB7 hk7 hbo hrow hb5 HSC HB6 HK6
            go_upto_region 29 with fail
            generalize w5.alloc (.cells #[.int .i64 64, .int .i64 3, .slice (some ⟨b3, o3, none⟩) 192 c3, .int .i64 0, .int .i64 0, .bool false] 49) = w6 at *
            generalize w5.heap.size = sc at *
            go_wp2
            go_loopw [19] (fun vi wr => ∃ i : Nat, i ≤ 192 ∧ vi = .int .i64 i ∧ Below w6.heap.size w6 wr) (fun vi _ => ((192 : Int) - intOf vi).toNat)
            case atStart => exact ⟨0, Nat.zero_le _, rfl, Below.refl _ _⟩
            case round =>
              obtain ⟨i, hi, rfl, hbel⟩ := hrel
              have hkq := (hbel.block _ hq8).trans HQ8.out
              by_cases hil : i < 192
              · have hks := (hbel.block _ hw8).trans HK8.out
                obtain ⟨hc5, hb3⟩ := HR8.out i hil
                have HC5 := run.hid (fun X' (hX' : Below w6.heap.size w6 X') => hc5.below hX' hb3)
                have HKQ := run.hid (fun X' (hX' : Below w6.heap.size w6 X') => (hX'.block _ hq8).trans HQ8.out)
                have HKZ := run.hid (fun X' (hX' : Below w6.heap.size w6 X') => (hX'.block _ hw8).trans HK8.out)
                have q2 := blk_cell hkq 2
                change wr.cell? _ = some (.slice _ 192 _) at q2
                have HBR := run.hid hbel
                clear hc5 hb3 hks hkq hbel HR8
                go_upto_region 32 with fail
                refine lx.region (fun D X => Below w6.heap.size w6 X) (by kernel_rfl) (by kernel_rfl) (by kernel_rfl) (HBR.out.trans (Below.mono (drewB (Below.refl _ _)) HBR.out.size)) ?_
                refine lx.begin 143 rfl ?_
                refine lx.o_pure (.pointer (some ⟨sc, 2, none⟩)) (fun _ _ h => by first | rfl | kernel_rfl) ?_
                refine lx.o_pure (.slice (some ⟨b3, o3, none⟩) 192 c3) (fun D X hC => lx.run_load rfl rfl Try.underlying35 rfl (blk_cell (HKQ.out X hC) 2)) ?_
                refine lx.o_pure (.int .i64 (i : Nat)) (fun _ _ h => by first | rfl | kernel_rfl) ?_
                refine lx.o_pure (.pointer (some ⟨b3, o3 + i * 5, none⟩)) (fun D X hC => run_atk rfl rfl rfl hil hinf hsz) ?_
                refine lx.o_pure (CV.val bx) (fun D X hC => run_load5 rfl rfl (HC5.out X hC)) ?_
                refine lx.o_pure (.agg #[.int .i32 sf, .int .i32 sb, .int .u8 sa]) (fun D X hC => run_loadrow rfl rfl (HKZ.out X hC) Try.underlying24 rfl (by kernel_rfl)) ?_
                refine lx.o_call (CV.val bx) 24 #[.agg #[.int .i32 sf, .int .i32 sb, .int .u8 sa]] (fun _ _ _ => lx.run_fn rfl rfl rfl (enters_of Try.func24 (by kernel_rfl) rfl)) (fun D X hC => (HBL.out X).mono fun e w2 ⟨he, hw⟩ => ⟨he, hC.trans (hw.mono hC.size)⟩) ?_
                refine lx.o_pure (.bool false) (fun D X hC => run_necell_f rfl rfl rfl rfl) ?_
                refine lx.o_end ?_
                simp only [lx.ov]
                rintro X9 d hd hC
                have HF := run.hid hC
                clear HC5 HKQ HKZ hC hd q2
                go_simp
                go_wp2
                go_roundw
                case rel => exact ⟨i + 1, by omega, by go_num, HF.out⟩
                case measure => simp [intOf]; omega
              · obtain rfl : i = 192 := by omega
                have q2 := blk_cell hkq 2
                change wr.cell? _ = some (.slice _ 192 _) at q2
                have HF := run.hid (HB8.out.trans (hbel.mono (by omega)))
                have hsr9 := hbel.size
                clear hkq HR8 hbel
                go_wp2_with fail
                refine (HW.out _).mono ?_
                rintro e w9 ⟨rfl, hb9⟩
                have HF9 := run.hid (HF.out.trans (hb9.mono HF.out.size))
                go_wp2
                exact ⟨rfl, .bool true, by first | kernel_rfl | simp [go_sem, results], rfl, HF9.out⟩
end Go.Proofs.Ytinnggiohalifaa.cel
