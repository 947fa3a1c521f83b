/-
  The walks of the layer cells: is a screen right? The program's and the document's.
-/
import Derived.Test.YtinnggiohalifaaCelRefR
import Derived.Test.YtinnggiohalifaaCelD
import Derived.Test.YtinnggiohalifaaCelC
import Derived.Test.YtinnggiohalifaaLxS
import Derived.Test.YtinnggiohalifaaCelLawNew
namespace Go.Proofs.Ytinnggiohalifaa.cel
open Go Go.RowKit Go.Proofs
set_option linter.unusedVariables false

/-- are the first k rows right? -/
def rowsOk (W : Nat) (L : List CV) (k : Nat) : Bool := (List.range k).all fun y => wholeT ((L.drop (y * W)).take W)
theorem rowsOk_succ (W : Nat) (L : List CV) (k : Nat) : rowsOk W L (k + 1) = (rowsOk W L k && wholeT ((L.drop (k * W)).take W)) := by
  unfold rowsOk
  rw [List.range_succ, List.all_append]
  simp
theorem rowsOk_le {W : Nat} {L : List CV} {k n : Nat} (h : k ≤ n) (hf : rowsOk W L k = false) : rowsOk W L n = false := by
  unfold rowsOk at *
  rw [Bool.eq_false_iff] at *
  intro ht
  apply hf
  rw [List.all_eq_true] at *
  intro y hy
  exact ht y (by simp at hy ⊢; omega)
/-- where a cursor may be -/
def curOk (s : ScrI) : Bool := if s.shown then decide (0 ≤ s.x ∧ s.x < s.w ∧ 0 ≤ s.y ∧ s.y < s.h) else decide (s.x = 0 ∧ s.y = 0)
/-- is a screen right? -/
def rightT (s : ScrI) (L : List CV) : Bool := sizedOk s.w s.h && (decide ((L.length : Int) = s.w * s.h) && (rowsOk s.w.toNat L s.h.toNat && curOk s))

theorem blk6s {w : World} {k : Nat} {t : TypeId} (s : ScrI) (h : w.heap[k]? = some (.cells s.cells t (0, 0))) :
    w.cell? ⟨k, 0, none⟩ = some (.int .i64 s.w) ∧ w.cell? ⟨k, 1, none⟩ = some (.int .i64 s.h) ∧ w.cell? ⟨k, 2, none⟩ = some (.slice s.a s.n s.c) ∧ w.cell? ⟨k, 3, none⟩ = some (.int .i64 s.x) ∧ w.cell? ⟨k, 4, none⟩ = some (.int .i64 s.y) ∧ w.cell? ⟨k, 5, none⟩ = some (.bool s.shown) :=
  ⟨blk_cell h 0, blk_cell h 1, blk_cell h 2, blk_cell h 3, blk_cell h 4, blk_cell h 5⟩

theorem run_part {P : Program} {o : Oper} {ρ : Operand → Value} {w : World} {p q q' : Operand} {a : Option Addr} {len cap i j m size : Nat} {t e : TypeId} {it : TypeInfo} (ho : o.op = .slice t p (some q) (some q') none) (hx : ρ p = .slice a len cap) (hy : ρ q = .int .i64 (i : Nat)) (hy' : ρ q' = .int .i64 (j : Nat)) (hi : j = i + m) (hj : j ≤ cap) (ht : P.underlying t = some (.slice e)) (hs : P.info? e = some it) (hz : it.size = size) :
    (execOp ρ o).run P w = .ok (.value (.slice (subA a cap i size) m (cap - i))) w := by
  subst hi
  have e1 : i + m - i = m := by omega
  unfold execOp
  simp only [ho, hx]
  rw [show (Instr.sliceAt t (.slice a len cap) (Option.map ρ (some q)) (Option.map ρ (some q')) (Option.map ρ none)) = Instr.sliceAt t (.slice a len cap) (some (.int .i64 (i : Nat))) (some (.int .i64 ((i + m : Nat) : Int))) none by simp [hy, hy']]
  have h1 : (0 : Int) ≤ ((i + m : Nat) : Int) ∧ ((i + m : Nat) : Int) ≤ (cap : Int) := by omega
  have h2 : (0 : Int) ≤ ((i : Nat) : Int) ∧ ((i : Nat) : Int) ≤ (((i + m : Nat) : Nat) : Int) := by omega
  have h3 : ((i + m : Nat) : Int).toNat = i + m := by omega
  simp only [Instr.sliceAt, Instr.slice, Instr.sliceBounds, Instr.sliceBound, run_underlying ht, asIntOf, Sem.run_bind, Sem.run_pure, Result.andThen_ok, h1, if_true, h3, h2, Int.toNat_natCast, and_self]
  simp [sizeOf, typeInfo, hs, hz, subA, e1, go_sem]

set_option maxRecDepth 100000 in
set_option maxHeartbeats 8000000 in
theorem scrright_any (s : ScrI) (L : List CV) (w : World) (hn : s.n = L.length) (hR : Reads5 w (.slice s.a s.n s.c) L) (hcap : s.n ≤ s.c) (hL : ∀ c ∈ L, Fit c ∧ c.sty.wf) :
    Calls Try.prog 27 #[.agg s.cells] w fun e w' => e = .returned (.bool (rightT s L)) ∧ Below w.heap.size w w' := by
  obtain ⟨it, hinf, -, hsz, -⟩ := info_parts info_cell
  have hb1 := run.below_one w (.cells s.cells 49)
  have k1 := heap_alloc_new w (.cells s.cells 49)
  have HSZ := run.hid (fun w => sized_any s.w s.h w)
  have HT := run.hid (show rightT s L = (sizedOk s.w s.h && (decide ((L.length : Int) = s.w * s.h) && (rowsOk s.w.toNat L s.h.toNat && curOk s))) from rfl)
  have HCU := run.hid (show curOk s = if s.shown then decide (0 ≤ s.x ∧ s.x < s.w ∧ 0 ≤ s.y ∧ s.y < s.h) else decide (s.x = 0 ∧ s.y = 0) from rfl)
  generalize curOk s = cur at *
  have HRW0 := run.hid (fun (X : World) (h : Below w.heap.size w X) (q m : Nat) (hq : q + m ≤ L.length) (hM : L.length ≤ 1048576) => whole_any (subA s.a s.c q 5) (s.c - q) ((L.drop q).take m) X (by
      have hlen : ((L.drop q).take m).length = m := by rw [List.length_take, List.length_drop]; omega
      rw [hlen]; exact reads5_sub (by rw [← hn]; exact hR.below h) (by omega) hq) (by rw [List.length_take, List.length_drop]; omega) (by rw [List.length_take, List.length_drop]; omega) (fun d hd => (hL d (List.mem_of_mem_drop (List.mem_of_mem_take hd))).1))
  clear hR hL
  obtain ⟨w', h', a, n, c, x, yy, sh⟩ := s
  dsimp only at *
  subst hn
  obtain ⟨n, hn⟩ : ∃ n, n = L.length := ⟨_, rfl⟩
  rw [← hn] at k1 hb1 hcap HRW0 HT ⊢
  have HN := run.hid hn
  clear hn
  unfold ScrI.cells at *
  dsimp only at *
  obtain ⟨c0, c1, c2, c3, c4, c5⟩ := (blk6 k1).1
  have KK := run.hid (And.intro hb1 k1)
  clear hb1 k1
  cases hsd : sizedOk w' h' with
  | false =>
    rw [hsd] at HT HSZ
    clear hsd HRW0
    go_enter Try.func27, Try.ntmps27
    go_wp2_with fail
    refine (HSZ.out _).mono ?_
    rintro e w2 ⟨rfl, rfl⟩
    have hB := KK.out.1
    clear KK
    go_wp2
    go_ret
    exact ⟨by rw [HT.out]; try rfl, hB⟩
  | true =>
    rw [hsd] at HT HSZ
    unfold sizedOk at hsd
    simp only [decide_eq_true_eq] at hsd
    obtain ⟨g1, g2, g3, g4, g5⟩ := hsd
    obtain ⟨W, rfl⟩ : ∃ k : Nat, w' = k := ⟨w'.toNat, by omega⟩
    obtain ⟨H, rfl⟩ : ∃ k : Nat, h' = k := ⟨h'.toNat, by omega⟩
    simp only [Int.toNat_natCast] at HT
    have hqq := Int.natCast_mul W H
    obtain ⟨Q, hQ⟩ : ∃ Q, Q = W * H := ⟨_, rfl⟩
    rw [← hQ] at hqq
    have hQn : Q ≤ 1048576 := by rw [← hqq] at g5; omega
    have hmul := mul_is 3 hqq.symm (by omega)
    rw [← hqq] at HT
    have HQ := run.hid hQ
    have HQ2 := run.hid hqq
    clear hQ hqq g5
    by_cases hnq : n = Q
    · subst hnq
      have hmul2 := hmul
      go_enter Try.func27, Try.ntmps27
      go_wp2_with fail
      refine (HSZ.out _).mono ?_
      rintro e w2 ⟨rfl, rfl⟩
      have HW1 : Hid ((w.alloc (.cells #[.int .i64 W, .int .i64 H, .slice a n c, .int .i64 x, .int .i64 yy, .bool sh] 49)).heap.size = w.heap.size + 1) := by show _ = _; simp
      go_wp2
      generalize w.alloc (.cells #[.int .i64 W, .int .i64 H, .slice a n c, .int .i64 x, .int .i64 yy, .bool sh] 49) = w1 at *
      have HZ := run.hid c0
      clear hmul hmul2 HSZ c0 c1 c2 c3 c4 c5
      generalize hp : w.heap.size = p at *
      go_loopw [23] (fun vi wr => ∃ y : Nat, y ≤ H ∧ vi = .int .i64 y ∧ Hid (rowsOk W L y = true) ∧ Below (p + 1) w1 wr) (fun vi _ => ((H : Int) - intOf vi).toNat)
      case atStart => exact ⟨0, Nat.zero_le _, rfl, run.hid rfl, Below.refl _ _⟩
      case round =>
        obtain ⟨y, hy, rfl, HI, hbel⟩ := hrel
        have hs1 := hbel.size
        rw [HW1.out] at hs1
        have KP := run.hid (And.intro ((hbel.block p (by omega)).trans KK.out.2) (show p < wr.heap.size by omega))
        have HBL := run.hid (show Below p w wr from KK.out.1.trans (hbel.mono (by omega)))
        have HBW := run.hid hbel
        clear hbel
        by_cases hlt : y < H
        · have hq : ((y * W : Nat) : Int) = (y : Int) * W := Int.natCast_mul y W
          obtain ⟨q, hq2⟩ : ∃ q, q = y * W := ⟨_, rfl⟩
          have hqn : q + W ≤ n := by
            have h1 := Nat.mul_le_mul_right W (show y + 1 ≤ H by omega)
            rw [Nat.add_mul, Nat.one_mul, Nat.mul_comm H W, ← hq2, ← HQ.out] at h1
            exact h1
          have HRW := run.hid (fun X h => HRW0.out X h q W hqn hQn)
          have hlen : ((L.drop q).take W).length = W := by rw [List.length_take, List.length_drop, ← HN.out]; omega
          rw [hlen] at HRW
          have HSU := run.hid (rowsOk_succ W L y)
          rw [← hq2] at hq HSU
          have HLE := run.hid (fun h => rowsOk_le (W := W) (L := L) (k := y + 1) (n := H) (by omega) h)
          clear hq2 HRW0 HQ hlen
          generalize wholeT ((L.drop q).take W) = ok at *
          skip
          go_upto_region 6 with fail
          refine lx.region (fun D X => Below wr.heap.size wr X) (by kernel_rfl) (by kernel_rfl) (by kernel_rfl) (drewB (Below.refl _ _)) ?_
          refine lx.begin 72 rfl ?_
          refine lx.o_pure (.pointer (some ⟨p, 2, none⟩)) (fun _ _ h => by first | rfl | kernel_rfl) ?_
          refine lx.o_pure (.slice a n c) (fun D X hC => lx.run_load rfl rfl Try.underlying35 rfl (blk_cell (hC.b4 KP.out) 2)) ?_
          refine lx.o_pure (.int .i64 (y : Nat)) (fun _ _ h => by first | rfl | kernel_rfl) ?_
          refine lx.o_pure (.pointer (some ⟨p, 0, none⟩)) (fun _ _ h => by first | rfl | kernel_rfl) ?_
          refine lx.o_pure (.int .i64 (W : Nat)) (fun D X hC => lx.run_load rfl rfl Try.underlying3 rfl (blk_cell (hC.b4 KP.out) 0)) ?_
          refine lx.o_pure (.int .i64 (q : Nat)) (fun D X hC => lx.run_mul rfl rfl rfl hq.symm (by omega)) ?_
          refine lx.o_pure (.slice (subA a c q 5) (n - q) (c - q)) (fun D X hC => run_from rfl rfl rfl (by omega) Try.underlying35 hinf hsz) ?_
          refine lx.o_pure (.pointer (some ⟨p, 0, none⟩)) (fun _ _ h => by first | rfl | kernel_rfl) ?_
          refine lx.o_pure (.int .i64 (W : Nat)) (fun D X hC => lx.run_load rfl rfl Try.underlying3 rfl (blk_cell (hC.b4 KP.out) 0)) ?_
          refine lx.o_pure (.slice (subA a c q 5) W (c - q)) (fun D X hC => run_upto rfl rfl rfl (by omega) Try.underlying35 hinf hsz) ?_
          refine lx.o_call (.bool ok) 50 #[.slice (subA a c q 5) W (c - q)] (fun _ _ _ => lx.run_fn rfl rfl rfl (enters_of Try.func50 (by kernel_rfl) rfl)) (fun D X hC => (HRW.out X (HBL.out.trans (hC.mono (by omega)))).mono fun e w2 ⟨he, hw⟩ => ⟨he, hC.trans (hw.mono (by have := hC.size; omega))⟩) ?_
          refine lx.o_pure (.bool (!ok)) (fun D X hC => by first | rfl | kernel_rfl) ?_
          refine lx.o_end ?_
          simp only [lx.ov]
          rintro X d hd hC
          have HF := run.hid (HBW.out.trans (hC.mono (by omega)))
          have HFB := run.hid (HBL.out.trans (hC.mono (by omega)))
          clear hC hd HRW KP
          cases ok with
          | true =>
            have HK : Hid (rowsOk W L (y + 1) = true) := by show _ = _; rw [HSU.out, HI.out]; rfl
            clear HSU HLE HI
            go_simp
            go_wp2
            go_roundw
            case rel => exact ⟨y + 1, by omega, by go_num, HK, HF.out⟩
            case measure => simp [intOf]; omega
          | false =>
            have HK : Hid (rowsOk W L H = false) := by
              show _ = _
              exact HLE.out (by rw [HSU.out, HI.out]; rfl)
            clear HSU HLE HI
            go_simp
            go_wp2
            go_ret
            exact ⟨by rw [HT.out, HK.out]; simp, by rw [hp]; exact HFB.out⟩
        · obtain rfl : y = H := by omega
          replace HT : Hid (rightT ⟨W, y, a, n, c, x, yy, sh⟩ L = cur) := by show _ = _; rw [HT.out, HI.out]; simp
          obtain ⟨⟨d0, d1, d2, d3, d4, d5⟩, -⟩ := blk6 KP.out.1
          rw [HCU.out] at HT
          have HBF := run.hid HBL.out
          clear HRW0 HQ HI KP HBL HBW HCU HN KK
          cases sh with
          | false =>
            simp only [Bool.false_eq_true, if_false] at HT
            by_cases e1 : x = 0
            · subst e1
              by_cases e2 : yy = 0
              · subst e2
                go_wp2
                go_ret
                exact ⟨by rw [HT.out]; simp; try omega, by first | exact HBF.out | (rw [hp]; exact HBF.out)⟩
              · go_wp2
                go_ret
                exact ⟨by rw [HT.out]; simp [e2]; try omega, by first | exact HBF.out | (rw [hp]; exact HBF.out)⟩
            · go_wp2
              go_ret
              exact ⟨by rw [HT.out]; simp [e1]; try omega, by first | exact HBF.out | (rw [hp]; exact HBF.out)⟩
          | true =>
            simp only [if_true] at HT
            by_cases e1 : 0 ≤ x
            · by_cases e2 : x < W
              · by_cases e3 : 0 ≤ yy
                · by_cases e4 : yy < y
                  · go_wp2
                    go_ret
                    exact ⟨by rw [HT.out]; simp [e1, e2, e3, e4]; try omega, by first | exact HBF.out | (rw [hp]; exact HBF.out)⟩
                  · go_wp2
                    go_ret
                    exact ⟨by rw [HT.out]; simp [e1, e2, e3, e4]; try omega, by first | exact HBF.out | (rw [hp]; exact HBF.out)⟩
                · go_wp2
                  go_ret
                  exact ⟨by rw [HT.out]; simp [e1, e2]; try omega, by first | exact HBF.out | (rw [hp]; exact HBF.out)⟩
              · go_wp2
                go_ret
                exact ⟨by rw [HT.out]; simp [e1]; try omega, by first | exact HBF.out | (rw [hp]; exact HBF.out)⟩
            · go_wp2
              go_ret
              exact ⟨by rw [HT.out]; simp; try omega, by first | exact HBF.out | (rw [hp]; exact HBF.out)⟩
    · have hne : ¬ ((n : Int) = (Q : Int)) := by omega
      have HT2 : Hid (rightT ⟨W, H, a, n, c, x, yy, sh⟩ L = false) := by show _ = _; rw [HT.out, decide_eq_false hne]; rfl
      have hbne : ((n : Int) != (Q : Int)) = true := by simp [bne, hne]
      clear HT HRW0 HN HQ HCU
      go_enter Try.func27, Try.ntmps27
      go_wp2_with fail
      refine (HSZ.out _).mono ?_
      rintro e w2 ⟨rfl, rfl⟩
      have hB := KK.out.1
      clear KK
      go_wp2
      go_ret
      exact ⟨by rw [HT2.out]; try rfl, hB⟩

set_option maxRecDepth 100000 in
set_option maxHeartbeats 8000000 in
theorem refright19_any (s : ScrI) (L : List CV) (w : World) (hn : s.n = L.length) (hR : Reads5 w (.slice s.a s.n s.c) L) (hcap : s.n ≤ s.c) (hL : ∀ c ∈ L, Fit c ∧ c.sty.wf) :
    Calls Try.prog 28 #[.agg s.cells] w fun e w' => e = .returned (.bool (rightT s L)) ∧ Below w.heap.size w w' := by
  obtain ⟨it, hinf, -, hsz, -⟩ := info_parts info_cell
  have hb1 := run.below_one w (.cells s.cells 49)
  have k1 := heap_alloc_new w (.cells s.cells 49)
  have HSZ := run.hid (fun w => refsize_any s.w s.h w)
  have HT := run.hid (show rightT s L = (sizedOk s.w s.h && (decide ((L.length : Int) = s.w * s.h) && (rowsOk s.w.toNat L s.h.toNat && curOk s))) from rfl)
  have HCU := run.hid (show curOk s = if s.shown then decide (0 ≤ s.x ∧ s.x < s.w ∧ 0 ≤ s.y ∧ s.y < s.h) else decide (s.x = 0 ∧ s.y = 0) from rfl)
  generalize curOk s = cur at *
  have HRW0 := run.hid (fun (X : World) (h : Below w.heap.size w X) (q m : Nat) (hq : q + m ≤ L.length) (hM : L.length ≤ 1048576) => refrow_any (subA s.a s.c q 5) (s.c - q) ((L.drop q).take m) X (by
      have hlen : ((L.drop q).take m).length = m := by rw [List.length_take, List.length_drop]; omega
      rw [hlen]; exact reads5_sub (by rw [← hn]; exact hR.below h) (by omega) hq) (by rw [List.length_take, List.length_drop]; omega) (fun d hd => hL d (List.mem_of_mem_drop (List.mem_of_mem_take hd))))
  clear hR hL
  obtain ⟨w', h', a, n, c, x, yy, sh⟩ := s
  dsimp only at *
  subst hn
  obtain ⟨n, hn⟩ : ∃ n, n = L.length := ⟨_, rfl⟩
  rw [← hn] at k1 hb1 hcap HRW0 HT ⊢
  have HN := run.hid hn
  clear hn
  unfold ScrI.cells at *
  dsimp only at *
  obtain ⟨c0, c1, c2, c3, c4, c5⟩ := (blk6 k1).1
  have KK := run.hid (And.intro hb1 k1)
  clear hb1 k1
  cases hsd : sizedOk w' h' with
  | false =>
    rw [hsd] at HT HSZ
    clear hsd HRW0
    go_enter Try.func28, Try.ntmps28
    go_wp2_with fail
    refine (HSZ.out _).mono ?_
    rintro e w2 ⟨rfl, rfl⟩
    have hB := KK.out.1
    clear KK
    go_wp2
    go_ret
    exact ⟨by rw [HT.out]; try rfl, hB⟩
  | true =>
    rw [hsd] at HT HSZ
    unfold sizedOk at hsd
    simp only [decide_eq_true_eq] at hsd
    obtain ⟨g1, g2, g3, g4, g5⟩ := hsd
    obtain ⟨W, rfl⟩ : ∃ k : Nat, w' = k := ⟨w'.toNat, by omega⟩
    obtain ⟨H, rfl⟩ : ∃ k : Nat, h' = k := ⟨h'.toNat, by omega⟩
    simp only [Int.toNat_natCast] at HT
    have hqq := Int.natCast_mul W H
    obtain ⟨Q, hQ⟩ : ∃ Q, Q = W * H := ⟨_, rfl⟩
    rw [← hQ] at hqq
    have hQn : Q ≤ 1048576 := by rw [← hqq] at g5; omega
    have hmul := mul_is 3 hqq.symm (by omega)
    rw [← hqq] at HT
    have HQ := run.hid hQ
    have HQ2 := run.hid hqq
    clear hQ hqq g5
    by_cases hnq : n = Q
    · subst hnq
      have hmul2 := hmul
      go_enter Try.func28, Try.ntmps28
      go_wp2_with fail
      refine (HSZ.out _).mono ?_
      rintro e w2 ⟨rfl, rfl⟩
      have HW1 : Hid ((w.alloc (.cells #[.int .i64 W, .int .i64 H, .slice a n c, .int .i64 x, .int .i64 yy, .bool sh] 49)).heap.size = w.heap.size + 1) := by show _ = _; simp
      go_wp2
      generalize w.alloc (.cells #[.int .i64 W, .int .i64 H, .slice a n c, .int .i64 x, .int .i64 yy, .bool sh] 49) = w1 at *
      have HZ := run.hid c0
      clear hmul hmul2 HSZ c0 c1 c2 c3 c4 c5
      generalize hp : w.heap.size = p at *
      go_loopw [3] (fun vi wr => ∃ y : Nat, y ≤ H ∧ vi = .int .i64 y ∧ Hid (rowsOk W L y = true) ∧ Below (p + 1) w1 wr) (fun vi _ => ((H : Int) - intOf vi).toNat)
      case atStart => exact ⟨0, Nat.zero_le _, rfl, run.hid rfl, Below.refl _ _⟩
      case round =>
        obtain ⟨y, hy, rfl, HI, hbel⟩ := hrel
        have hs1 := hbel.size
        rw [HW1.out] at hs1
        have KP := run.hid (And.intro ((hbel.block p (by omega)).trans KK.out.2) (show p < wr.heap.size by omega))
        have HBL := run.hid (show Below p w wr from KK.out.1.trans (hbel.mono (by omega)))
        have HBW := run.hid hbel
        clear hbel
        by_cases hlt : y < H
        · have hq : ((y * W : Nat) : Int) = (y : Int) * W := Int.natCast_mul y W
          obtain ⟨q, hq2⟩ : ∃ q, q = y * W := ⟨_, rfl⟩
          have hqn : q + W ≤ n := by
            have h1 := Nat.mul_le_mul_right W (show y + 1 ≤ H by omega)
            rw [Nat.add_mul, Nat.one_mul, Nat.mul_comm H W, ← hq2, ← HQ.out] at h1
            exact h1
          have HRW := run.hid (fun X h => HRW0.out X h q W hqn hQn)
          have hlen : ((L.drop q).take W).length = W := by rw [List.length_take, List.length_drop, ← HN.out]; omega
          rw [hlen] at HRW
          have HSU := run.hid (rowsOk_succ W L y)
          rw [← hq2] at hq HSU
          have HLE := run.hid (fun h => rowsOk_le (W := W) (L := L) (k := y + 1) (n := H) (by omega) h)
          clear hq2 HRW0 HQ hlen
          generalize wholeT ((L.drop q).take W) = ok at *
          have hz0 := blk_cell KP.out.1 1
          change wr.cell? _ = some (.int .i64 (H : Nat)) at hz0
          go_upto_region 6 with fail
          refine lx.straight (fun D X => Below wr.heap.size wr X) (by kernel_rfl) (Below.refl _ _) ?_
          refine lx.begin 75 rfl ?_
          refine lx.o_pure (.pointer (some ⟨p, 2, none⟩)) (fun _ _ h => by first | rfl | kernel_rfl) ?_
          refine lx.o_pure (.slice a n c) (fun D X hC => lx.run_load rfl rfl Try.underlying35 rfl (blk_cell (hC.b4 KP.out) 2)) ?_
          refine lx.o_pure (.int .i64 (y : Nat)) (fun _ _ h => by first | rfl | kernel_rfl) ?_
          refine lx.o_pure (.pointer (some ⟨p, 0, none⟩)) (fun _ _ h => by first | rfl | kernel_rfl) ?_
          refine lx.o_pure (.int .i64 (W : Nat)) (fun D X hC => lx.run_load rfl rfl Try.underlying3 rfl (blk_cell (hC.b4 KP.out) 0)) ?_
          refine lx.o_pure (.int .i64 (q : Nat)) (fun D X hC => lx.run_mul rfl rfl rfl hq.symm (by omega)) ?_
          refine lx.o_pure (.int .i64 (y : Nat)) (fun _ _ h => by first | rfl | kernel_rfl) ?_
          refine lx.o_pure (.pointer (some ⟨p, 0, none⟩)) (fun _ _ h => by first | rfl | kernel_rfl) ?_
          refine lx.o_pure (.int .i64 (W : Nat)) (fun D X hC => lx.run_load rfl rfl Try.underlying3 rfl (blk_cell (hC.b4 KP.out) 0)) ?_
          refine lx.o_pure (.int .i64 (q : Nat)) (fun D X hC => lx.run_mul rfl rfl rfl hq.symm (by omega)) ?_
          refine lx.o_pure (.pointer (some ⟨p, 0, none⟩)) (fun _ _ h => by first | rfl | kernel_rfl) ?_
          refine lx.o_pure (.int .i64 (W : Nat)) (fun D X hC => lx.run_load rfl rfl Try.underlying3 rfl (blk_cell (hC.b4 KP.out) 0)) ?_
          refine lx.o_pure (.int .i64 ((q + W : Nat) : Int)) (fun D X hC => lx.run_add rfl rfl rfl (by omega) (by push_cast; rfl)) ?_
          refine lx.o_pure (.slice (subA a c q 5) W (c - q)) (fun D X hC => run_part rfl rfl rfl rfl (by omega) (by omega) Try.underlying35 hinf hsz) ?_
          refine lx.o_call (.bool ok) 51 #[.slice (subA a c q 5) W (c - q)] (fun _ _ _ => lx.run_fn rfl rfl rfl (enters_of Try.func51 (by kernel_rfl) rfl)) (fun D X hC => (HRW.out X (HBL.out.trans (hC.mono (by omega)))).mono fun e w2 ⟨he, hw⟩ => ⟨he, hC.trans (hw.mono (by have := hC.size; omega))⟩) ?_
          refine lx.o_pure (.bool (!ok)) (fun D X hC => by first | rfl | kernel_rfl) ?_
          refine lx.o_end ?_
          simp only [lx.ov]
          rintro X d hd hC
          have HF := run.hid (HBW.out.trans (hC.mono (by omega)))
          have HFB := run.hid (HBL.out.trans (hC.mono (by omega)))
          clear hC hd HRW KP
          cases ok with
          | true =>
            have HK : Hid (rowsOk W L (y + 1) = true) := by show _ = _; rw [HSU.out, HI.out]; rfl
            clear HSU HLE HI
            go_simp
            go_wp2
            go_roundw
            case rel => exact ⟨y + 1, by omega, by go_num, HK, HF.out⟩
            case measure => simp [intOf]; omega
          | false =>
            have HK : Hid (rowsOk W L H = false) := by
              show _ = _
              exact HLE.out (by rw [HSU.out, HI.out]; rfl)
            clear HSU HLE HI
            go_simp
            go_wp2
            go_ret
            exact ⟨by rw [HT.out, HK.out]; simp, by rw [hp]; exact HFB.out⟩
        · obtain rfl : y = H := by omega
          replace HT : Hid (rightT ⟨W, y, a, n, c, x, yy, sh⟩ L = cur) := by show _ = _; rw [HT.out, HI.out]; simp
          obtain ⟨⟨d0, d1, d2, d3, d4, d5⟩, -⟩ := blk6 KP.out.1
          rw [HCU.out] at HT
          have HBF := run.hid HBL.out
          clear HRW0 HQ HI KP HBL HBW HCU HN KK
          cases sh with
          | false =>
            simp only [Bool.false_eq_true, if_false] at HT
            by_cases e1 : x = 0
            · subst e1
              by_cases e2 : yy = 0
              · subst e2
                go_wp2
                go_ret
                exact ⟨by rw [HT.out]; simp; try omega, by first | exact HBF.out | (rw [hp]; exact HBF.out)⟩
              · go_wp2
                go_ret
                exact ⟨by rw [HT.out]; simp [e2]; try omega, by first | exact HBF.out | (rw [hp]; exact HBF.out)⟩
            · go_wp2
              go_ret
              exact ⟨by rw [HT.out]; simp [e1]; try omega, by first | exact HBF.out | (rw [hp]; exact HBF.out)⟩
          | true =>
            simp only [if_true] at HT
            by_cases e1 : 0 ≤ x
            · by_cases e2 : x < W
              · by_cases e3 : 0 ≤ yy
                · by_cases e4 : yy < y
                  · go_wp2
                    go_ret
                    exact ⟨by rw [HT.out]; simp [e1, e2, e3, e4]; try omega, by first | exact HBF.out | (rw [hp]; exact HBF.out)⟩
                  · go_wp2
                    go_ret
                    exact ⟨by rw [HT.out]; simp [e1, e2, e3, e4]; try omega, by first | exact HBF.out | (rw [hp]; exact HBF.out)⟩
                · go_wp2
                  go_ret
                  exact ⟨by rw [HT.out]; simp [e1, e2]; try omega, by first | exact HBF.out | (rw [hp]; exact HBF.out)⟩
              · go_wp2
                go_ret
                exact ⟨by rw [HT.out]; simp [e1]; try omega, by first | exact HBF.out | (rw [hp]; exact HBF.out)⟩
            · go_wp2
              go_ret
              exact ⟨by rw [HT.out]; simp; try omega, by first | exact HBF.out | (rw [hp]; exact HBF.out)⟩
    · have hne : ¬ ((n : Int) = (Q : Int)) := by omega
      have HT2 : Hid (rightT ⟨W, H, a, n, c, x, yy, sh⟩ L = false) := by show _ = _; rw [HT.out, decide_eq_false hne]; rfl
      have hbne : ((n : Int) != (Q : Int)) = true := by simp [bne, hne]
      clear HT HRW0 HN HQ HCU
      go_enter Try.func28, Try.ntmps28
      go_wp2_with fail
      refine (HSZ.out _).mono ?_
      rintro e w2 ⟨rfl, rfl⟩
      have hB := KK.out.1
      clear KK
      go_wp2
      go_ret
      exact ⟨by rw [HT2.out]; try rfl, hB⟩
end Go.Proofs.Ytinnggiohalifaa.cel
