/-
  The walks of a gap's methods (string). (Printed by gen_edgap.py.)
-/
import Derived.Test.YtgpgbbbcodnieaaEdA
import Derived.Test.YtgpgbbbcodnieaaProg
import Derived.Deep.DeepCutAuto
import Derived.WalkSmall
import Derived.Shelf.Abstract
import Derived.Lib.MinMax
import Derived.BigQuiet
namespace Go.Proofs.Ytgpgbbbcodnieaa.edS
open Go Go.RowKit Go.Proofs Go.Proofs.Ytgpgbbbcodnieaa.ed
set_option linter.unusedVariables false
abbrev G := GA 59 9 1
theorem info : (Try.prog.info? 9).map (fun i => (i.zero, i.size, i.bytes)) = some (some (.string ⟨#[]⟩), 1, 16) := by kernel_rfl
section
variable {o : Oper} {ρ : Operand → Value} {w : World} {p q : Operand} {t t' : TypeId}
theorem lx_lss {x y : Int} (ho : o.op = .binOp .lss t p q t') (hx : ρ p = .int .i64 x) (hy : ρ q = .int .i64 y) : (execOp ρ o).run Try.prog w = .ok (.value (.bool (decide (x < y)))) w := by
  unfold execOp
  simp only [ho, hx, hy]
  simp [go_sem]
theorem run_storeI {b i : Nat} {x : Int} {A : Array Value} {t2 : TypeId} (ho : o.op = .store 3 p q) (hx : ρ p = .pointer (some ⟨b, i, none⟩)) (hy : ρ q = .int .i64 x) (hb : w.heap[b]? = some (.cells A t2 (0, 0))) (hi : i < A.size) : (execOp ρ o).run Try.prog w = .ok .skip (w.setCell ⟨b, i, none⟩ (.int .i64 x)) := by
  have c : w.cell? ⟨b, i, none⟩ = some A[i] := by rw [blk_cell hb, Array.getElem?_eq_getElem hi]
  have f := blk_free hb i
  unfold execOp
  simp only [ho, hx, hy]
  simp [go_sem, c, f]
theorem run_lenG {s : Operand} {b n c : Nat} (ho : o.op = .call { callee := .builtin .len, args := #[s], argTypes := #[52] }) (hs : ρ s = .slice (some ⟨b, 0, none⟩) n c) : (execOp ρ o).run Try.prog w = .ok (.value (.int .i64 (n : Nat))) w := by
  unfold execOp
  simp only [ho]
  simp [hs, resolve, invoke, builtin, Builtin.len_, go_sem]
theorem lx_lss_b {x y : Int} {b : Bool} (ho : o.op = .binOp .lss t p q t') (hx : ρ p = .int .i64 x) (hy : ρ q = .int .i64 y) (h : decide (x < y) = b) : (execOp ρ o).run Try.prog w = .ok (.value (.bool b)) w := by rw [lx_lss ho hx hy, h]
theorem lx_lss_t {x y : Int} (ho : o.op = .binOp .lss t p q t') (hx : ρ p = .int .i64 x) (hy : ρ q = .int .i64 y) (h : x < y) : (execOp ρ o).run Try.prog w = .ok (.value (.bool true)) w := by rw [lx_lss ho hx hy, decide_eq_true h]
theorem lx_lss_f {x y : Int} (ho : o.op = .binOp .lss t p q t') (hx : ρ p = .int .i64 x) (hy : ρ q = .int .i64 y) (h : ¬ x < y) : (execOp ρ o).run Try.prog w = .ok (.value (.bool false)) w := by rw [lx_lss ho hx hy, decide_eq_false h]
end
set_option maxRecDepth 100000 in
set_option maxHeartbeats 2000000 in
theorem len_any {g lb n cap F U : Nat} {A : List Value} {w : World} (h : G g lb n cap F U A w) (hn : n ≤ 140737488355328) :
    Calls Try.prog 13 #[.pointer (some ⟨g, 0, none⟩)] w fun e w' => e = .returned (.int .i64 ((F + (n - U) : Nat) : Int)) ∧ Same w w' := by
  have g0 := blk_cell h.hg 0
  have g1 := blk_cell h.hg 1
  have g2 := blk_cell h.hg 2
  change w.cell? _ = some (.slice (some ⟨lb, 0, none⟩) n cap) at g0
  change w.cell? _ = some (.int .i64 (F : Nat)) at g1
  change w.cell? _ = some (.int .i64 (U : Nat)) at g2
  have hfu := h.fu
  have hun := h.un
  have hv : ((F + (n - U) : Nat) : Int) = (F : Int) + (n : Int) - (U : Int) := by omega
  rw [hv]
  have hF : (F : Int) ≤ 140737488355328 := by omega
  have hU : (U : Int) ≤ 140737488355328 := by omega
  have hN : (n : Int) ≤ 140737488355328 := by omega
  clear h hv
  go_enter Try.func13, Try.ntmps13
  go_upto_region 3 with fail
  go_quiet (fail)
  go_wp2
  go_ret
  exact ⟨rfl, ⟨rfl, rfl, rfl, rfl⟩⟩
set_option maxRecDepth 100000 in
set_option maxHeartbeats 8000000 in
theorem open_any {g lb n cap F U : Nat} {A C : List Value} {w : World} (h : G g lb n cap F U A w) (hc : HasC (n * 1) (F * 1) (U * 1) A C) (hone : ∀ v ∈ C, v.oneCell' = true) (i room : Nat) (hi : i ≤ F + (n - U)) (hn : n ≤ 1099511627776) (hroom : room ≤ 1099511627776) :
    Calls Try.prog 34 #[.pointer (some ⟨g, 0, none⟩), .int .i64 (i : Nat), .int .i64 (room : Nat)] w fun e w' => e = .returned (.tuple #[]) ∧ ∃ lb' n' cap' U' A', G g lb' n' cap' i U' A' w' ∧ HasC (n' * 1) (i * 1) (U' * 1) A' C ∧ i + room ≤ U' ∧ i + (n' - U') = F + (n - U) ∧ (lb' = lb ∨ w.heap.size ≤ lb') ∧ n' ≤ max n (2 * (F + (n - U)) + room) ∧ Kept (fun b => b = g ∨ b = lb) w w' := by
  obtain ⟨it, hinf, hz0, hsz, hby⟩ := info_parts info
  have hfu := h.fu
  have hun := h.un
  have hnc := h.nc
  have HG := run.hid h
  have HC := run.hid hc
  have HO := run.hid hone
  have HLEN := run.hid (fun (X : World) (hX : Same w X) => len_any (Same.ga h hX) (by omega))
  have hszA := h.sz
  have hglt := (Array.getElem?_eq_some_iff.1 h.hg).1
  have hllt := (Array.getElem?_eq_some_iff.1 h.hl).1
  have hcap1 : F * 1 ≤ cap * 1 := Nat.mul_le_mul_right _ (by omega)
  have HSA := run.hid (show ∀ v ∈ (A.drop (0 * 1)).take (F * 1), v.oneCell' = true from fun v hv => hone v (has_ahead hc (by omega) (by omega) (by omega) (by omega) v hv))
  have HSB := run.hid (show ∀ v ∈ (A.drop (U * 1)).take ((n - U) * 1), v.oneCell' = true from fun v hv => hone v (has_behind hc (by omega) (by omega) (by omega) (by omega) (by omega) v hv))
  clear h hc hone hszA hcap1
  go_enter Try.func34, Try.ntmps34
  go_upto_region 0 with fail
  obtain ⟨bb, hbb⟩ : ∃ bb : Bool, decide (((U - F : Nat) : Int) < (room : Int)) = bb := ⟨_, rfl⟩
  have HBB := run.hid hbb
  clear hbb
  refine lx.region (fun D X => Same w X) (by kernel_rfl) (by kernel_rfl) (by kernel_rfl) (Same.drew (Same.refl w)) ?_
  refine lx.begin 168 rfl ?_
  refine lx.o_pure (.pointer (some ⟨g, 0, none⟩)) (fun _ _ h => by first | rfl | kernel_rfl) ?_
  refine lx.o_pure (.pointer (some ⟨g, 0, none⟩)) (fun _ _ h => by first | rfl | kernel_rfl) ?_
  refine lx.o_pure (.pointer (some ⟨g, 2, none⟩)) (fun _ _ h => by first | rfl | kernel_rfl) ?_
  refine lx.o_pure (.int .i64 (U : Nat)) (fun D X hC => lx.run_load rfl rfl Try.underlying3 rfl (blk_cell (by rw [hC.heap]; exact HG.out.hg) 2)) ?_
  refine lx.o_pure (.pointer (some ⟨g, 0, none⟩)) (fun _ _ h => by first | rfl | kernel_rfl) ?_
  refine lx.o_pure (.pointer (some ⟨g, 0, none⟩)) (fun _ _ h => by first | rfl | kernel_rfl) ?_
  refine lx.o_pure (.pointer (some ⟨g, 1, none⟩)) (fun _ _ h => by first | rfl | kernel_rfl) ?_
  refine lx.o_pure (.int .i64 (F : Nat)) (fun D X hC => lx.run_load rfl rfl Try.underlying3 rfl (blk_cell (by rw [hC.heap]; exact HG.out.hg) 1)) ?_
  refine lx.o_pure (.int .i64 ((U - F : Nat) : Int)) (fun D X hC => lx.run_sub rfl rfl rfl (by omega) (by omega)) ?_
  refine lx.o_pure (.int .i64 (room : Nat)) (fun _ _ h => by first | rfl | kernel_rfl) ?_
  refine lx.o_pure (.bool bb) (fun D X hC => lx_lss_b rfl rfl rfl HBB.out) ?_
  refine lx.o_end ?_
  simp only [lx.ov]
  rintro X d9 hd9 hX
  clear hd9
  go_simp
  have HG0 := run.hid (Same.ga HG.out hX)
  have HK0 := run.hid (Same.kept (S := fun b => b = g ∨ b = lb) (Kept.refl _ w) hX)
  have HSM := run.hid hX
  clear hX
  go_upto_if 20 with fail
  go_cut [6] (fun c wx => ∃ lb1 n1 cap1 U1 A1, G g lb1 n1 cap1 F U1 A1 wx ∧ HasC (n1 * 1) (F * 1) (U1 * 1) A1 C ∧ F + room ≤ U1 ∧ F + (n1 - U1) = F + (n - U) ∧ (lb1 = lb ∨ w.heap.size ≤ lb1) ∧ n1 ≤ max n (2 * (F + (n - U)) + room) ∧ Kept (fun b => b = g ∨ b = lb) w wx)
  case first =>
    cases bb with
    | false =>
      have hr : F + room ≤ U := by have := of_decide_eq_false HBB.out; omega
      go_wp2
      go_meet
      case rel => exact ⟨lb, n, cap, U, A, HG0.out, HC.out, hr, rfl, .inl rfl, by omega, HK0.out⟩
    | true =>
      have hr : U < F + room := by have := of_decide_eq_true HBB.out; omega
      obtain ⟨N, hN⟩ : ∃ N, N = F + (n - U) := ⟨_, rfl⟩
      obtain ⟨M, hM⟩ : ∃ M, M = 2 * N + room := ⟨_, rfl⟩
      obtain ⟨bh, hbh⟩ : ∃ bh, bh = n - U := ⟨_, rfl⟩
      obtain ⟨l2, hl2⟩ : ∃ l2, l2 = X.heap.size := ⟨_, rfl⟩
      have hxs : w.heap.size ≤ X.heap.size := HK0.out.size
      have HNM := run.hid (And.intro hN (And.intro hM hbh))
      obtain ⟨zc, hzc⟩ : ∃ zc : Array Value, zc = #[.string ⟨#[]⟩] := ⟨_, rfl⟩
      obtain ⟨Zl, hZl⟩ : ∃ Zl, Zl = (madeCells zc (M * 1)).toList := ⟨_, rfl⟩
      have HZS := run.hid (show Zl.length = M * 1 from by rw [hZl, Array.length_toList, size_madeCells])
      have HZL := HZS
      have hmk : (.cells (madeCells #[.string ⟨#[]⟩] (M * it.size)) 9 (0, 0) : Obj) = .cells Zl.toArray 9 (0, 0) := by rw [hZl, hzc, hsz]
      have HMK := run.hid hmk
      have FB : ∀ (D : Nat → Bool) (X2 : World), (fun D X2 => (D 5 = false → Same X X2) ∧ (D 5 = true → Same (X.alloc (.cells Zl.toArray 9)) X2)) D X2 → G g lb n cap F U A X2 := by
        rintro D X2 ⟨h1, h2⟩
        cases hD : D 5 with
        | false => exact Same.ga HG0.out (h1 hD)
        | true => exact Same.ga (HG0.out.kept (S := fun _ => False) ((Kept.refl _ X).alloc _) (fun h => h) (fun h => h)) (h2 hD)
      have hNb : N ≤ 2199023255552 := by omega
      have hMb : M ≤ 5497558138880 := by omega
      have HL2 := run.hid hl2
      clear hN hM hbh hmk hzc hZl hl2
      go_upto_region 1 with fail
      refine lx.straight (fun D X2 => (D 5 = false → Same X X2) ∧ (D 5 = true → Same (X.alloc (.cells Zl.toArray 9)) X2)) (by kernel_rfl) ⟨fun _ => Same.refl X, fun h => by cases h⟩ ?_
      refine lx.begin 168 rfl ?_
      refine lx.o_pure (.pointer (some ⟨g, 0, none⟩)) (fun _ _ h => by first | rfl | kernel_rfl) ?_
      refine lx.o_call (.int .i64 (N : Nat)) 13 #[.pointer (some ⟨g, 0, none⟩)] (fun _ _ _ => lx.run_fn rfl rfl rfl (enters_of Try.func13 (by kernel_rfl) rfl)) (fun D X2 hC => (len_any (FB D X2 hC) (by omega)).mono fun e w2 ⟨he, hs⟩ => ⟨he.trans (by rw [← HNM.out.1]), fun h => (hC.1 h).trans hs, fun h => (hC.2 h).trans hs⟩) ?_
      refine lx.o_pure (.int .i64 ((2 * N : Nat) : Int)) (fun D X hC => lx.run_mul rfl rfl rfl (by omega) (by omega)) ?_
      refine lx.o_pure (.int .i64 (room : Nat)) (fun _ _ h => by first | rfl | kernel_rfl) ?_
      refine lx.o_pure (.int .i64 (M : Nat)) (fun D X hC => lx.run_add rfl rfl rfl (by omega) (by have := HNM.out.2.1; omega)) ?_
      refine lx.o_eff (.slice (some ⟨l2, 0, none⟩) M M) (fun D X2 h0 hdep hC => ?_) ?_
      · have hs := hC.1 h0
        refine ⟨X2.alloc (.cells Zl.toArray 9), ?_, (fun h => by cases h), fun _ => hs.alloc _⟩
        rw [HL2.out, ← hs.heap, ← HMK.out]
        exact run_makeG rfl rfl rfl Try.underlying52 hinf hz0 (by rw [hby]; omega) (by omega)
      refine lx.o_pure (.slice (some ⟨l2, 0, none⟩) M M) (fun _ _ h => by first | rfl | kernel_rfl) ?_
      refine lx.o_end ?_
      simp only [lx.ov]
      rintro X1 d9 hd9 ⟨-, hX1⟩
      replace hX1 := hX1 (hd9 5 (by decide))
      clear hd9 FB
      go_simp
      have hl2 := HL2.out
      clear HL2
      have hg1 : G g lb n cap F U A X1 := Same.ga (HG0.out.kept (S := fun _ => False) ((Kept.refl _ X).alloc _) (fun h => h) (fun h => h)) hX1
      have hl1 : X1.heap[l2]? = some (.cells Zl.toArray 9 (0, 0)) := by rw [hX1.heap, hl2]; exact heap_alloc_new X _
      have hk1 : Kept (fun b => b = g ∨ b = lb) w X1 := Same.kept (HK0.out.alloc _) hX1
      have hlX := (Array.getElem?_eq_some_iff.1 HG0.out.hl).1
      have hgX := (Array.getElem?_eq_some_iff.1 HG0.out.hg).1
      have hne1 : g ≠ l2 := by omega
      have hne2 : lb ≠ l2 := by omega
      have hws : w.heap.size ≤ l2 := by omega
      have HG := run.hid hg1
      have HL := run.hid hl1
      have HK := run.hid hk1
      clear hg1 hl1 hk1 hX1 HG0 HK0 HSM HLEN hlX hgX hl2 HBB HMK
      generalize X1 = w1 at *
      have hmin : Nat.min F M = F := by have := HNM.out; show min F M = F; omega
      have hFM : F ≤ M := by have := HNM.out; omega
      go_upto_region 2 with fail
      have FB : ∀ (D : Nat → Bool) (X : World), (fun D X => (D 10 = false → Same w1 X) ∧ (D 10 = true → Same (w1.setRow l2 (spl Zl (0 * 1) ((A.drop (0 * 1)).take (F * 1))).toArray) X)) D X → X.heap[g]? = some (.cells #[.slice (some ⟨lb, 0, none⟩) n cap, .int .i64 (F : Nat), .int .i64 (U : Nat)] 59 (0, 0)) := by
        rintro D X ⟨h1, h2⟩
        cases hD : D 10 with
        | false => rw [(h1 hD).heap]; exact HG.out.hg
        | true => rw [(h2 hD).heap, setRow_off hne1]; exact HG.out.hg
      refine lx.region (fun D X => (D 10 = false → Same w1 X) ∧ (D 10 = true → Same (w1.setRow l2 (spl Zl (0 * 1) ((A.drop (0 * 1)).take (F * 1))).toArray) X)) (by kernel_rfl) (by kernel_rfl) (by kernel_rfl) ⟨fun _ => Same.drew (Same.refl w1), fun h => by cases h⟩ ?_
      refine lx.begin 168 rfl ?_
      refine lx.o_pure (.slice (some ⟨l2, 0, none⟩) M M) (fun _ _ h => by first | rfl | kernel_rfl) ?_
      refine lx.o_pure (.pointer (some ⟨g, 0, none⟩)) (fun _ _ h => by first | rfl | kernel_rfl) ?_
      refine lx.o_pure (.pointer (some ⟨g, 0, none⟩)) (fun _ _ h => by first | rfl | kernel_rfl) ?_
      refine lx.o_pure (.pointer (some ⟨g, 0, none⟩)) (fun _ _ h => by first | rfl | kernel_rfl) ?_
      refine lx.o_pure (.slice (some ⟨lb, 0, none⟩) n cap) (fun D X hC => lx.run_load rfl rfl Try.underlying52 rfl (blk_cell (FB D X hC) 0)) ?_
      refine lx.o_pure (.pointer (some ⟨g, 0, none⟩)) (fun _ _ h => by first | rfl | kernel_rfl) ?_
      refine lx.o_pure (.pointer (some ⟨g, 0, none⟩)) (fun _ _ h => by first | rfl | kernel_rfl) ?_
      refine lx.o_pure (.pointer (some ⟨g, 1, none⟩)) (fun _ _ h => by first | rfl | kernel_rfl) ?_
      refine lx.o_pure (.int .i64 (F : Nat)) (fun D X hC => lx.run_load rfl rfl Try.underlying3 rfl (blk_cell (FB D X hC) 1)) ?_
      refine lx.o_pure (.slice (some (at0 lb cap 0 1)) F cap) (fun D X hC => run_uptoG rfl rfl rfl (by omega) Try.underlying52 hinf hsz) ?_
      refine lx.o_eff (.int .i64 (F : Nat)) (fun D X h0 hdep hC => ?_) ?_
      · have hs := hC.1 h0
        exact ⟨_, run_copyG0 (cap1 := M) rfl rfl rfl hmin (hs.blk HL.out) (hs.blk HG.out.hl) HZS.out HG.out.sz (by omega) (by omega) HSA.out Try.underlying52 hinf hsz, (fun h => by cases h), fun _ => hs.setRow _ _⟩
      refine lx.o_end ?_
      simp only [lx.ov]
      rintro X2 d9 hd9 ⟨-, hX2⟩
      replace hX2 := hX2 (hd9 10 (by decide))
      clear hd9 FB
      go_simp
      have hg1 : G g lb n cap F U A X2 := by
        refine ⟨?_, ?_, HG.out.sz, HG.out.fu, HG.out.un, HG.out.nc, HG.out.ne⟩
        · rw [hX2.heap, setRow_off hne1]; exact HG.out.hg
        · rw [hX2.heap, setRow_off hne2]; exact HG.out.hl
      have hl1 : X2.heap[l2]? = some (.cells (spl Zl (0 * 1) ((A.drop (0 * 1)).take (F * 1))).toArray 9 (0, 0)) := by rw [hX2.heap]; exact setRow_same HL.out _
      have hk1 : Kept (fun b => b = g ∨ b = lb) w X2 := Same.kept (HK.out.setRow (b := l2) (.inr hws) _) hX2
      have hfit : 0 * 1 + ((A.drop (0 * 1)).take (F * 1)).length ≤ Zl.length := by have h1 := HZS.out; have h2 := HG.out.sz; have h3 := HNM.out; rw [seg_len (by omega)]; omega
      have hzs : (spl Zl (0 * 1) ((A.drop (0 * 1)).take (F * 1))).length = M * 1 := (spl_length hfit).trans HZS.out
      clear HG HL HK HZS hX2 hmin hfit
      have HG := run.hid hg1
      have HL := run.hid hl1
      have HK := run.hid hk1
      have HZS := run.hid hzs
      clear hg1 hl1 hk1 hzs
      generalize hZ1 : (spl Zl (0 * 1) ((A.drop (0 * 1)).take (F * 1))) = Z1 at *
      have HZ1 := run.hid hZ1
      clear hZ1
      generalize X2 = w2 at *
      go_upto_region 3 with fail
      refine lx.region (fun D X => Same w2 X) (by kernel_rfl) (by kernel_rfl) (by kernel_rfl) (Same.drew (Same.refl w2)) ?_
      refine lx.begin 168 rfl ?_
      refine lx.o_pure (.pointer (some ⟨g, 0, none⟩)) (fun _ _ h => by first | rfl | kernel_rfl) ?_
      refine lx.o_pure (.pointer (some ⟨g, 0, none⟩)) (fun _ _ h => by first | rfl | kernel_rfl) ?_
      refine lx.o_pure (.pointer (some ⟨g, 0, none⟩)) (fun _ _ h => by first | rfl | kernel_rfl) ?_
      refine lx.o_pure (.slice (some ⟨lb, 0, none⟩) n cap) (fun D X hC => lx.run_load rfl rfl Try.underlying52 rfl (blk_cell (by rw [hC.heap]; exact HG.out.hg) 0)) ?_
      refine lx.o_pure (.int .i64 (n : Nat)) (fun D X hC => run_lenG rfl rfl) ?_
      refine lx.o_pure (.pointer (some ⟨g, 0, none⟩)) (fun _ _ h => by first | rfl | kernel_rfl) ?_
      refine lx.o_pure (.pointer (some ⟨g, 0, none⟩)) (fun _ _ h => by first | rfl | kernel_rfl) ?_
      refine lx.o_pure (.pointer (some ⟨g, 2, none⟩)) (fun _ _ h => by first | rfl | kernel_rfl) ?_
      refine lx.o_pure (.int .i64 (U : Nat)) (fun D X hC => lx.run_load rfl rfl Try.underlying3 rfl (blk_cell (by rw [hC.heap]; exact HG.out.hg) 2)) ?_
      refine lx.o_pure (.int .i64 (bh : Nat)) (fun D X hC => lx.run_sub rfl rfl rfl (by omega) (by have := HNM.out.2.2; omega)) ?_
      refine lx.o_pure (.int .i64 (bh : Nat)) (fun _ _ h => by first | rfl | kernel_rfl) ?_
      refine lx.o_end ?_
      simp only [lx.ov]
      rintro X3 d9 hd9 hX3
      clear hd9
      go_simp
      have hg1 := Same.ga HG.out hX3
      have hl1 := hX3.blk HL.out
      have hk1 := Same.kept HK.out hX3
      clear HG HL HK hX3
      have HG := run.hid hg1
      have HL := run.hid hl1
      have HK := run.hid hk1
      clear hg1 hl1 hk1
      generalize X3 = w3 at *
      obtain ⟨u3, hu3⟩ : ∃ u3, u3 = M - bh := ⟨_, rfl⟩
      have hbn : bh = n - U := HNM.out.2.2
      have hbM : bh ≤ M := by have := HNM.out; omega
      have hu4 : M = u3 + bh := by omega
      have hmin : Nat.min (n - U) (M - u3) = bh := by show min (n - U) (M - u3) = bh; omega
      have HU3 := run.hid (And.intro hbn (And.intro hu4 hu3))
      go_upto_region 4 with fail
      have FB : ∀ (D : Nat → Bool) (X : World), (fun D X => (D 15 = false → Same w3 X) ∧ (D 15 = true → Same (w3.setRow l2 (spl Z1 (u3 * 1) ((A.drop (U * 1)).take (bh * 1))).toArray) X)) D X → X.heap[g]? = some (.cells #[.slice (some ⟨lb, 0, none⟩) n cap, .int .i64 (F : Nat), .int .i64 (U : Nat)] 59 (0, 0)) := by
        rintro D X ⟨h1, h2⟩
        cases hD : D 15 with
        | false => rw [(h1 hD).heap]; exact HG.out.hg
        | true => rw [(h2 hD).heap, setRow_off hne1]; exact HG.out.hg
      refine lx.region (fun D X => (D 15 = false → Same w3 X) ∧ (D 15 = true → Same (w3.setRow l2 (spl Z1 (u3 * 1) ((A.drop (U * 1)).take (bh * 1))).toArray) X)) (by kernel_rfl) (by kernel_rfl) (by kernel_rfl) ⟨fun _ => Same.drew (Same.refl w3), fun h => by cases h⟩ ?_
      refine lx.begin 168 rfl ?_
      refine lx.o_pure (.slice (some ⟨l2, 0, none⟩) M M) (fun _ _ h => by first | rfl | kernel_rfl) ?_
      refine lx.o_pure (.slice (some ⟨l2, 0, none⟩) M M) (fun _ _ h => by first | rfl | kernel_rfl) ?_
      refine lx.o_pure (.int .i64 (M : Nat)) (fun D X hC => run_lenG rfl rfl) ?_
      refine lx.o_pure (.int .i64 (bh : Nat)) (fun _ _ h => by first | rfl | kernel_rfl) ?_
      refine lx.o_pure (.int .i64 (u3 : Nat)) (fun D X hC => lx.run_sub rfl rfl rfl (by omega) (by omega)) ?_
      refine lx.o_pure (.slice (some (at0 l2 M u3 1)) (M - u3) (M - u3)) (fun D X hC => run_fromG rfl rfl rfl (by omega) (Nat.le_refl _) Try.underlying52 hinf hsz) ?_
      refine lx.o_pure (.pointer (some ⟨g, 0, none⟩)) (fun _ _ h => by first | rfl | kernel_rfl) ?_
      refine lx.o_pure (.pointer (some ⟨g, 0, none⟩)) (fun _ _ h => by first | rfl | kernel_rfl) ?_
      refine lx.o_pure (.pointer (some ⟨g, 0, none⟩)) (fun _ _ h => by first | rfl | kernel_rfl) ?_
      refine lx.o_pure (.slice (some ⟨lb, 0, none⟩) n cap) (fun D X hC => lx.run_load rfl rfl Try.underlying52 rfl (blk_cell (FB D X hC) 0)) ?_
      refine lx.o_pure (.pointer (some ⟨g, 0, none⟩)) (fun _ _ h => by first | rfl | kernel_rfl) ?_
      refine lx.o_pure (.pointer (some ⟨g, 0, none⟩)) (fun _ _ h => by first | rfl | kernel_rfl) ?_
      refine lx.o_pure (.pointer (some ⟨g, 2, none⟩)) (fun _ _ h => by first | rfl | kernel_rfl) ?_
      refine lx.o_pure (.int .i64 (U : Nat)) (fun D X hC => lx.run_load rfl rfl Try.underlying3 rfl (blk_cell (FB D X hC) 2)) ?_
      refine lx.o_pure (.slice (some (at0 lb cap U 1)) (n - U) (cap - U)) (fun D X hC => run_fromG rfl rfl rfl (by omega) (by omega) Try.underlying52 hinf hsz) ?_
      refine lx.o_eff (.int .i64 (bh : Nat)) (fun D X h0 hdep hC => ?_) ?_
      · have hs := hC.1 h0
        exact ⟨_, run_copyG (lo1 := u3) (cap1 := M) rfl rfl rfl hmin (hs.blk HL.out) (hs.blk HG.out.hl) HZS.out HG.out.sz (by omega) (by omega) (by have h2 := HNM.out.2.2; rw [h2]; exact HSB.out) Try.underlying52 hinf hsz, (fun h => by cases h), fun _ => hs.setRow _ _⟩
      refine lx.o_end ?_
      simp only [lx.ov]
      rintro X2 d9 hd9 ⟨-, hX2⟩
      replace hX2 := hX2 (hd9 15 (by decide))
      clear hd9 FB
      clear hbn hu4 hu3
      go_simp
      have hg1 : G g lb n cap F U A X2 := by
        refine ⟨?_, ?_, HG.out.sz, HG.out.fu, HG.out.un, HG.out.nc, HG.out.ne⟩
        · rw [hX2.heap, setRow_off hne1]; exact HG.out.hg
        · rw [hX2.heap, setRow_off hne2]; exact HG.out.hl
      have hl1 : X2.heap[l2]? = some (.cells (spl Z1 (u3 * 1) ((A.drop (U * 1)).take (bh * 1))).toArray 9 (0, 0)) := by rw [hX2.heap]; exact setRow_same HL.out _
      have hk1 : Kept (fun b => b = g ∨ b = lb) w X2 := Same.kept (HK.out.setRow (b := l2) (.inr hws) _) hX2
      have hfit : u3 * 1 + ((A.drop (U * 1)).take (bh * 1)).length ≤ Z1.length := by have h1 := HZS.out; have h2 := HG.out.sz; have h3 := HNM.out; have h4 := HU3.out; rw [seg_len (by omega)]; omega
      have hzs : (spl Z1 (u3 * 1) ((A.drop (U * 1)).take (bh * 1))).length = M * 1 := (spl_length hfit).trans HZS.out
      clear HG HL HK HZS hX2 hmin hfit
      have HG := run.hid hg1
      have HL := run.hid hl1
      have HK := run.hid hk1
      have HZS := run.hid hzs
      clear hg1 hl1 hk1 hzs
      generalize hZ2 : (spl Z1 (u3 * 1) ((A.drop (U * 1)).take (bh * 1))) = Z2 at *
      have HZ2 := run.hid hZ2
      clear hZ2
      generalize X2 = w4 at *
      have hgb := HG.out.hg
      have c0 := blk_cell hgb 0
      have c2 := blk_cell hgb 2
      change w4.cell? _ = some (.slice (some ⟨lb, 0, none⟩) n cap) at c0
      change w4.cell? _ = some (.int .i64 (U : Nat)) at c2
      have f0 := blk_free hgb 0
      have f2 := blk_free hgb 2
      have hum : (M : Int) - (bh : Int) = (u3 : Int) := by have := HU3.out; omega
      have HGB := run.hid hgb
      clear hgb
      go_wp2
      go_meet
      case rel =>
        have hb9 := (set3 ((set3 HGB.out (.slice (some ⟨l2, 0, none⟩) M M)).1) (.int .i64 (u3 : Nat))).2.2
        have hl9 := (Below.heap_setCell (w4.setCell ⟨g, 0, none⟩ (.slice (some ⟨l2, 0, none⟩) M M)) ⟨g, 2, none⟩ (.int .i64 (u3 : Nat)) l2 hne1.symm).trans ((Below.heap_setCell w4 ⟨g, 0, none⟩ (.slice (some ⟨l2, 0, none⟩) M M) l2 hne1.symm).trans HL.out)
        have hk9 := (HK.out.setCell (i := 0) (b := g) (.inl (.inl rfl)) (.slice (some ⟨l2, 0, none⟩) M M)).setCell (i := 2) (b := g) (.inl (.inl rfl)) (.int .i64 (u3 : Nat))
        obtain ⟨e1, e2, e3⟩ := HU3.out
        obtain ⟨e4, e5, e6⟩ := HNM.out
        have hsz2 := HG.out.sz
        have hzl : Zl.length = M * 1 := HZL.out
        have hfin := has_grow (c := n * 1) (f := F * 1) (u := U * 1) (c2 := M * 1) HC.out (by omega) (by omega) (by omega) hzl (by omega)
        rw [show M * 1 - (n * 1 - U * 1) = u3 * 1 by omega, show n * 1 - U * 1 = bh * 1 by omega] at hfin
        refine ⟨l2, M, M, u3, Z2, ⟨hb9, hl9, HZS.out, by omega, by omega, Nat.le_refl _, hne1⟩, ?_, by omega, by omega, .inr hws, by omega, hk9⟩
        rw [← HZ2.out, ← HZ1.out, Nat.zero_mul, List.drop_zero]
        exact hfin
  case rest =>
    obtain ⟨lb1, n1, cap1, U1, A1, hG1, hC1, hru, hNN, hlb1, hmx, hK1⟩ := hcut
    have hfu1 := hG1.fu
    have hun1 := hG1.un
    have hnc1 := hG1.nc
    have HK := run.hid hK1
    clear HG HC HLEN HG0 HK0 HSM HBB HSA HSB
    have HG := run.hid hG1
    have HC := run.hid hC1
    have hglt1 := (Array.getElem?_eq_some_iff.1 hG1.hg).1
    have hg1 := hG1.hg
    clear hG1 hC1 hK1
    have hn1 : n1 ≤ 5497558138880 := by omega
    rcases Nat.lt_trichotomy i F with hlt | heq | hgt
    · clear hg1
      obtain ⟨m, hm⟩ : ∃ m, m = F - i := ⟨_, rfl⟩
      obtain ⟨u2, hu2⟩ : ∃ u2, u2 = U1 - m := ⟨_, rfl⟩
      have hm2 : F = i + m := by omega
      have hu3 : U1 = u2 + m := by omega
      have hmin : Nat.min (F - i) (U1 - u2) = m := by show min (F - i) (U1 - u2) = m; omega
      have HM := run.hid (And.intro hm2 (And.intro hu3 hmin))
      clear hm hu2
      go_upto_region 6 with fail
      refine lx.straight (fun D X => Same wc X) (by kernel_rfl) (Same.refl wc) ?_
      refine lx.begin 168 rfl ?_
      refine lx.o_pure (.pointer (some ⟨g, 0, none⟩)) (fun _ _ h => by first | rfl | kernel_rfl) ?_
      refine lx.o_pure (.pointer (some ⟨g, 0, none⟩)) (fun _ _ h => by first | rfl | kernel_rfl) ?_
      refine lx.o_pure (.pointer (some ⟨g, 1, none⟩)) (fun _ _ h => by first | rfl | kernel_rfl) ?_
      refine lx.o_pure (.int .i64 (F : Nat)) (fun D X hC => lx.run_load rfl rfl Try.underlying3 rfl (blk_cell (by rw [hC.heap]; exact HG.out.hg) 1)) ?_
      refine lx.o_pure (.int .i64 (i : Nat)) (fun _ _ h => by first | rfl | kernel_rfl) ?_
      refine lx.o_pure (.int .i64 (m : Nat)) (fun D X hC => lx.run_sub rfl rfl rfl (by omega) (by omega)) ?_
      refine lx.o_pure (.int .i64 (m : Nat)) (fun _ _ h => by first | rfl | kernel_rfl) ?_
      refine lx.o_end ?_
      simp only [lx.ov]
      rintro X6 d9 hd9 hX
      clear hd9
      have HG6 := run.hid (Same.ga HG.out hX)
      have HK6 := run.hid (Same.kept HK.out hX)
      clear HG HK hX hm2 hu3 hmin
      have HG := HG6
      have HK := HK6
      clear HG6 HK6
      generalize X6 = w6 at *
      have hmp : (0 : Int) < (m : Int) := by have := HM.out; omega
      go_simp
      go_upto_region 8 with fail
      obtain ⟨hm2, hu3, hmin⟩ := HM.out
      have hso : ∀ v ∈ (A1.drop (i * 1)).take (m * 1), v.oneCell' = true := fun v hv => HO.out v (has_ahead HC.out (by have := HG.out.sz; omega) (by omega) (by have := HG.out.sz; omega) (by omega) v hv)
      have FB : ∀ (D : Nat → Bool) (X : World), (fun D X => (D 25 = false → Same w6 X) ∧ (D 25 = true → Same (w6.setRow lb1 (spl A1 (u2 * 1) ((A1.drop (i * 1)).take (m * 1))).toArray) X)) D X → X.heap[g]? = some (.cells #[.slice (some ⟨lb1, 0, none⟩) n1 cap1, .int .i64 (F : Nat), .int .i64 (U1 : Nat)] 59 (0, 0)) := by
        rintro D X ⟨h1, h2⟩
        cases hD : D 25 with
        | false => rw [(h1 hD).heap]; exact HG.out.hg
        | true => rw [(h2 hD).heap, setRow_off HG.out.ne]; exact HG.out.hg
      refine lx.region (fun D X => (D 25 = false → Same w6 X) ∧ (D 25 = true → Same (w6.setRow lb1 (spl A1 (u2 * 1) ((A1.drop (i * 1)).take (m * 1))).toArray) X)) (by kernel_rfl) (by kernel_rfl) (by kernel_rfl) ⟨fun _ => Same.drew (Same.refl w6), fun h => by cases h⟩ ?_
      refine lx.begin 168 rfl ?_
      refine lx.o_pure (.pointer (some ⟨g, 0, none⟩)) (fun _ _ h => by first | rfl | kernel_rfl) ?_
      refine lx.o_pure (.pointer (some ⟨g, 0, none⟩)) (fun _ _ h => by first | rfl | kernel_rfl) ?_
      refine lx.o_pure (.pointer (some ⟨g, 0, none⟩)) (fun _ _ h => by first | rfl | kernel_rfl) ?_
      refine lx.o_pure (.slice (some ⟨lb1, 0, none⟩) n1 cap1) (fun D X hC => lx.run_load rfl rfl Try.underlying52 rfl (blk_cell (FB D X hC) 0)) ?_
      refine lx.o_pure (.pointer (some ⟨g, 0, none⟩)) (fun _ _ h => by first | rfl | kernel_rfl) ?_
      refine lx.o_pure (.pointer (some ⟨g, 0, none⟩)) (fun _ _ h => by first | rfl | kernel_rfl) ?_
      refine lx.o_pure (.pointer (some ⟨g, 2, none⟩)) (fun _ _ h => by first | rfl | kernel_rfl) ?_
      refine lx.o_pure (.int .i64 (U1 : Nat)) (fun D X hC => lx.run_load rfl rfl Try.underlying3 rfl (blk_cell (FB D X hC) 2)) ?_
      refine lx.o_pure (.int .i64 (m : Nat)) (fun _ _ h => by first | rfl | kernel_rfl) ?_
      refine lx.o_pure (.int .i64 (u2 : Nat)) (fun D X hC => lx.run_sub rfl rfl rfl (by omega) (by omega)) ?_
      refine lx.o_pure (.pointer (some ⟨g, 0, none⟩)) (fun _ _ h => by first | rfl | kernel_rfl) ?_
      refine lx.o_pure (.pointer (some ⟨g, 0, none⟩)) (fun _ _ h => by first | rfl | kernel_rfl) ?_
      refine lx.o_pure (.pointer (some ⟨g, 2, none⟩)) (fun _ _ h => by first | rfl | kernel_rfl) ?_
      refine lx.o_pure (.int .i64 (U1 : Nat)) (fun D X hC => lx.run_load rfl rfl Try.underlying3 rfl (blk_cell (FB D X hC) 2)) ?_
      refine lx.o_pure (.slice (some (at0 lb1 cap1 u2 1)) (U1 - u2) (cap1 - u2)) (fun D X hC => run_partG rfl rfl rfl rfl (by omega) (by omega) Try.underlying52 hinf hsz) ?_
      refine lx.o_pure (.pointer (some ⟨g, 0, none⟩)) (fun _ _ h => by first | rfl | kernel_rfl) ?_
      refine lx.o_pure (.pointer (some ⟨g, 0, none⟩)) (fun _ _ h => by first | rfl | kernel_rfl) ?_
      refine lx.o_pure (.pointer (some ⟨g, 0, none⟩)) (fun _ _ h => by first | rfl | kernel_rfl) ?_
      refine lx.o_pure (.slice (some ⟨lb1, 0, none⟩) n1 cap1) (fun D X hC => lx.run_load rfl rfl Try.underlying52 rfl (blk_cell (FB D X hC) 0)) ?_
      refine lx.o_pure (.int .i64 (i : Nat)) (fun _ _ h => by first | rfl | kernel_rfl) ?_
      refine lx.o_pure (.pointer (some ⟨g, 0, none⟩)) (fun _ _ h => by first | rfl | kernel_rfl) ?_
      refine lx.o_pure (.pointer (some ⟨g, 0, none⟩)) (fun _ _ h => by first | rfl | kernel_rfl) ?_
      refine lx.o_pure (.pointer (some ⟨g, 1, none⟩)) (fun _ _ h => by first | rfl | kernel_rfl) ?_
      refine lx.o_pure (.int .i64 (F : Nat)) (fun D X hC => lx.run_load rfl rfl Try.underlying3 rfl (blk_cell (FB D X hC) 1)) ?_
      refine lx.o_pure (.slice (some (at0 lb1 cap1 i 1)) (F - i) (cap1 - i)) (fun D X hC => run_partG rfl rfl rfl rfl (by omega) (by omega) Try.underlying52 hinf hsz) ?_
      refine lx.o_eff (.int .i64 (m : Nat)) (fun D X h0 hdep hC => ?_) ?_
      · have hs := hC.1 h0
        exact ⟨_, run_copyG rfl rfl rfl (by first | exact hmin | omega) (hs.blk HG.out.hl) (hs.blk HG.out.hl) HG.out.sz HG.out.sz (by omega) (by omega) hso Try.underlying52 hinf hsz, (fun h => by cases h), fun _ => hs.setRow _ _⟩
      refine lx.o_end ?_
      simp only [lx.ov]
      rintro X8 d9 hd9 ⟨-, hX8⟩
      replace hX8 := hX8 (hd9 25 (by decide))
      clear hd9 FB hso
      have hsl : lb1 = lb ∨ w.heap.size ≤ lb1 := hlb1
      have hb8 : X8.heap[g]? = some (.cells #[.slice (some ⟨lb1, 0, none⟩) n1 cap1, .int .i64 (F : Nat), .int .i64 (U1 : Nat)] 59 (0, 0)) := by rw [hX8.heap, setRow_off HG.out.ne]; exact HG.out.hg
      have hl8 : X8.heap[lb1]? = some (.cells (spl A1 (u2 * 1) ((A1.drop (i * 1)).take (m * 1))).toArray 9 (0, 0)) := by rw [hX8.heap]; exact setRow_same HG.out.hl _
      have hk8 := Same.kept (HK.out.setRow (b := lb1) (hsl.elim (fun h => .inl (.inr h)) .inr) _) hX8
      have c1 := blk_cell hb8 1
      have c2 := blk_cell hb8 2
      change X8.cell? _ = some (.int .i64 (F : Nat)) at c1
      change X8.cell? _ = some (.int .i64 (U1 : Nat)) at c2
      have f1 := blk_free hb8 1
      have f2 := blk_free hb8 2
      have HB8 := run.hid hb8
      have HL8 := run.hid hl8
      have HK8 := run.hid hk8
      have hne := HG.out.ne
      have HSZ := run.hid HG.out.sz
      clear hb8 hl8 hk8 hX8 HG HK hm2 hu3 hmin
      go_simp
      have hum : (U1 : Int) - (m : Int) = (u2 : Int) := by have := HM.out.2.1; omega
      go_upto_region 10 with fail
      have hb9 := (set3 ((set3 HB8.out (.int .i64 (i : Nat))).2.1) (.int .i64 (u2 : Nat))).2.2
      have hl9 := (Below.heap_setCell (X8.setCell ⟨g, 1, none⟩ (.int .i64 (i : Nat))) ⟨g, 2, none⟩ (.int .i64 (u2 : Nat)) lb1 hne.symm).trans ((Below.heap_setCell X8 ⟨g, 1, none⟩ (.int .i64 (i : Nat)) lb1 hne.symm).trans HL8.out)
      have hk9 := (HK8.out.setCell (i := 1) (b := g) (.inl (.inl rfl)) (.int .i64 (i : Nat))).setCell (i := 2) (b := g) (.inl (.inl rfl)) (.int .i64 (u2 : Nat))
      have HF := run.hid (And.intro hb9 (And.intro hl9 hk9))
      generalize (X8.setCell ⟨g, 1, none⟩ (.int .i64 (i : Nat))).setCell ⟨g, 2, none⟩ (.int .i64 (u2 : Nat)) = w9 at *
      have c1 := blk_cell HF.out.1 1
      change w9.cell? _ = some (.int .i64 (i : Nat)) at c1
      clear hb9 hl9 hk9 hum
      go_wp2
      first | go_end0 | (refine bodyPost_ret (results_none rfl _ _ _) rfl ?_)
      obtain ⟨hm2, hu3, -⟩ := HM.out
      have hsz := HSZ.out
      have hfit : u2 * 1 + ((A1.drop (i * 1)).take (m * 1)).length ≤ A1.length := by rw [seg_len (by omega)]; omega
      have hfin := has_left (c := n1 * 1) (i := i * 1) (m := m * 1) (u := U1 * 1) (by have := HC.out; rw [hm2, Nat.add_mul] at this; exact this) (by omega) (by omega) (by omega)
      rw [show U1 * 1 - m * 1 = u2 * 1 by omega] at hfin
      exact ⟨rfl, lb1, n1, cap1, u2, _, ⟨HF.out.1, HF.out.2.1, (spl_length hfit).trans hsz, by omega, by omega, hnc1, hne⟩, hfin, by omega, by omega, hlb1, hmx, HF.out.2.2⟩
    · subst heq
      have c1 := blk_cell hg1 1
      change wc.cell? _ = some (.int .i64 (i : Nat)) at c1
      clear hg1
      go_wp2
      first | go_end0 | (refine bodyPost_ret (results_none rfl _ _ _) rfl ?_)
      exact ⟨rfl, lb1, n1, cap1, U1, A1, HG.out, HC.out, by omega, by omega, hlb1, hmx, HK.out⟩
    · clear hg1
      obtain ⟨m, hm⟩ : ∃ m, m = i - F := ⟨_, rfl⟩
      obtain ⟨u2, hu2⟩ : ∃ u2, u2 = U1 + m := ⟨_, rfl⟩
      have hm2 : i = F + m := by omega
      have hmin : Nat.min (U1 + m - U1) (n1 - F) = m := by show min (U1 + m - U1) (n1 - F) = m; omega
      have hu4 : U1 + m ≤ n1 := by omega
      have HM := run.hid (And.intro hm2 (And.intro hu2 hmin))
      clear hm hu2
      go_upto_region 6 with fail
      refine lx.straight (fun D X => Same wc X) (by kernel_rfl) (Same.refl wc) ?_
      refine lx.begin 168 rfl ?_
      refine lx.o_pure (.pointer (some ⟨g, 0, none⟩)) (fun _ _ h => by first | rfl | kernel_rfl) ?_
      refine lx.o_pure (.pointer (some ⟨g, 0, none⟩)) (fun _ _ h => by first | rfl | kernel_rfl) ?_
      refine lx.o_pure (.pointer (some ⟨g, 1, none⟩)) (fun _ _ h => by first | rfl | kernel_rfl) ?_
      refine lx.o_pure (.int .i64 (F : Nat)) (fun D X hC => lx.run_load rfl rfl Try.underlying3 rfl (blk_cell (by rw [hC.heap]; exact HG.out.hg) 1)) ?_
      refine lx.o_pure (.int .i64 (i : Nat)) (fun _ _ h => by first | rfl | kernel_rfl) ?_
      refine lx.o_pure (.int .i64 (-(m : Nat))) (fun D X hC => lx.run_sub rfl rfl rfl (by omega) (by omega)) ?_
      refine lx.o_pure (.int .i64 (-(m : Nat))) (fun _ _ h => by first | rfl | kernel_rfl) ?_
      refine lx.o_end ?_
      simp only [lx.ov]
      rintro X6 d9 hd9 hX
      clear hd9
      have HG6 := run.hid (Same.ga HG.out hX)
      have HK6 := run.hid (Same.kept HK.out hX)
      clear HG HK hX hm2 hmin
      have HG := HG6
      have HK := HK6
      clear HG6 HK6
      generalize X6 = wc2 at *
      have hng : ¬ (0 : Int) < -(m : Int) := by omega
      go_simp
      go_upto_region 10 with fail
      have hm2 := HM.out.1
      refine lx.straight (fun D X => Same wc2 X) (by kernel_rfl) (Same.refl wc2) ?_
      refine lx.begin 168 rfl ?_
      refine lx.o_pure (.int .i64 (i : Nat)) (fun _ _ h => by first | rfl | kernel_rfl) ?_
      refine lx.o_pure (.pointer (some ⟨g, 0, none⟩)) (fun _ _ h => by first | rfl | kernel_rfl) ?_
      refine lx.o_pure (.pointer (some ⟨g, 0, none⟩)) (fun _ _ h => by first | rfl | kernel_rfl) ?_
      refine lx.o_pure (.pointer (some ⟨g, 1, none⟩)) (fun _ _ h => by first | rfl | kernel_rfl) ?_
      refine lx.o_pure (.int .i64 (F : Nat)) (fun D X hC => lx.run_load rfl rfl Try.underlying3 rfl (blk_cell (by rw [hC.heap]; exact HG.out.hg) 1)) ?_
      refine lx.o_pure (.int .i64 (m : Nat)) (fun D X hC => lx.run_sub rfl rfl rfl (by omega) (by omega)) ?_
      refine lx.o_pure (.int .i64 (m : Nat)) (fun _ _ h => by first | rfl | kernel_rfl) ?_
      refine lx.o_end ?_
      simp only [lx.ov]
      rintro X6 d9 hd9 hX
      clear hd9
      have HG6 := run.hid (Same.ga HG.out hX)
      have HK6 := run.hid (Same.kept HK.out hX)
      clear HG HK hX hm2 hng
      have HG := HG6
      have HK := HK6
      clear HG6 HK6
      generalize X6 = w6 at *
      have hmp : (0 : Int) < (m : Int) := by have := HM.out; omega
      go_simp
      go_upto_region 12 with fail
      obtain ⟨hm2, hu3, hmin⟩ := HM.out
      have hso : ∀ v ∈ (A1.drop (U1 * 1)).take (m * 1), v.oneCell' = true := fun v hv => HO.out v (has_behind HC.out (by have := HG.out.sz; omega) (by omega) (by have := HG.out.sz; omega) (by omega) (by omega) v hv)
      have FB : ∀ (D : Nat → Bool) (X : World), (fun D X => (D 24 = false → Same w6 X) ∧ (D 24 = true → Same (w6.setRow lb1 (spl A1 (F * 1) ((A1.drop (U1 * 1)).take (m * 1))).toArray) X)) D X → X.heap[g]? = some (.cells #[.slice (some ⟨lb1, 0, none⟩) n1 cap1, .int .i64 (F : Nat), .int .i64 (U1 : Nat)] 59 (0, 0)) := by
        rintro D X ⟨h1, h2⟩
        cases hD : D 24 with
        | false => rw [(h1 hD).heap]; exact HG.out.hg
        | true => rw [(h2 hD).heap, setRow_off HG.out.ne]; exact HG.out.hg
      refine lx.region (fun D X => (D 24 = false → Same w6 X) ∧ (D 24 = true → Same (w6.setRow lb1 (spl A1 (F * 1) ((A1.drop (U1 * 1)).take (m * 1))).toArray) X)) (by kernel_rfl) (by kernel_rfl) (by kernel_rfl) ⟨fun _ => Same.drew (Same.refl w6), fun h => by cases h⟩ ?_
      refine lx.begin 168 rfl ?_
      refine lx.o_pure (.pointer (some ⟨g, 0, none⟩)) (fun _ _ h => by first | rfl | kernel_rfl) ?_
      refine lx.o_pure (.pointer (some ⟨g, 0, none⟩)) (fun _ _ h => by first | rfl | kernel_rfl) ?_
      refine lx.o_pure (.pointer (some ⟨g, 0, none⟩)) (fun _ _ h => by first | rfl | kernel_rfl) ?_
      refine lx.o_pure (.slice (some ⟨lb1, 0, none⟩) n1 cap1) (fun D X hC => lx.run_load rfl rfl Try.underlying52 rfl (blk_cell (FB D X hC) 0)) ?_
      refine lx.o_pure (.pointer (some ⟨g, 0, none⟩)) (fun _ _ h => by first | rfl | kernel_rfl) ?_
      refine lx.o_pure (.pointer (some ⟨g, 0, none⟩)) (fun _ _ h => by first | rfl | kernel_rfl) ?_
      refine lx.o_pure (.pointer (some ⟨g, 1, none⟩)) (fun _ _ h => by first | rfl | kernel_rfl) ?_
      refine lx.o_pure (.int .i64 (F : Nat)) (fun D X hC => lx.run_load rfl rfl Try.underlying3 rfl (blk_cell (FB D X hC) 1)) ?_
      refine lx.o_pure (.slice (some (at0 lb1 cap1 F 1)) (n1 - F) (cap1 - F)) (fun D X hC => run_fromG rfl rfl rfl (by omega) (by omega) Try.underlying52 hinf hsz) ?_
      refine lx.o_pure (.pointer (some ⟨g, 0, none⟩)) (fun _ _ h => by first | rfl | kernel_rfl) ?_
      refine lx.o_pure (.pointer (some ⟨g, 0, none⟩)) (fun _ _ h => by first | rfl | kernel_rfl) ?_
      refine lx.o_pure (.pointer (some ⟨g, 0, none⟩)) (fun _ _ h => by first | rfl | kernel_rfl) ?_
      refine lx.o_pure (.slice (some ⟨lb1, 0, none⟩) n1 cap1) (fun D X hC => lx.run_load rfl rfl Try.underlying52 rfl (blk_cell (FB D X hC) 0)) ?_
      refine lx.o_pure (.pointer (some ⟨g, 0, none⟩)) (fun _ _ h => by first | rfl | kernel_rfl) ?_
      refine lx.o_pure (.pointer (some ⟨g, 0, none⟩)) (fun _ _ h => by first | rfl | kernel_rfl) ?_
      refine lx.o_pure (.pointer (some ⟨g, 2, none⟩)) (fun _ _ h => by first | rfl | kernel_rfl) ?_
      refine lx.o_pure (.int .i64 (U1 : Nat)) (fun D X hC => lx.run_load rfl rfl Try.underlying3 rfl (blk_cell (FB D X hC) 2)) ?_
      refine lx.o_pure (.pointer (some ⟨g, 0, none⟩)) (fun _ _ h => by first | rfl | kernel_rfl) ?_
      refine lx.o_pure (.pointer (some ⟨g, 0, none⟩)) (fun _ _ h => by first | rfl | kernel_rfl) ?_
      refine lx.o_pure (.pointer (some ⟨g, 2, none⟩)) (fun _ _ h => by first | rfl | kernel_rfl) ?_
      refine lx.o_pure (.int .i64 (U1 : Nat)) (fun D X hC => lx.run_load rfl rfl Try.underlying3 rfl (blk_cell (FB D X hC) 2)) ?_
      refine lx.o_pure (.int .i64 (m : Nat)) (fun _ _ h => by first | rfl | kernel_rfl) ?_
      refine lx.o_pure (.int .i64 ((U1 + m : Nat) : Int)) (fun D X hC => lx.run_add rfl rfl rfl (by omega) (by omega)) ?_
      refine lx.o_pure (.slice (some (at0 lb1 cap1 U1 1)) (U1 + m - U1) (cap1 - U1)) (fun D X hC => run_partG rfl rfl rfl rfl (by omega) (by omega) Try.underlying52 hinf hsz) ?_
      refine lx.o_eff (.int .i64 (m : Nat)) (fun D X h0 hdep hC => ?_) ?_
      · have hs := hC.1 h0
        exact ⟨_, run_copyG rfl rfl rfl (by first | exact hmin | omega) (hs.blk HG.out.hl) (hs.blk HG.out.hl) HG.out.sz HG.out.sz (by omega) (by omega) hso Try.underlying52 hinf hsz, (fun h => by cases h), fun _ => hs.setRow _ _⟩
      refine lx.o_end ?_
      simp only [lx.ov]
      rintro X8 d9 hd9 ⟨-, hX8⟩
      replace hX8 := hX8 (hd9 24 (by decide))
      clear hd9 FB hso
      have hsl : lb1 = lb ∨ w.heap.size ≤ lb1 := hlb1
      have hb8 : X8.heap[g]? = some (.cells #[.slice (some ⟨lb1, 0, none⟩) n1 cap1, .int .i64 (F : Nat), .int .i64 (U1 : Nat)] 59 (0, 0)) := by rw [hX8.heap, setRow_off HG.out.ne]; exact HG.out.hg
      have hl8 : X8.heap[lb1]? = some (.cells (spl A1 (F * 1) ((A1.drop (U1 * 1)).take (m * 1))).toArray 9 (0, 0)) := by rw [hX8.heap]; exact setRow_same HG.out.hl _
      have hk8 := Same.kept (HK.out.setRow (b := lb1) (hsl.elim (fun h => .inl (.inr h)) .inr) _) hX8
      have c1 := blk_cell hb8 1
      have c2 := blk_cell hb8 2
      change X8.cell? _ = some (.int .i64 (F : Nat)) at c1
      change X8.cell? _ = some (.int .i64 (U1 : Nat)) at c2
      have f1 := blk_free hb8 1
      have f2 := blk_free hb8 2
      have HB8 := run.hid hb8
      have HL8 := run.hid hl8
      have HK8 := run.hid hk8
      have hne := HG.out.ne
      have HSZ := run.hid HG.out.sz
      clear hb8 hl8 hk8 hX8 HG HK hm2 hu3 hmin
      go_simp
      have hum : (U1 : Int) + (m : Int) = (u2 : Int) := by have := HM.out.2.1; omega
      go_wp2
      first | go_end0 | (refine bodyPost_ret (results_none rfl _ _ _) rfl ?_)
      have hb9 := (set3 ((set3 HB8.out (.int .i64 (i : Nat))).2.1) (.int .i64 (u2 : Nat))).2.2
      have hl9 := (Below.heap_setCell (X8.setCell ⟨g, 1, none⟩ (.int .i64 (i : Nat))) ⟨g, 2, none⟩ (.int .i64 (u2 : Nat)) lb1 hne.symm).trans ((Below.heap_setCell X8 ⟨g, 1, none⟩ (.int .i64 (i : Nat)) lb1 hne.symm).trans HL8.out)
      have hk9 := (HK8.out.setCell (i := 1) (b := g) (.inl (.inl rfl)) (.int .i64 (i : Nat))).setCell (i := 2) (b := g) (.inl (.inl rfl)) (.int .i64 (u2 : Nat))
      obtain ⟨hm2, hu3, -⟩ := HM.out
      have hsz := HSZ.out
      have hfit : F * 1 + ((A1.drop (U1 * 1)).take (m * 1)).length ≤ A1.length := by rw [seg_len (by omega)]; omega
      have hfin := has_right (c := n1 * 1) (f := F * 1) (m := m * 1) (u := U1 * 1) HC.out (by omega) (by omega) (by omega)
      rw [show U1 * 1 + m * 1 = u2 * 1 by omega, show F * 1 + m * 1 = i * 1 by omega] at hfin
      exact ⟨rfl, lb1, n1, cap1, u2, _, ⟨hb9, hl9, (spl_length hfit).trans hsz, by omega, by omega, hnc1, hne⟩, hfin, by omega, by omega, hlb1, hmx, hk9⟩
theorem run_appG {o : Oper} {ρ : Operand → Value} {w w' : World} {s x : Operand} {t : TypeId} {v xv v' : Value} (ho : o.op = .call { callee := .builtin .append, args := #[s, x], argTypes := #[t, t] }) (hs : ρ s = v) (hx : ρ x = xv)
    (hr : (Builtin.append_ #[t, t] o.type #[v, xv]).run Try.prog w = .ok v' w') : (execOp ρ o).run Try.prog w = .ok (.value v') w' := by
  unfold execOp
  simp only [ho, resolve, invoke, builtin, Sem.run_bind, Sem.run_pure, Result.andThen_ok, List.map_toArray, List.map_cons, List.map_nil, hs, hx, hr]
theorem run_build0 {o : Oper} {ρ : Operand → Value} {w : World} (ho : o.op = .buildSlice 52 0 #[]) :
    (execOp ρ o).run Try.prog w = .ok (.value (.slice (some ⟨w.heap.size, 0, none⟩) 0 0)) (w.alloc (.cells #[] 9)) := by
  obtain ⟨it, hinf, hz0, hsz, hby⟩ := info_parts info
  unfold execOp
  simp only [ho]
  simp [go_sem]
set_option maxRecDepth 100000 in
set_option maxHeartbeats 8000000 in
theorem insert_any {g lb n cap F U : Nat} {A C : List Value} {w : World} (h : G g lb n cap F U A w) (hc : HasC (n * 1) (F * 1) (U * 1) A C) (hone : ∀ v ∈ C, v.oneCell' = true) (i : Nat) (a : Option Addr) (m c : Nat) (cs : List Value) (hs : Src 1 w a m c cs) (hi : i ≤ F + (n - U)) (hn : n ≤ 1099511627776) (hm : m ≤ 1099511627776) (hfar : ∀ b off, a = some ⟨b, off, none⟩ → b ≠ g ∧ b ≠ lb) :
    Calls Try.prog 10 #[.pointer (some ⟨g, 0, none⟩), .int .i64 (i : Nat), .slice a m c] w fun e w' => e = .returned (.bool true) ∧ ∃ lb' n' cap' U' A', G g lb' n' cap' (i + m) U' A' w' ∧ HasC (n' * 1) ((i + m) * 1) (U' * 1) A' (C.take (i * 1) ++ cs ++ C.drop (i * 1)) ∧ i + (n' - U') = F + (n - U) ∧ (lb' = lb ∨ w.heap.size ≤ lb') ∧ n' ≤ max n (2 * (F + (n - U)) + m) ∧ Kept (fun b => b = g ∨ b = lb) w w' := by
  obtain ⟨it, hinf, hz0, hsz, hby⟩ := info_parts info
  have hfu := h.fu
  have hun := h.un
  have hnc := h.nc
  have HLEN := run.hid (len_any h (by omega))
  have HOP := run.hid (fun (X : World) (hX : Same w X) => open_any (Same.ga h hX) hc hone i m hi hn hm)
  have HS := run.hid hs
  have hglt := (Array.getElem?_eq_some_iff.1 h.hg).1
  have hllt := (Array.getElem?_eq_some_iff.1 h.hl).1
  have hin : ¬ ((F + (n - U) : Nat) : Int) < (i : Int) := by omega
  have hi0 : ¬ (i : Int) < 0 := by omega
  obtain ⟨N, hN⟩ : ∃ N, N = F + (n - U) := ⟨_, rfl⟩
  have HN := run.hid hN
  rw [← hN] at hin HLEN
  clear h hc hs hN
  go_enter Try.func10, Try.ntmps10
  go_wp2_with fail
  refine HLEN.out.mono ?_
  rintro e w1 ⟨rfl, hs1⟩
  have HS1 := run.hid hs1
  clear hs1 HLEN
  go_wp2_with fail
  refine (HOP.out w1 HS1.out).mono ?_
  rintro e w2 ⟨rfl, lb1, n1, cap1, U1, A1, hG1, hC1, hru, hNN, hlb1, hmx, hK1⟩
  have hfu1 := hG1.fu
  have hun1 := hG1.un
  have hnc1 := hG1.nc
  have hglt1 := (Array.getElem?_eq_some_iff.1 hG1.hg).1
  have hK := Kept.trans (Same.kept (S := fun b => b = g ∨ b = lb) (Kept.refl _ w) HS1.out) hK1 (fun _ _ h => h)
  have hw1 : w1.heap.size = w.heap.size := by rw [HS1.out.heap]
  have hsrc : Src 1 w2 a m c cs := HS.out.kept hK (fun b off e h => by have := hfar b off e; omega)
  have hne := hG1.ne
  have HG := run.hid hG1
  have HC := run.hid hC1
  have HK := run.hid hK
  have HSR := run.hid hsrc
  have hn1 : n1 ≤ 5497558138880 := by have := HN.out; omega
  have hfar1 : ∀ b off, a = some ⟨b, off, none⟩ → b ≠ lb1 := fun b off e => by
    rcases HS.out.at' with ⟨h1, -⟩ | ⟨b2, off2, h1, h2, -⟩
    · rw [h1] at e; cases e
    · rw [h1] at e
      simp only [Option.some.injEq, Addr.mk.injEq] at e
      have := hfar b off (by rw [h1]; simp [e])
      omega
  have HFA := run.hid hfar1
  clear hG1 hC1 hK1 hK hsrc hfar1 HOP HS
  go_upto_region 4 with fail
  have FB : ∀ (D : Nat → Bool) (X : World), (fun D X => (D 12 = true → D 11 = true) ∧ (D 14 = true → D 12 = true) ∧ (D 15 = true → D 3 = true ∧ D 14 = true) ∧ (D 18 = true → D 15 = true) ∧ (D 14 = false → Same w2 X) ∧ (D 14 = true → D 18 = false → Same (w2.setRow lb1 (spl A1 (i * 1) cs).toArray) X) ∧ (D 18 = true → Same ((w2.setRow lb1 (spl A1 (i * 1) cs).toArray).setCell ⟨g, 1, none⟩ (.int .i64 ((i + m : Nat) : Int))) X)) D X → D 18 = false → X.heap[g]? = some (.cells #[.slice (some ⟨lb1, 0, none⟩) n1 cap1, .int .i64 (i : Nat), .int .i64 (U1 : Nat)] 59 (0, 0)) := by
    rintro D X ⟨-, -, -, -, h1, h2, -⟩ h18
    cases hD : D 14 with
    | false => rw [(h1 hD).heap]; exact HG.out.hg
    | true => rw [(h2 hD h18).heap, setRow_off hne]; exact HG.out.hg
  have FL : ∀ (D : Nat → Bool) (X : World), (fun D X => (D 12 = true → D 11 = true) ∧ (D 14 = true → D 12 = true) ∧ (D 15 = true → D 3 = true ∧ D 14 = true) ∧ (D 18 = true → D 15 = true) ∧ (D 14 = false → Same w2 X) ∧ (D 14 = true → D 18 = false → Same (w2.setRow lb1 (spl A1 (i * 1) cs).toArray) X) ∧ (D 18 = true → Same ((w2.setRow lb1 (spl A1 (i * 1) cs).toArray).setCell ⟨g, 1, none⟩ (.int .i64 ((i + m : Nat) : Int))) X)) D X → X.cell? ⟨g, 0, none⟩ = some (.slice (some ⟨lb1, 0, none⟩) n1 cap1) := by
    intro D X hC
    cases h18 : D 18 with
    | false => exact blk_cell (FB D X hC h18) 0
    | true =>
      obtain ⟨-, -, -, -, -, -, q7⟩ := hC
      have hb := (set3 (show (w2.setRow lb1 (spl A1 (i * 1) cs).toArray).heap[g]? = _ from (setRow_off hne _).trans HG.out.hg) (.int .i64 ((i + m : Nat) : Int))).2.1
      exact blk_cell ((q7 h18).blk hb) 0
  refine lx.region (fun D X => (D 12 = true → D 11 = true) ∧ (D 14 = true → D 12 = true) ∧ (D 15 = true → D 3 = true ∧ D 14 = true) ∧ (D 18 = true → D 15 = true) ∧ (D 14 = false → Same w2 X) ∧ (D 14 = true → D 18 = false → Same (w2.setRow lb1 (spl A1 (i * 1) cs).toArray) X) ∧ (D 18 = true → Same ((w2.setRow lb1 (spl A1 (i * 1) cs).toArray).setCell ⟨g, 1, none⟩ (.int .i64 ((i + m : Nat) : Int))) X)) (by kernel_rfl) (by kernel_rfl) (by kernel_rfl) ⟨fun h => (by cases h), fun h => (by cases h), fun h => (by cases h), fun h => (by cases h), fun _ => Same.drew (Same.refl w2), fun h => (by cases h), fun h => (by cases h)⟩ ?_
  refine lx.begin 42 rfl ?_
  refine lx.o_pure (.pointer (some ⟨g, 0, none⟩)) (fun _ _ h => by first | rfl | kernel_rfl) ?_
  refine lx.o_pure (.pointer (some ⟨g, 0, none⟩)) (fun _ _ h => by first | rfl | kernel_rfl) ?_
  refine lx.o_pure (.pointer (some ⟨g, 1, none⟩)) (fun _ _ h => by first | rfl | kernel_rfl) ?_
  refine lx.o_eff (.int .i64 (i : Nat)) (fun D X h0 hdep hC => ?_) ?_
  · have h18 : D 18 = false := by
      cases h : D 18 with
      | false => rfl
      | true =>
        exfalso
        obtain ⟨q1, q2, q3, q4, -⟩ := hC
        have q5 := q3 (q4 h)
        rw [q5.1] at h0; cases h0
    refine ⟨X, lx.run_load rfl rfl Try.underlying3 rfl (blk_cell (FB D X hC h18) 1), ?_⟩
    obtain ⟨q1, q2, q3, q4, q5, q6, q7⟩ := hC
    exact ⟨q1, q2, fun h => ⟨rfl, (q3 h).2⟩, q4, q5, q6, q7⟩
  refine lx.o_pure (.pointer (some ⟨g, 0, none⟩)) (fun _ _ h => by first | rfl | kernel_rfl) ?_
  refine lx.o_pure (.pointer (some ⟨g, 0, none⟩)) (fun _ _ h => by first | rfl | kernel_rfl) ?_
  refine lx.o_pure (.pointer (some ⟨g, 0, none⟩)) (fun _ _ h => by first | rfl | kernel_rfl) ?_
  refine lx.o_pure (.slice (some ⟨lb1, 0, none⟩) n1 cap1) (fun D X hC => lx.run_load rfl rfl Try.underlying52 rfl (FL D X hC)) ?_
  refine lx.o_pure (.pointer (some ⟨g, 0, none⟩)) (fun _ _ h => by first | rfl | kernel_rfl) ?_
  refine lx.o_pure (.pointer (some ⟨g, 0, none⟩)) (fun _ _ h => by first | rfl | kernel_rfl) ?_
  refine lx.o_pure (.pointer (some ⟨g, 1, none⟩)) (fun _ _ h => by first | rfl | kernel_rfl) ?_
  refine lx.o_eff (.int .i64 (i : Nat)) (fun D X h0 hdep hC => ?_) ?_
  · have h18 : D 18 = false := by
      cases h : D 18 with
      | false => rfl
      | true =>
        exfalso
        obtain ⟨q1, q2, q3, q4, -⟩ := hC
        have q5 := q3 (q4 h)
        rw [q1 (q2 q5.2)] at h0; cases h0
    refine ⟨X, lx.run_load rfl rfl Try.underlying3 rfl (blk_cell (FB D X hC h18) 1), ?_⟩
    obtain ⟨q1, q2, q3, q4, q5, q6, q7⟩ := hC
    exact ⟨fun _ => rfl, q2, q3, q4, q5, q6, q7⟩
  refine lx.o_eff (.slice (some (at0 lb1 cap1 i 1)) (n1 - i) (cap1 - i)) (fun D X h0 hdep hC => ?_) ?_
  · refine ⟨X, run_fromG rfl rfl rfl (by omega) (by omega) Try.underlying52 hinf hsz, ?_⟩
    obtain ⟨q1, q2, q3, q4, q5, q6, q7⟩ := hC
    exact ⟨fun _ => hdep ⟨11, .data⟩ (by simp) rfl, fun h => rfl, q3, q4, q5, q6, q7⟩
  refine lx.o_pure (.slice a m c) (fun _ _ h => by first | rfl | kernel_rfl) ?_
  refine lx.o_eff (.int .i64 (m : Nat)) (fun D X h0 hdep hC => ?_) ?_
  · obtain ⟨q1, q2, q3, q4, q5, q6, q7⟩ := hC
    have hs := q5 h0
    have h18 : D 18 = false := by
      cases h : D 18 with
      | false => rfl
      | true => have := (q3 (q4 h)).2; rw [h0] at this; cases this
    refine ⟨_, run_copyS rfl rfl rfl (HSR.out.of (by rw [hs.heap]; exact Nat.le_refl _) (fun b off e hlt => by rw [hs.heap])) (by omega) (hs.blk HG.out.hl) HG.out.sz (by omega) Try.underlying52 hinf hsz, q1, fun _ => hdep ⟨12, .data⟩ (by simp) rfl, fun h => ⟨(q3 h).1, rfl⟩, q4, (fun h => by cases h), fun _ _ => hs.setRow _ _, fun h => ?_⟩
    have h18b : D 18 = true := h
    rw [h18] at h18b; cases h18b
  refine lx.o_eff (.int .i64 ((i + m : Nat) : Int)) (fun D X h0 hdep hC => ?_) ?_
  · refine ⟨X, lx.run_add rfl rfl rfl (by omega) (by omega), ?_⟩
    obtain ⟨q1, q2, q3, q4, q5, q6, q7⟩ := hC
    exact ⟨q1, q2, fun _ => ⟨hdep ⟨3, .data⟩ (by simp) rfl, hdep ⟨14, .data⟩ (by simp) rfl⟩, fun h => rfl, q5, q6, q7⟩
  refine lx.o_pure (.pointer (some ⟨g, 0, none⟩)) (fun _ _ h => by first | rfl | kernel_rfl) ?_
  refine lx.o_pure (.pointer (some ⟨g, 1, none⟩)) (fun _ _ h => by first | rfl | kernel_rfl) ?_
  refine lx.o_put (fun D X h0 hdep hC => ?_) ?_
  · have hb := FB D X hC h0
    obtain ⟨q1, q2, q3, q4, q5, q6, q7⟩ := hC
    have h15 : D 15 = true := hdep ⟨15, .data⟩ (by simp) rfl
    have hs := q6 (q3 h15).2 h0
    exact ⟨_, run_storeI rfl rfl rfl hb (by show 1 < 3; omega), q1, q2, q3, fun _ => h15, (fun h => by have h9 : D 14 = false := h; rw [(q3 h15).2] at h9; cases h9), (fun _ h => by cases h), fun _ => hs.setCell _ _⟩
  refine lx.o_end ?_
  simp only [lx.ov]
  rintro X4 d9 hd9 ⟨-, -, -, -, -, -, hX4⟩
  replace hX4 := hX4 (hd9 18 (by decide))
  clear hd9 FB FL
  go_simp
  go_wp2
  go_ret
  have hb9 := (set3 (show (w2.setRow lb1 (spl A1 (i * 1) cs).toArray).heap[g]? = _ from (setRow_off hne _).trans HG.out.hg) (.int .i64 ((i + m : Nat) : Int))).2.1
  have hl9 := (Below.heap_setCell (w2.setRow lb1 (spl A1 (i * 1) cs).toArray) ⟨g, 1, none⟩ (.int .i64 ((i + m : Nat) : Int)) lb1 hne.symm).trans (setRow_same HG.out.hl _)
  have hk9 := ((HK.out.setRow (b := lb1) (by rw [hw1] at hlb1; exact hlb1.elim (fun h => .inl (.inr h)) .inr) (spl A1 (i * 1) cs).toArray).setCell (i := 1) (b := g) (.inl (.inl rfl)) (.int .i64 ((i + m : Nat) : Int)))
  have hsz2 := HG.out.sz
  have hln := HSR.out.len
  have hfit : i * 1 + cs.length ≤ A1.length := by rw [hln]; omega
  have hfin := has_put HC.out (by rw [hln]; omega) (by omega) (by omega) (cs := cs)
  rw [hln, ← Nat.add_mul] at hfin
  have hN := HN.out
  rw [hw1] at hlb1
  exact ⟨rfl, lb1, n1, cap1, U1, _, Same.ga ⟨hb9, hl9, (spl_length hfit).trans hsz2, by omega, by omega, hnc1, hne⟩ hX4, hfin, by omega, hlb1, by omega, Same.kept hk9 hX4⟩
theorem append_none (w : World) (ty : TypeId) (b c : Nat) (a : Option Addr) : (Builtin.append_ #[52, 52] ty #[.slice (some ⟨b, 0, none⟩) 0 0, .slice a 0 c]).run Try.prog w = .ok (.slice (some ⟨b, 0, none⟩) 0 0) w := by
  obtain ⟨it, hinf, hz0, hsz, hby⟩ := info_parts info
  cases a <;> simp [Builtin.append_, run_underlying Try.underlying52, sizeOf, typeInfo, hinf, storeCells, Builtin.lenOf, Builtin.firstCells, loadCells, go_sem]
theorem run_lenA {o : Oper} {ρ : Operand → Value} {w : World} {s : Operand} {a : Option Addr} {n c : Nat} (ho : o.op = .call { callee := .builtin .len, args := #[s], argTypes := #[52] }) (hs : ρ s = .slice a n c) : (execOp ρ o).run Try.prog w = .ok (.value (.int .i64 (n : Nat))) w := by
  unfold execOp
  simp only [ho]
  simp [hs, resolve, invoke, builtin, Builtin.len_, Builtin.lenOf, go_sem]
theorem run_build3 {o : Oper} {ρ : Operand → Value} {w : World} {p q r : Operand} {a : Option Addr} {n c : Nat} {x y : Int} (ho : o.op = .build 59 #[(0, p), (1, q), (2, r)]) (hp : ρ p = .slice a n c) (hq : ρ q = .int .i64 x) (hr : ρ r = .int .i64 y) : (execOp ρ o).run Try.prog w = .ok (.value (.agg #[.slice a n c, .int .i64 x, .int .i64 y])) w := by
  unfold execOp
  simp only [ho]
  simp [hp, hq, hr, go_sem]
theorem run_box3 {o : Oper} {ρ : Operand → Value} {w : World} {p : Operand} {a b c : Value} (ho : o.op = .box 59 p) (hx : ρ p = .agg #[a, b, c]) : (execOp ρ o).run Try.prog w = .ok (.value (.pointer (some ⟨w.heap.size, 0, none⟩))) (w.alloc (.cells #[a, b, c] 59)) := by
  unfold execOp
  simp only [ho, hx]
  simp [go_sem]
set_option maxRecDepth 100000 in
set_option maxHeartbeats 8000000 in
theorem new_any {w : World} (a : Option Addr) (m c : Nat) (cs : List Value) (hs : Src 1 w a m c cs) (hm : m ≤ 1099511627776) :
    Calls Try.prog 7 #[.slice a m c] w fun e w' => ∃ g lb cap A, e = .returned (.pointer (some ⟨g, 0, none⟩)) ∧ G g lb m cap m m A w' ∧ HasC (m * 1) (m * 1) (m * 1) A cs ∧ w.heap.size ≤ g ∧ w.heap.size ≤ lb ∧ Below w.heap.size w w' := by
  obtain ⟨it, hinf, hz0, hsz, hby⟩ := info_parts info
  obtain ⟨wE, hwE⟩ : ∃ wE, wE = w.alloc (.cells #[] 9) := ⟨_, rfl⟩
  have hse : wE.heap.size = w.heap.size + 1 := by rw [hwE, World.size_alloc]
  have hbE : Below w.heap.size w wE := by rw [hwE]; exact run.below_one w _
  have hown0 : wE.ownsRow w.heap.size 9 1 (.slice (some ⟨w.heap.size, 0, none⟩) 0 0) 0 [] := by rw [hwE]; exact own_empty (Nat.le_refl _)
  have hsE : Src 1 wE a m c cs := hs.kept (S := fun _ => False) (Kept.of_below hbE) (fun _ _ _ h => h)
  have hrd : run.ReadsN 1 wE (.slice a m c) m cs := by
    refine ⟨hs.len, a, c, rfl, fun hne => ?_, fun e => ?_⟩
    · rcases hsE.at' with ⟨-, h0, -⟩ | ⟨b, off, e, hlt, hc⟩
      · exfalso
        apply hne
        exact List.length_eq_zero_iff.1 (by rw [hs.len, h0, Nat.zero_mul])
      · exact ⟨b, off, e, hlt, hc⟩
    · rcases hs.at' with ⟨-, -, h0⟩ | ⟨b, off, e2, -, -⟩
      · exact h0
      · rw [e2] at e; cases e
  obtain ⟨v6, w6, hr6, hown6, hg6, hold6, hst6⟩ := run.run_append_any (P := Try.prog) wE w.heap.size 52 52 9 it (.string ⟨#[]⟩) 1 16 Try.underlying52 hinf hz0 hsz hby rfl (by decide) _ 0 [] hown0 (.slice a m c) m cs hrd hs.one (by unfold maxLen; omega) (by omega) (by omega)
  rw [Nat.zero_add, List.nil_append] at hown6
  obtain ⟨lb, cap, cur, rfl, hlbb, hlh, hnc, hcm, hcs, htk⟩ : ∃ lb cap cur, v6 = .slice (some ⟨lb, 0, none⟩) m cap ∧ w.heap.size ≤ lb ∧ w6.heap[lb]? = some (.cells cur 9 (0, 0)) ∧ m ≤ cap ∧ cap ≤ maxLen ∧ cur.size = cap * 1 ∧ cur.toList.take (m * 1) = cs := by
    rcases hown6.2 with ⟨e1, e2⟩ | h
    · exfalso
      subst e2
      have := append_none wE 52 w.heap.size c a
      rw [this] at hr6
      simp only [Result.ok.injEq] at hr6
      rw [e1] at hr6
      simp at hr6
    · exact h
  have hg6' : wE.grownBy w6 (some w.heap.size) := hg6
  have hb6 : Below w.heap.size w w6 := hbE.trans ⟨hg6'.os, hg6'.tape, hg6'.output, hg6'.size, fun q hq => hg6'.block q (by omega) (by simp; omega)⟩
  have HF := run.hid (And.intro hb6 (And.intro hlh (And.intro hcs htk)))
  have hs6 := hb6.size
  have hlt6 := (Array.getElem?_eq_some_iff.1 hlh).1
  have HWE := run.hid hwE
  clear hwE hse hbE hown0 hsE hrd hown6 hg6 hold6 hst6 hg6' hb6 hlh hcs htk hs
  go_enter Try.func7, Try.ntmps7
  go_upto_region 1 with fail
  refine lx.straight (fun D X => (D 2 = true → D 0 = true) ∧ (D 7 = true → D 2 = true) ∧ (D 8 = true → D 7 = true) ∧ (D 0 = false → X = w) ∧ (D 0 = true → D 2 = false → X = wE) ∧ (D 2 = true → D 8 = false → X = w6) ∧ (D 8 = true → X = w6.alloc (.cells #[.slice (some ⟨lb, 0, none⟩) m cap, .int .i64 (m : Nat), .int .i64 (m : Nat)] 59))) (by kernel_rfl) ⟨fun h => (by cases h), fun h => (by cases h), fun h => (by cases h), fun _ => rfl, fun h => (by cases h), fun h => (by cases h), fun h => (by cases h)⟩ ?_
  refine lx.begin 12 rfl ?_
  refine lx.o_eff (.slice (some ⟨w.heap.size, 0, none⟩) 0 0) (fun D X h0 hdep hC => ?_) ?_
  · obtain ⟨q1, q2, q3, q4, q5, q6, q7⟩ := hC
    obtain rfl : w = X := (q4 h0).symm
    have h2 : D 2 = false := by
      cases h : D 2 with
      | false => rfl
      | true => have := q1 h; rw [h0] at this; cases this
    have h7 : D 7 = false := by
      cases h : D 7 with
      | false => rfl
      | true => have := q2 h; rw [h2] at this; cases this
    have h8 : D 8 = false := by
      cases h : D 8 with
      | false => rfl
      | true => have := q3 h; rw [h7] at this; cases this
    exact ⟨wE, by rw [HWE.out]; exact run_build0 rfl, fun _ => rfl, q2, q3, (fun h => by cases h), fun _ _ => rfl, (fun h => by have h9 : D 2 = true := h; rw [h2] at h9; cases h9), (fun h => by have h9 : D 8 = true := h; rw [h8] at h9; cases h9)⟩
  refine lx.o_pure (.slice a m c) (fun _ _ h => by first | rfl | kernel_rfl) ?_
  refine lx.o_eff (.slice (some ⟨lb, 0, none⟩) m cap) (fun D X h0 hdep hC => ?_) ?_
  · obtain ⟨q1, q2, q3, q4, q5, q6, q7⟩ := hC
    have h00 : D 0 = true := hdep ⟨0, .data⟩ (by simp) rfl
    obtain rfl : wE = X := (q5 h00 h0).symm
    have h7 : D 7 = false := by
      cases h : D 7 with
      | false => rfl
      | true => have := q2 h; rw [h0] at this; cases this
    have h8 : D 8 = false := by
      cases h : D 8 with
      | false => rfl
      | true => have := q3 h; rw [h7] at this; cases this
    exact ⟨w6, run_appG rfl rfl rfl hr6, fun _ => h00, fun _ => rfl, q3, (fun h => by have h9 : D 0 = false := h; rw [h00] at h9; cases h9), (fun _ h => by cases h), fun _ _ => rfl, (fun h => by have h9 : D 8 = true := h; rw [h8] at h9; cases h9)⟩
  refine lx.o_pure (.slice a m c) (fun _ _ h => by first | rfl | kernel_rfl) ?_
  refine lx.o_pure (.int .i64 (m : Nat)) (fun D X hC => run_lenA rfl rfl) ?_
  refine lx.o_pure (.slice a m c) (fun _ _ h => by first | rfl | kernel_rfl) ?_
  refine lx.o_pure (.int .i64 (m : Nat)) (fun D X hC => run_lenA rfl rfl) ?_
  refine lx.o_eff (.agg #[.slice (some ⟨lb, 0, none⟩) m cap, .int .i64 (m : Nat), .int .i64 (m : Nat)]) (fun D X h0 hdep hC => ?_) ?_
  · obtain ⟨q1, q2, q3, q4, q5, q6, q7⟩ := hC
    exact ⟨X, run_build3 rfl rfl rfl rfl, q1, fun _ => hdep ⟨2, .data⟩ (by simp) rfl, fun h => rfl, q4, q5, q6, q7⟩
  refine lx.o_eff (.pointer (some ⟨w6.heap.size, 0, none⟩)) (fun D X h0 hdep hC => ?_) ?_
  · obtain ⟨q1, q2, q3, q4, q5, q6, q7⟩ := hC
    have h7 : D 7 = true := hdep ⟨7, .data⟩ (by simp) rfl
    obtain rfl : w6 = X := (q6 (q2 h7) h0).symm
    exact ⟨_, run_box3 rfl rfl, q1, q2, fun _ => h7, (fun h => by have h9 : D 0 = false := h; rw [q1 (q2 h7)] at h9; cases h9), (fun _ h => by have h9 : D 2 = false := h; rw [q2 h7] at h9; cases h9), (fun _ h => by cases h), fun _ => rfl⟩
  refine lx.o_pure (.pointer (some ⟨w6.heap.size, 0, none⟩)) (fun _ _ h => by first | rfl | kernel_rfl) ?_
  refine lx.o_end ?_
  simp only [lx.ov]
  rintro X4 d9 hd9 ⟨-, -, -, -, -, -, hX4⟩
  replace hX4 := hX4 (hd9 8 (by decide))
  subst hX4
  clear hd9 hr6
  go_simp
  go_wp2
  go_ret
  obtain ⟨hb6, hlh, hcs, htk⟩ := HF.out
  have hs6 := hb6.size
  have hne : w6.heap.size ≠ lb := by omega
  refine ⟨w6.heap.size, lb, cap, cur.toList, rfl, ⟨heap_alloc_new _ _, (blk_old _ hlt6).trans (by rw [hlh]), by rw [Array.length_toList]; exact hcs, Nat.le_refl _, Nat.le_refl _, hnc, hne⟩, ?_, hs6, hlbb, hb6.alloc hs6 _⟩
  unfold HasC
  rw [Nat.sub_self, List.take_zero, List.append_nil]
  exact htk
end Go.Proofs.Ytgpgbbbcodnieaa.edS
