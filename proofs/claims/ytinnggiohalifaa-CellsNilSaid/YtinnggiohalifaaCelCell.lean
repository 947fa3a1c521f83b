/-
  The walk of the layer cells: a cell told.
-/
import Derived.Test.YtinnggiohalifaaCelNew
namespace Go.Proofs.Ytinnggiohalifaa.cel
open Go Go.RowKit Go.Proofs
set_option linter.unusedVariables false

theorem run_loadcell {o : Oper} {ρ : Operand → Value} {w : World} {p : Operand} {b g W H k : Nat} {L : List CV} (h : Buf w b g W H L) (hk : k < W * H) (ho : o.op = .load 44 p) (hx : ρ p = .pointer (some ⟨g, k * 5, none⟩)) : (execOp ρ o).run Try.prog w = .ok (.value (L.getD k z0).val) w := by
  obtain ⟨c0, c1, c2, c3, c4⟩ := h.grid.at (show k < L.length by rw [h.len]; exact hk)
  unfold execOp
  simp only [ho, hx]
  simp [go_sem, c0, c1, c2, c3, c4, CV.val]
theorem zero_cell (w : World) : (zeroValue 44).run Try.prog w = .ok (.agg #[.string ⟨#[]⟩, .int .i8 0, .int .i32 0, .int .i32 0, .int .u8 0]) w := by kernel_rfl

set_option maxHeartbeats 400000 in
theorem cell_nil (x y : Int) (w : World) : Calls Try.prog 33 #[.pointer none, .int .i64 x, .int .i64 y] w fun e w' => e = .returned (.tuple #[z0.val, .bool false]) ∧ Below w.heap.size w w' := by
  show Calls _ _ _ _ fun e w' => e = .returned (.tuple #[.agg #[.string ⟨#[]⟩, .int .i8 0, .int .i32 0, .int .i32 0, .int .u8 0], .bool false]) ∧ _
  have hb := run.below_one w (.cells #[.string ⟨#[]⟩, .int .i8 0, .int .i32 0, .int .i32 0, .int .u8 0] 44)
  obtain ⟨⟨e0, e1, e2, e3, e4⟩, -⟩ := blk5 (heap_alloc_new w (.cells #[.string ⟨#[]⟩, .int .i8 0, .int .i32 0, .int .i32 0, .int .u8 0] 44))
  go_enter Try.func33, Try.ntmps33
  go_wp2
  refine bodyPost_ret (v := .tuple #[.agg #[.string ⟨#[]⟩, .int .i8 0, .int .i32 0, .int .i32 0, .int .u8 0], .bool false]) ((results_cell_tmp rfl _ _ _).trans ?_) rfl ?_
  · simp [go_sem, e0, e1, e2, e3, e4]
  · exact ⟨rfl, hb⟩

set_option maxHeartbeats 2000000 in
theorem cell_out (b g W H : Nat) (L : List CV) (x y : Int) (w : World) (h : Buf w b g W H L) (hi : ¬ (0 ≤ x ∧ x < W ∧ 0 ≤ y ∧ y < H)) : Calls Try.prog 33 #[.pointer (some ⟨b, 0, none⟩), .int .i64 x, .int .i64 y] w fun e w' => e = .returned (.tuple #[z0.val, .bool false]) ∧ Below w.heap.size w w' := by
  show Calls _ _ _ _ fun e w' => e = .returned (.tuple #[.agg #[.string ⟨#[]⟩, .int .i8 0, .int .i32 0, .int .i32 0, .int .u8 0], .bool false]) ∧ _
  have hb := run.below_one w (.cells #[.string ⟨#[]⟩, .int .i8 0, .int .i32 0, .int .i32 0, .int .u8 0] 44)
  obtain ⟨⟨e0, e1, e2, e3, e4⟩, -⟩ := blk5 (heap_alloc_new w (.cells #[.string ⟨#[]⟩, .int .i8 0, .int .i32 0, .int .i32 0, .int .u8 0] 44))
  have p0 := (h.alloc (.cells #[.string ⟨#[]⟩, .int .i8 0, .int .i32 0, .int .i32 0, .int .u8 0] 44)).h0
  have p1 := (h.alloc (.cells #[.string ⟨#[]⟩, .int .i8 0, .int .i32 0, .int .i32 0, .int .u8 0] 44)).h1
  clear h
  by_cases h1 : x < 0
  · clear hi
    go_enter Try.func33, Try.ntmps33
    go_wp2
    refine bodyPost_ret (v := .tuple #[.agg #[.string ⟨#[]⟩, .int .i8 0, .int .i32 0, .int .i32 0, .int .u8 0], .bool false]) ((results_cell_tmp rfl _ _ _).trans ?_) rfl ?_
    · simp [go_sem, e0, e1, e2, e3, e4]
    · exact ⟨rfl, hb⟩
  by_cases h2 : (W : Int) ≤ x
  · clear hi
    go_enter Try.func33, Try.ntmps33
    go_wp2
    refine bodyPost_ret (v := .tuple #[.agg #[.string ⟨#[]⟩, .int .i8 0, .int .i32 0, .int .i32 0, .int .u8 0], .bool false]) ((results_cell_tmp rfl _ _ _).trans ?_) rfl ?_
    · simp [go_sem, e0, e1, e2, e3, e4]
    · exact ⟨rfl, hb⟩
  by_cases h3 : y < 0
  · clear hi
    go_enter Try.func33, Try.ntmps33
    go_wp2
    refine bodyPost_ret (v := .tuple #[.agg #[.string ⟨#[]⟩, .int .i8 0, .int .i32 0, .int .i32 0, .int .u8 0], .bool false]) ((results_cell_tmp rfl _ _ _).trans ?_) rfl ?_
    · simp [go_sem, e0, e1, e2, e3, e4]
    · exact ⟨rfl, hb⟩
  · have h4 : (H : Int) ≤ y := by omega
    clear hi
    go_enter Try.func33, Try.ntmps33
    go_wp2
    refine bodyPost_ret (v := .tuple #[.agg #[.string ⟨#[]⟩, .int .i8 0, .int .i32 0, .int .i32 0, .int .u8 0], .bool false]) ((results_cell_tmp rfl _ _ _).trans ?_) rfl ?_
    · simp [go_sem, e0, e1, e2, e3, e4]
    · exact ⟨rfl, hb⟩

/-- a block of a result's cells, written once within a statement -/
def Once (w : World) (n : Nat) (Z V : Array Value) (t : TypeId) (is : Nat) (D : Nat → Bool) (W : World) : Prop :=
  Below w.heap.size w W ∧ (D is = false → W.heap[n]? = some (.cells Z t (0, 0))) ∧ (D is = true → W.heap[n]? = some (.cells V t (0, 0)))

set_option maxRecDepth 100000 in
set_option maxHeartbeats 4000000 in
theorem cell_in (b g W H : Nat) (L : List CV) (x y : Nat) (w : World) (h : Buf w b g W H L) (hx : x < W) (hy : y < H) : Calls Try.prog 33 #[.pointer (some ⟨b, 0, none⟩), .int .i64 x, .int .i64 y] w fun e w' => e = .returned (.tuple #[(L.getD (y * W + x) z0).val, .bool true]) ∧ Below w.heap.size w w' := by
  obtain ⟨it, hinf, -, hsz, -⟩ := info_parts info_cell
  have hlt := h.lt
  have hw := h.wide
  have hh := h.high
  have hk : y * W + x < W * H := by
    have h1 := Nat.mul_le_mul_right W (show y + 1 ≤ H by omega)
    rw [Nat.add_mul, Nat.one_mul, Nat.mul_comm H W] at h1
    omega
  have hsz2 := h.size
  have HB := run.hid (h.alloc (.cells #[.string ⟨#[]⟩, .int .i8 0, .int .i32 0, .int .i32 0, .int .u8 0] 44))
  have p0 := HB.out.h0
  have p1 := HB.out.h1
  have HK := run.hid (show Below w.heap.size w (w.alloc (.cells #[.string ⟨#[]⟩, .int .i8 0, .int .i32 0, .int .i32 0, .int .u8 0] 44)) ∧ _ from ⟨run.below_one w _, heap_alloc_new w (.cells #[.string ⟨#[]⟩, .int .i8 0, .int .i32 0, .int .i32 0, .int .u8 0] 44)⟩)
  have HLD := run.hid (fun (o : Oper) (ρ : Operand → Value) (W' : World) (p : Operand) (h : Buf W' b g W H L) (ho : o.op = .load 44 p) (hx : ρ p = .pointer (some ⟨g, (y * W + x) * 5, none⟩)) => run_loadcell h hk ho hx)
  generalize L.getD (y * W + x) z0 = c at *
  have hq : (((y * W : Nat) : Int)) = (y : Int) * W := Int.natCast_mul y W
  obtain ⟨q, hq2⟩ : ∃ q : Nat, q = y * W := ⟨_, rfl⟩
  rw [← hq2] at hk HLD hq
  clear hq2
  obtain ⟨ct, cw, cf, cb, ca⟩ := c
  change Hid (∀ (o : Oper) (ρ : Operand → Value) (W' : World) (p : Operand) (h : Buf W' b g W H L) (ho : o.op = .load 44 p) (hx : ρ p = .pointer (some ⟨g, (q + x) * 5, none⟩)), (execOp ρ o).run Try.prog W' = .ok (.value (.agg #[.string ct, .int .i8 cw, .int .i32 cf, .int .i32 cb, .int .u8 ca])) W') at HLD
  show Calls _ _ _ _ fun e w' => e = .returned (.tuple #[.agg #[.string ct, .int .i8 cw, .int .i32 cf, .int .i32 cb, .int .u8 ca], .bool true]) ∧ _
  have HB0 := run.hid h
  clear h
  go_enter Try.func33, Try.ntmps33
  go_upto_region 3 with fail
  refine lx.region (Once w w.heap.size #[.string ⟨#[]⟩, .int .i8 0, .int .i32 0, .int .i32 0, .int .u8 0] #[.string ct, .int .i8 cw, .int .i32 cf, .int .i32 cb, .int .u8 ca] 44 14) (by kernel_rfl) (by kernel_rfl) (by kernel_rfl) ⟨drewB HK.out.1, fun _ => HK.out.2, fun h => by cases h⟩ ?_
  refine lx.begin 49 rfl ?_
  refine lx.o_pure (.pointer (some ⟨b, 0, none⟩)) (fun _ _ h => by first | rfl | kernel_rfl) ?_
  refine lx.o_pure (.pointer (some ⟨b, 0, none⟩)) (fun _ _ h => by first | rfl | kernel_rfl) ?_
  refine lx.o_pure (.pointer (some ⟨b, 2, none⟩)) (fun _ _ h => by first | rfl | kernel_rfl) ?_
  refine lx.o_pure (.slice (some ⟨g, 0, none⟩) (W * H : Nat) (W * H : Nat)) (fun D W' hC => lx.run_load rfl rfl Try.underlying35 rfl (HB0.out.below hC.1).h2) ?_
  refine lx.o_pure (.int .i64 (y : Nat)) (fun _ _ h => by first | rfl | kernel_rfl) ?_
  refine lx.o_pure (.pointer (some ⟨b, 0, none⟩)) (fun _ _ h => by first | rfl | kernel_rfl) ?_
  refine lx.o_pure (.pointer (some ⟨b, 0, none⟩)) (fun _ _ h => by first | rfl | kernel_rfl) ?_
  refine lx.o_pure (.pointer (some ⟨b, 0, none⟩)) (fun _ _ h => by first | rfl | kernel_rfl) ?_
  refine lx.o_pure (.int .i64 (W : Nat)) (fun D W' hC => lx.run_load rfl rfl Try.underlying3 rfl (HB0.out.below hC.1).h0) ?_
  refine lx.o_pure (.int .i64 (q : Nat)) (fun _ _ _ => lx.run_mul rfl rfl rfl hq.symm (by omega)) ?_
  refine lx.o_pure (.int .i64 (x : Nat)) (fun _ _ h => by first | rfl | kernel_rfl) ?_
  refine lx.o_pure (.int .i64 ((q + x : Nat) : Int)) (fun _ _ _ => lx.run_add rfl rfl rfl (by omega) (by push_cast; rfl)) ?_
  refine lx.o_pure (.pointer (some ⟨g, (q + x) * 5, none⟩)) (fun D W' hC => run_at5 rfl rfl rfl hk Try.underlying35 hinf hsz) ?_
  refine lx.o_pure (.agg #[.string ct, .int .i8 cw, .int .i32 cf, .int .i32 cb, .int .u8 ca]) (fun D W' hC => HLD.out _ _ _ _ (HB0.out.below hC.1) rfl rfl) ?_
  refine lx.o_put (fun D W' h0 hdep hC => ?_) ?_
  · obtain ⟨c2, c3, -⟩ := hC
    have h0' : D 14 = false := h0
    have c5 := c3 h0'
    obtain ⟨⟨d0, d1, d2, d3, d4⟩, g0, g1, g2, g3, g4⟩ := blk5 c5
    refine ⟨_, ?_, below5 _ _ _ _ _ c2 (Nat.le_refl _), (fun h => by cases h), fun _ => set5 c5⟩
    unfold execOp
    simp only
    rw [show lx.look _ _ (Operand.tmp 6) = Value.pointer (some ⟨w.heap.size, 0, none⟩) from rfl, show lx.look _ _ (Operand.tmp 48) = Value.agg #[.string ct, .int .i8 cw, .int .i32 cf, .int .i32 cb, .int .u8 ca] from rfl]
    simp [go_sem, d0, d1, d2, d3, d4, g0, g1, g2, g3, g4]
  refine lx.o_pure (.bool true) (fun _ _ h => by first | rfl | kernel_rfl) ?_
  refine lx.o_end ?_
  simp only [lx.ov]
  rintro W' d hd ⟨c2, -, c4⟩
  have K9 := run.hid (c4 (hd 14 (by decide)))
  have HB9 := run.hid c2
  clear c2 c4 hd HK HB0 HLD HB p0 p1
  go_simp
  go_wp2
  refine bodyPost_ret (v := .tuple #[.agg #[.string ct, .int .i8 cw, .int .i32 cf, .int .i32 cb, .int .u8 ca], .bool true]) ((results_cell_tmp rfl _ _ _).trans ?_) rfl ?_
  · obtain ⟨⟨e0, e1, e2, e3, e4⟩, -⟩ := blk5 K9.out
    simp [go_sem, e0, e1, e2, e3, e4]
  · exact ⟨rfl, HB9.out⟩
end Go.Proofs.Ytinnggiohalifaa.cel
