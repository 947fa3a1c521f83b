/-
  Rows of cells; a cell told, all cells told; styles and cells compared; arguments opened; the document's styles.
-/
import Derived.Test.YtdgcfmfjgidbjaaGreatCelB
import Derived.Laws.CopyRow
import Derived.Test.YtdgcfmfjgidbjaaGreatCelA
import Derived.Test.YtdgcfmfjgidbjaaGreatLx2
import Derived.Laws.CopyOwn
import Derived.Laws.StructEq
import Derived.Test.YtdgcfmfjgidbjaaGreatUtfAll
import Derived.ProofKit
import Derived.OpenShut
import Derived.SizedLaws
import Derived.Deep.Slices
namespace Go.Proofs.YtdgcfmfjgidbjaaGreat.cel
open Go Go.RowKit Go.Proofs
set_option linter.unusedVariables false

def cells5 (L : List CV) : List Value := L.flatMap fun c => [.string c.text, .int .i8 c.wide, .int .i32 c.sty.fg, .int .i32 c.sty.bg, .int .u8 c.sty.att]
theorem cells5_cons (c : CV) (L : List CV) : cells5 (c :: L) = .string c.text :: .int .i8 c.wide :: .int .i32 c.sty.fg :: .int .i32 c.sty.bg :: .int .u8 c.sty.att :: cells5 L := rfl
theorem cells5_append (a b : List CV) : cells5 (a ++ b) = cells5 a ++ cells5 b := by simp [cells5]
theorem cells5_length : ∀ L : List CV, (cells5 L).length = L.length * 5
  | [] => rfl
  | c :: L => by rw [cells5_cons]; simp only [List.length_cons]; rw [cells5_length L]; omega
theorem cells5_get : ∀ (L : List CV) (k : Nat) (_ : k < L.length), (cells5 L)[k * 5]? = some (.string (L.getD k z0).text) ∧ (cells5 L)[k * 5 + 1]? = some (.int .i8 (L.getD k z0).wide) ∧ (cells5 L)[k * 5 + 2]? = some (.int .i32 (L.getD k z0).sty.fg) ∧ (cells5 L)[k * 5 + 3]? = some (.int .i32 (L.getD k z0).sty.bg) ∧ (cells5 L)[k * 5 + 4]? = some (.int .u8 (L.getD k z0).sty.att)
  | c :: L, 0, _ => ⟨rfl, rfl, rfl, rfl, rfl⟩
  | c :: L, k + 1, h => by
    have := cells5_get L k (by simpa using h)
    rw [cells5_cons, show (k + 1) * 5 = k * 5 + 1 + 1 + 1 + 1 + 1 by omega]
    exact this
theorem cells5_at {L : List CV} {j : Nat} {v : Value} (h : (cells5 L)[j]? = some v) : ∃ k, k < L.length ∧
    ((j = k * 5 ∧ v = .string (L.getD k z0).text) ∨ (j = k * 5 + 1 ∧ v = .int .i8 (L.getD k z0).wide) ∨ (j = k * 5 + 2 ∧ v = .int .i32 (L.getD k z0).sty.fg) ∨ (j = k * 5 + 3 ∧ v = .int .i32 (L.getD k z0).sty.bg) ∨ (j = k * 5 + 4 ∧ v = .int .u8 (L.getD k z0).sty.att)) := by
  have hj : j < L.length * 5 := by
    rw [← cells5_length]
    exact (List.getElem?_eq_some_iff.1 h).1
  obtain ⟨g0, g1, g2, g3, g4⟩ := cells5_get L (j / 5) (by omega)
  refine ⟨j / 5, by omega, ?_⟩
  have hm : j % 5 = 0 ∨ j % 5 = 1 ∨ j % 5 = 2 ∨ j % 5 = 3 ∨ j % 5 = 4 := by omega
  rcases hm with hm | hm | hm | hm | hm
  · have e : j = j / 5 * 5 := by omega
    rw [← e, h] at g0
    exact .inl ⟨e, Option.some.inj g0⟩
  · have e : j = j / 5 * 5 + 1 := by omega
    rw [← e, h] at g1
    exact .inr (.inl ⟨e, Option.some.inj g1⟩)
  · have e : j = j / 5 * 5 + 2 := by omega
    rw [← e, h] at g2
    exact .inr (.inr (.inl ⟨e, Option.some.inj g2⟩))
  · have e : j = j / 5 * 5 + 3 := by omega
    rw [← e, h] at g3
    exact .inr (.inr (.inr (.inl ⟨e, Option.some.inj g3⟩)))
  · have e : j = j / 5 * 5 + 4 := by omega
    rw [← e, h] at g4
    exact .inr (.inr (.inr (.inr ⟨e, Option.some.inj g4⟩)))
theorem Grid.cells {w : World} {g : Nat} {L : List CV} (h : Grid w g L) {j : Nat} {v : Value} (hj : (cells5 L)[j]? = some v) : w.cell? ⟨g, j, none⟩ = some v := by
  obtain ⟨k, hk, h1⟩ := cells5_at hj
  obtain ⟨c0, c1, c2, c3, c4⟩ := h.at hk
  rcases h1 with ⟨rfl, rfl⟩ | ⟨rfl, rfl⟩ | ⟨rfl, rfl⟩ | ⟨rfl, rfl⟩ | ⟨rfl, rfl⟩ <;> assumption
theorem one_cell5 {L : List CV} : ∀ v ∈ cells5 L, v.oneCell' = true := by
  intro v hv
  unfold cells5 at hv
  rw [List.mem_flatMap] at hv
  obtain ⟨c, -, h⟩ := hv
  simp only [List.mem_cons, List.not_mem_nil, or_false] at h
  rcases h with rfl | rfl | rfl | rfl | rfl <;> rfl

/-- a slice of cells to be read -/
def Reads5 (w : World) (v : Value) (L : List CV) : Prop :=
  ∃ a cap, v = .slice a L.length cap ∧ ∀ i, i < L.length → ∃ b off, a = some ⟨b, off, none⟩ ∧ b < w.heap.size ∧ w.cell? ⟨b, off + i * 5, none⟩ = some (.string (L.getD i z0).text) ∧ w.cell? ⟨b, off + i * 5 + 1, none⟩ = some (.int .i8 (L.getD i z0).wide) ∧ w.cell? ⟨b, off + i * 5 + 2, none⟩ = some (.int .i32 (L.getD i z0).sty.fg) ∧ w.cell? ⟨b, off + i * 5 + 3, none⟩ = some (.int .i32 (L.getD i z0).sty.bg) ∧ w.cell? ⟨b, off + i * 5 + 4, none⟩ = some (.int .u8 (L.getD i z0).sty.att)
theorem reads5_n {w : World} {v : Value} {L : List CV} (h : run.ReadsN 5 w v L.length (cells5 L)) : Reads5 w v L := by
  obtain ⟨hl, a, cap, rfl, hc, h0⟩ := h
  refine ⟨a, cap, rfl, fun i hi => ?_⟩
  obtain ⟨b, off, rfl, hb, hcell⟩ := hc (by intro e; have := congrArg List.length e; rw [cells5_length, List.length_nil] at this; omega)
  obtain ⟨g0, g1, g2, g3, g4⟩ := cells5_get L i hi
  exact ⟨b, off, rfl, hb, hcell _ _ g0, by rw [Nat.add_assoc]; exact hcell _ _ g1, by rw [Nat.add_assoc]; exact hcell _ _ g2, by rw [Nat.add_assoc]; exact hcell _ _ g3, by rw [Nat.add_assoc]; exact hcell _ _ g4⟩
theorem reads5_own {w : World} {base : Nat} {v : Value} {L : List CV} (h : w.ownsRow base 59 5 v L.length (cells5 L)) : Reads5 w v L := reads5_n (run.readsN_own h)
theorem Reads5.of {w w' : World} {v : Value} {L : List CV} (h : Reads5 w v L) (hs : w.heap.size ≤ w'.heap.size) (hb : ∀ k, v.ownBlock = some k → w'.heap[k]? = w.heap[k]?) : Reads5 w' v L := by
  obtain ⟨a, cap, rfl, h⟩ := h
  refine ⟨a, cap, rfl, fun i hi => ?_⟩
  obtain ⟨b, off, rfl, hlt, h0, h1, h2, h3, h4⟩ := h i hi
  have hbb := hb b rfl
  exact ⟨b, off, rfl, Nat.lt_of_lt_of_le hlt hs, (World.cell?_of_block (a := ⟨b, _, none⟩) hbb).trans h0, (World.cell?_of_block (a := ⟨b, _, none⟩) hbb).trans h1, (World.cell?_of_block (a := ⟨b, _, none⟩) hbb).trans h2, (World.cell?_of_block (a := ⟨b, _, none⟩) hbb).trans h3, (World.cell?_of_block (a := ⟨b, _, none⟩) hbb).trans h4⟩
theorem Reads5.below {w w' : World} {v : Value} {L : List CV} (h : Reads5 w v L) (hb : Below w.heap.size w w') : Reads5 w' v L := by
  obtain ⟨a, cap, rfl, h⟩ := h
  refine ⟨a, cap, rfl, fun i hi => ?_⟩
  obtain ⟨b, off, rfl, hlt, h0, h1, h2, h3, h4⟩ := h i hi
  have hbb := hb.block b hlt
  exact ⟨b, off, rfl, Nat.lt_of_lt_of_le hlt hb.size, (World.cell?_of_block (a := ⟨b, _, none⟩) hbb).trans h0, (World.cell?_of_block (a := ⟨b, _, none⟩) hbb).trans h1, (World.cell?_of_block (a := ⟨b, _, none⟩) hbb).trans h2, (World.cell?_of_block (a := ⟨b, _, none⟩) hbb).trans h3, (World.cell?_of_block (a := ⟨b, _, none⟩) hbb).trans h4⟩

/-- copy, between rows of elements of any size -/
theorem run_copy_rowN {P : Program} (w : World) (dT sT ty elem : TypeId) (size : Nat) (g o dLen dCap : Nat) (a : Addr) (sLen sCap : Nat) (cur : Array Value) (t : TypeId) (cs : List Value)
    (hu : P.underlying dT = some (.slice elem)) (hs : (P.info? elem).map (·.size) = some size)
    (hg : w.heap[g]? = some (.cells cur t (0, 0))) (hn : cs.length = Nat.min sLen dLen * size)
    (hsrc : ∀ j v, cs[j]? = some v → w.cell? (a.add j) = some v) (hfit : o + cs.length ≤ cur.size) (h1 : ∀ v ∈ cs, v.oneCell' = true) :
    (Builtin.copy_ #[dT, sT] ty #[.slice (some ⟨g, o, none⟩) dLen dCap, .slice (some a) sLen sCap]).run P w =
      .ok (goInt (Nat.min sLen dLen)) (w.setRow g (cur.toList.take o ++ cs ++ cur.toList.drop (o + cs.length)).toArray) := by
  have hl := run_loadCells_list (P := P) w a cs hsrc
  have hst := run_storeCells_at P g o t cs 0 cur w hg (by simpa using hfit) h1
  cases hq : P.info? elem with
  | none => simp [hq] at hs
  | some i =>
    have hi : i.size = size := by simpa [hq] using hs
    simp [Builtin.copy_, run_underlying hu, Builtin.lenOf, Builtin.firstCells, sizeOf, typeInfo, hq, hi, ← hn, hl, hst]
end Go.Proofs.YtdgcfmfjgidbjaaGreat.cel
namespace Go.Proofs.YtdgcfmfjgidbjaaGreat.cel
open Go Go.RowKit Go.Proofs
set_option linter.unusedVariables false

theorem run_loadcell {o : Oper} {ρ : Operand → Value} {w : World} {p : Operand} {b g W H k : Nat} {L : List CV} (h : Buf w b g W H L) (hk : k < W * H) (ho : o.op = .load 59 p) (hx : ρ p = .pointer (some ⟨g, k * 5, none⟩)) : (execOp ρ o).run Tryz.prog w = .ok (.value (L.getD k z0).val) w := by
  obtain ⟨c0, c1, c2, c3, c4⟩ := h.grid.at (show k < L.length by rw [h.len]; exact hk)
  unfold execOp
  simp only [ho, hx]
  simp [go_sem, c0, c1, c2, c3, c4, CV.val]
theorem zero_cell (w : World) : (zeroValue 59).run Tryz.prog w = .ok (.agg #[.string ⟨#[]⟩, .int .i8 0, .int .i32 0, .int .i32 0, .int .u8 0]) w := by kernel_rfl

set_option maxHeartbeats 400000 in
theorem cell_nil (x y : Int) (w : World) : Calls Tryz.prog 22 #[.pointer none, .int .i64 x, .int .i64 y] w fun e w' => e = .returned (.tuple #[z0.val, .bool false]) ∧ Below w.heap.size w w' := by
  show Calls _ _ _ _ fun e w' => e = .returned (.tuple #[.agg #[.string ⟨#[]⟩, .int .i8 0, .int .i32 0, .int .i32 0, .int .u8 0], .bool false]) ∧ _
  have hb := run.below_one w (.cells #[.string ⟨#[]⟩, .int .i8 0, .int .i32 0, .int .i32 0, .int .u8 0] 59)
  obtain ⟨⟨e0, e1, e2, e3, e4⟩, -⟩ := blk5 (heap_alloc_new w (.cells #[.string ⟨#[]⟩, .int .i8 0, .int .i32 0, .int .i32 0, .int .u8 0] 59))
  go_enter Tryz.func22, Tryz.ntmps22
  go_wp2
  refine bodyPost_ret (v := .tuple #[.agg #[.string ⟨#[]⟩, .int .i8 0, .int .i32 0, .int .i32 0, .int .u8 0], .bool false]) ((results_cell_tmp rfl _ _ _).trans ?_) rfl ?_
  · simp [go_sem, e0, e1, e2, e3, e4]
  · exact ⟨rfl, hb⟩

set_option maxHeartbeats 2000000 in
theorem cell_out (b g W H : Nat) (L : List CV) (x y : Int) (w : World) (h : Buf w b g W H L) (hi : ¬ (0 ≤ x ∧ x < W ∧ 0 ≤ y ∧ y < H)) : Calls Tryz.prog 22 #[.pointer (some ⟨b, 0, none⟩), .int .i64 x, .int .i64 y] w fun e w' => e = .returned (.tuple #[z0.val, .bool false]) ∧ Below w.heap.size w w' := by
  show Calls _ _ _ _ fun e w' => e = .returned (.tuple #[.agg #[.string ⟨#[]⟩, .int .i8 0, .int .i32 0, .int .i32 0, .int .u8 0], .bool false]) ∧ _
  have hb := run.below_one w (.cells #[.string ⟨#[]⟩, .int .i8 0, .int .i32 0, .int .i32 0, .int .u8 0] 59)
  obtain ⟨⟨e0, e1, e2, e3, e4⟩, -⟩ := blk5 (heap_alloc_new w (.cells #[.string ⟨#[]⟩, .int .i8 0, .int .i32 0, .int .i32 0, .int .u8 0] 59))
  have p0 := (h.alloc (.cells #[.string ⟨#[]⟩, .int .i8 0, .int .i32 0, .int .i32 0, .int .u8 0] 59)).h0
  have p1 := (h.alloc (.cells #[.string ⟨#[]⟩, .int .i8 0, .int .i32 0, .int .i32 0, .int .u8 0] 59)).h1
  clear h
  by_cases h1 : x < 0
  · clear hi
    go_enter Tryz.func22, Tryz.ntmps22
    go_wp2
    refine bodyPost_ret (v := .tuple #[.agg #[.string ⟨#[]⟩, .int .i8 0, .int .i32 0, .int .i32 0, .int .u8 0], .bool false]) ((results_cell_tmp rfl _ _ _).trans ?_) rfl ?_
    · simp [go_sem, e0, e1, e2, e3, e4]
    · exact ⟨rfl, hb⟩
  by_cases h2 : (W : Int) ≤ x
  · clear hi
    go_enter Tryz.func22, Tryz.ntmps22
    go_wp2
    refine bodyPost_ret (v := .tuple #[.agg #[.string ⟨#[]⟩, .int .i8 0, .int .i32 0, .int .i32 0, .int .u8 0], .bool false]) ((results_cell_tmp rfl _ _ _).trans ?_) rfl ?_
    · simp [go_sem, e0, e1, e2, e3, e4]
    · exact ⟨rfl, hb⟩
  by_cases h3 : y < 0
  · clear hi
    go_enter Tryz.func22, Tryz.ntmps22
    go_wp2
    refine bodyPost_ret (v := .tuple #[.agg #[.string ⟨#[]⟩, .int .i8 0, .int .i32 0, .int .i32 0, .int .u8 0], .bool false]) ((results_cell_tmp rfl _ _ _).trans ?_) rfl ?_
    · simp [go_sem, e0, e1, e2, e3, e4]
    · exact ⟨rfl, hb⟩
  · have h4 : (H : Int) ≤ y := by omega
    clear hi
    go_enter Tryz.func22, Tryz.ntmps22
    go_wp2
    refine bodyPost_ret (v := .tuple #[.agg #[.string ⟨#[]⟩, .int .i8 0, .int .i32 0, .int .i32 0, .int .u8 0], .bool false]) ((results_cell_tmp rfl _ _ _).trans ?_) rfl ?_
    · simp [go_sem, e0, e1, e2, e3, e4]
    · exact ⟨rfl, hb⟩

/-- a block of a result's cells, written once within a statement -/
def Once (w : World) (n : Nat) (Z V : Array Value) (t : TypeId) (is : Nat) (D : Nat → Bool) (W : World) : Prop :=
  Below w.heap.size w W ∧ (D is = false → W.heap[n]? = some (.cells Z t (0, 0))) ∧ (D is = true → W.heap[n]? = some (.cells V t (0, 0)))

set_option maxRecDepth 100000 in
set_option maxHeartbeats 4000000 in
theorem cell_in (b g W H : Nat) (L : List CV) (x y : Nat) (w : World) (h : Buf w b g W H L) (hx : x < W) (hy : y < H) : Calls Tryz.prog 22 #[.pointer (some ⟨b, 0, none⟩), .int .i64 x, .int .i64 y] w fun e w' => e = .returned (.tuple #[(L.getD (y * W + x) z0).val, .bool true]) ∧ Below w.heap.size w w' := by
  obtain ⟨it, hinf, -, hsz, -⟩ := info_parts info_cell
  have hlt := h.lt
  have hw := h.wide
  have hh := h.high
  have hk : y * W + x < W * H := by
    have h1 := Nat.mul_le_mul_right W (show y + 1 ≤ H by omega)
    rw [Nat.add_mul, Nat.one_mul, Nat.mul_comm H W] at h1
    omega
  have hsz2 := h.size
  have HB := run.hid (h.alloc (.cells #[.string ⟨#[]⟩, .int .i8 0, .int .i32 0, .int .i32 0, .int .u8 0] 59))
  have p0 := HB.out.h0
  have p1 := HB.out.h1
  have HK := run.hid (show Below w.heap.size w (w.alloc (.cells #[.string ⟨#[]⟩, .int .i8 0, .int .i32 0, .int .i32 0, .int .u8 0] 59)) ∧ _ from ⟨run.below_one w _, heap_alloc_new w (.cells #[.string ⟨#[]⟩, .int .i8 0, .int .i32 0, .int .i32 0, .int .u8 0] 59)⟩)
  have HLD := run.hid (fun (o : Oper) (ρ : Operand → Value) (W' : World) (p : Operand) (h : Buf W' b g W H L) (ho : o.op = .load 59 p) (hx : ρ p = .pointer (some ⟨g, (y * W + x) * 5, none⟩)) => run_loadcell h hk ho hx)
  generalize L.getD (y * W + x) z0 = c at *
  have hq : (((y * W : Nat) : Int)) = (y : Int) * W := Int.natCast_mul y W
  obtain ⟨q, hq2⟩ : ∃ q : Nat, q = y * W := ⟨_, rfl⟩
  rw [← hq2] at hk HLD hq
  clear hq2
  obtain ⟨ct, cw, cf, cb, ca⟩ := c
  change Hid (∀ (o : Oper) (ρ : Operand → Value) (W' : World) (p : Operand) (h : Buf W' b g W H L) (ho : o.op = .load 59 p) (hx : ρ p = .pointer (some ⟨g, (q + x) * 5, none⟩)), (execOp ρ o).run Tryz.prog W' = .ok (.value (.agg #[.string ct, .int .i8 cw, .int .i32 cf, .int .i32 cb, .int .u8 ca])) W') at HLD
  show Calls _ _ _ _ fun e w' => e = .returned (.tuple #[.agg #[.string ct, .int .i8 cw, .int .i32 cf, .int .i32 cb, .int .u8 ca], .bool true]) ∧ _
  have HB0 := run.hid h
  clear h
  go_enter Tryz.func22, Tryz.ntmps22
  go_upto_region 3 with fail
  refine lx.region (Once w w.heap.size #[.string ⟨#[]⟩, .int .i8 0, .int .i32 0, .int .i32 0, .int .u8 0] #[.string ct, .int .i8 cw, .int .i32 cf, .int .i32 cb, .int .u8 ca] 59 14) (by kernel_rfl) (by kernel_rfl) (by kernel_rfl) ⟨drewB HK.out.1, fun _ => HK.out.2, fun h => by cases h⟩ ?_
  refine lx.begin 49 rfl ?_
  refine lx.o_pure (.pointer (some ⟨b, 0, none⟩)) (fun _ _ h => by first | rfl | kernel_rfl) ?_
  refine lx.o_pure (.pointer (some ⟨b, 0, none⟩)) (fun _ _ h => by first | rfl | kernel_rfl) ?_
  refine lx.o_pure (.pointer (some ⟨b, 2, none⟩)) (fun _ _ h => by first | rfl | kernel_rfl) ?_
  refine lx.o_pure (.slice (some ⟨g, 0, none⟩) (W * H : Nat) (W * H : Nat)) (fun D W' hC => lx.run_load rfl rfl Tryz.underlying35 rfl (HB0.out.below hC.1).h2) ?_
  refine lx.o_pure (.int .i64 (y : Nat)) (fun _ _ h => by first | rfl | kernel_rfl) ?_
  refine lx.o_pure (.pointer (some ⟨b, 0, none⟩)) (fun _ _ h => by first | rfl | kernel_rfl) ?_
  refine lx.o_pure (.pointer (some ⟨b, 0, none⟩)) (fun _ _ h => by first | rfl | kernel_rfl) ?_
  refine lx.o_pure (.pointer (some ⟨b, 0, none⟩)) (fun _ _ h => by first | rfl | kernel_rfl) ?_
  refine lx.o_pure (.int .i64 (W : Nat)) (fun D W' hC => lx.run_load rfl rfl Tryz.underlying3 rfl (HB0.out.below hC.1).h0) ?_
  refine lx.o_pure (.int .i64 (q : Nat)) (fun _ _ _ => lx.run_mul rfl rfl rfl hq.symm (by omega)) ?_
  refine lx.o_pure (.int .i64 (x : Nat)) (fun _ _ h => by first | rfl | kernel_rfl) ?_
  refine lx.o_pure (.int .i64 ((q + x : Nat) : Int)) (fun _ _ _ => lx.run_add rfl rfl rfl (by omega) (by push_cast; rfl)) ?_
  refine lx.o_pure (.pointer (some ⟨g, (q + x) * 5, none⟩)) (fun D W' hC => run_at5 rfl rfl rfl hk Tryz.underlying35 hinf hsz) ?_
  refine lx.o_pure (.agg #[.string ct, .int .i8 cw, .int .i32 cf, .int .i32 cb, .int .u8 ca]) (fun D W' hC => HLD.out _ _ _ _ (HB0.out.below hC.1) rfl rfl) ?_
  refine lx.o_put (fun D W' h0 hdep hC => ?_) ?_
  · obtain ⟨c2, c3, -⟩ := hC
    have h0' : D 14 = false := h0
    have c5 := c3 h0'
    obtain ⟨⟨d0, d1, d2, d3, d4⟩, g0, g1, g2, g3, g4⟩ := blk5 c5
    refine ⟨_, ?_, below5 _ _ _ _ _ c2 (Nat.le_refl _), (fun h => by cases h), fun _ => set5 c5⟩
    unfold execOp
    simp only
    rw [show lx.look _ _ (Operand.tmp 6) = Value.pointer (some ⟨w.heap.size, 0, none⟩) from rfl, show lx.look _ _ (Operand.tmp 48) = Value.agg #[.string ct, .int .i8 cw, .int .i32 cf, .int .i32 cb, .int .u8 ca] from rfl]
    simp [go_sem, d0, d1, d2, d3, d4, g0, g1, g2, g3, g4]
  refine lx.o_pure (.bool true) (fun _ _ h => by first | rfl | kernel_rfl) ?_
  refine lx.o_end ?_
  simp only [lx.ov]
  rintro W' d hd ⟨c2, -, c4⟩
  have K9 := run.hid (c4 (hd 14 (by decide)))
  have HB9 := run.hid c2
  clear c2 c4 hd HK HB0 HLD HB p0 p1
  go_simp
  go_wp2
  refine bodyPost_ret (v := .tuple #[.agg #[.string ct, .int .i8 cw, .int .i32 cf, .int .i32 cb, .int .u8 ca], .bool true]) ((results_cell_tmp rfl _ _ _).trans ?_) rfl ?_
  · obtain ⟨⟨e0, e1, e2, e3, e4⟩, -⟩ := blk5 K9.out
    simp [go_sem, e0, e1, e2, e3, e4]
  · exact ⟨rfl, HB9.out⟩
end Go.Proofs.YtdgcfmfjgidbjaaGreat.cel
namespace Go.Proofs.YtdgcfmfjgidbjaaGreat.cel
open Go Go.RowKit Go.Proofs
set_option linter.unusedVariables false

def w32 (n : Int) : Prop := -2147483648 ≤ n ∧ n ≤ 2147483647
def SV.wf (s : SV) : Prop := w32 s.fg ∧ w32 s.bg

def sortK (c : Int) : Int := if c = 1 then 1 else if 256 ≤ c ∧ c ≤ 511 then 2 else if 16777216 ≤ c ∧ c ≤ 33554431 then 3 else 0
def sortN (c : Int) : Int := if c = 1 then 0 else if 256 ≤ c ∧ c ≤ 511 then c - 256 else if 16777216 ≤ c ∧ c ≤ 33554431 then c - 16777216 else 0
theorem sort_right (c : Int) : rightC c = (sortK c != 0 || c == 0) := by
  unfold rightC sortK
  rw [Bool.eq_iff_iff]
  split <;> split <;> (try split) <;> (try split) <;> simp <;> omega
set_option maxHeartbeats 1000000 in
theorem sort_any (c : Int) (hc : w32 c) (w : World) : Calls Tryz.prog 105 #[.int .i32 c] w fun e w' => e = .returned (.tuple #[.int .i64 (sortK c), .int .i64 (sortN c)]) ∧ w = w' := by
  unfold w32 at hc
  have hw : IntKind.i64.wrap c = c := IntWalk.i64_in _ (by omega)
  by_cases h1 : c = 1
  · subst h1
    go_enter Tryz.func105, Tryz.ntmps105
    go_wp2
    go_ret2
    exact ⟨rfl, rfl⟩
  by_cases h2 : 256 ≤ c
  · by_cases h3 : c ≤ 511
    · have hk : sortK c = 2 := by unfold sortK; rw [if_neg h1, if_pos ⟨h2, h3⟩]
      have hn : sortN c = c - 256 := by unfold sortN; rw [if_neg h1, if_pos ⟨h2, h3⟩]
      rw [hk, hn]
      clear hk hn
      go_enter Tryz.func105, Tryz.ntmps105
      go_wp2
      go_ret2
      exact ⟨rfl, rfl⟩
    · by_cases h4 : 16777216 ≤ c
      · by_cases h5 : c ≤ 33554431
        · have hk : sortK c = 3 := by unfold sortK; rw [if_neg h1, if_neg (by omega), if_pos ⟨h4, h5⟩]
          have hn : sortN c = c - 16777216 := by unfold sortN; rw [if_neg h1, if_neg (by omega), if_pos ⟨h4, h5⟩]
          rw [hk, hn]
          clear hk hn
          go_enter Tryz.func105, Tryz.ntmps105
          go_wp2
          go_ret2
          exact ⟨rfl, rfl⟩
        · have hk : sortK c = 0 := by unfold sortK; rw [if_neg h1, if_neg (by omega), if_neg (by omega)]
          have hn : sortN c = 0 := by unfold sortN; rw [if_neg h1, if_neg (by omega), if_neg (by omega)]
          rw [hk, hn]
          clear hk hn
          go_enter Tryz.func105, Tryz.ntmps105
          go_wp2
          go_ret2
          exact ⟨rfl, rfl⟩
      · have hk : sortK c = 0 := by unfold sortK; rw [if_neg h1, if_neg (by omega), if_neg (by omega)]
        have hn : sortN c = 0 := by unfold sortN; rw [if_neg h1, if_neg (by omega), if_neg (by omega)]
        rw [hk, hn]
        clear hk hn
        go_enter Tryz.func105, Tryz.ntmps105
        go_wp2
        go_ret2
        exact ⟨rfl, rfl⟩
  · have hk : sortK c = 0 := by unfold sortK; rw [if_neg h1, if_neg (by omega), if_neg (by omega)]
    have hn : sortN c = 0 := by unfold sortN; rw [if_neg h1, if_neg (by omega), if_neg (by omega)]
    rw [hk, hn]
    clear hk hn
    go_enter Tryz.func105, Tryz.ntmps105
    go_wp2
    go_ret2
    exact ⟨rfl, rfl⟩

theorem refright_any (c : Int) (hc : w32 c) (w : World) : Calls Tryz.prog 87 #[.int .i32 c] w fun e w' => e = .returned (.bool (rightC c)) ∧ w = w' := by
  have H := run.hid (sort_any c hc w)
  rw [sort_right]
  generalize sortK c = k at *
  generalize sortN c = n at *
  by_cases h0 : k = 0
  · subst h0
    go_enter Tryz.func87, Tryz.ntmps87
    go_wp2_with fail
    refine H.out.mono ?_
    rintro e w' ⟨rfl, rfl⟩
    go_wp2
    go_ret
    exact ⟨rfl, rfl⟩
  · have hr : (k != 0 || c == 0) = true := by simp [h0]
    rw [hr]
    clear hr
    go_enter Tryz.func87, Tryz.ntmps87
    go_wp2_with fail
    refine H.out.mono ?_
    rintro e w' ⟨rfl, rfl⟩
    go_wp2
    go_ret
    exact ⟨by simp, rfl⟩

theorem refcolor_any (c : Int) (hc : w32 c) (w : World) : Calls Tryz.prog 67 #[.int .i32 c] w fun e w' => e = .returned (.int .i32 (plainC c)) ∧ w = w' := by
  have H := run.hid (refright_any c hc w)
  have hp : plainC c = if c = 1 then 0 else if rightC c then c else 0 := rfl
  rw [hp]
  clear hp
  generalize rightC c = r at *
  cases r with
  | false =>
    rw [show (if c = 1 then 0 else if false = true then c else 0) = (0 : Int) by split <;> rfl]
    go_enter Tryz.func67, Tryz.ntmps67
    go_wp2_with fail
    refine H.out.mono ?_
    rintro e w' ⟨rfl, rfl⟩
    go_wp2
    go_ret
    exact ⟨rfl, rfl⟩
  | true =>
    by_cases h1 : c = 1
    · subst h1
      go_enter Tryz.func67, Tryz.ntmps67
      go_wp2_with fail
      refine H.out.mono ?_
      rintro e w' ⟨rfl, rfl⟩
      go_wp2
      go_ret
      exact ⟨rfl, rfl⟩
    · rw [if_neg h1, if_pos rfl]
      go_enter Tryz.func67, Tryz.ntmps67
      go_wp2_with fail
      refine H.out.mono ?_
      rintro e w' ⟨rfl, rfl⟩
      go_wp2
      go_ret
      exact ⟨rfl, rfl⟩

set_option maxRecDepth 100000 in
set_option maxHeartbeats 2000000 in
theorem refcounts_any (s : SV) (hs : s.wf) (w : World) : Calls Tryz.prog 42 #[s.val] w fun e w' => e = .returned (overS s).val ∧ Below w.heap.size w w' := by
  have H1 := run.hid (fun w => refcolor_any s.fg hs.1 w)
  have H2 := run.hid (fun w => refcolor_any s.bg hs.2 w)
  obtain ⟨fg, bg, at'⟩ := s
  clear hs
  dsimp only at H1 H2
  show Calls _ _ #[.agg #[.int .i32 fg, .int .i32 bg, .int .u8 at']] _ fun e w' => e = .returned (.agg #[.int .i32 (plainC fg), .int .i32 (plainC bg), .int .u8 at']) ∧ _
  generalize plainC fg = f2 at *
  generalize plainC bg = b2 at *
  go_enter Tryz.func42, Tryz.ntmps42
  go_wp2_with fail
  refine (H1.out _).mono ?_
  rintro e w1 ⟨rfl, rfl⟩
  go_wp2_with fail
  refine (H2.out _).mono ?_
  rintro e w2 ⟨rfl, rfl⟩
  have HK := run.hid (heap_alloc2_new w (.cells #[.int .i32 fg, .int .i32 bg, .int .u8 at'] 32) (.cells #[.int .i32 f2, .int .i32 b2, .int .u8 at'] 32))
  go_wp2
  refine bodyPost_ret (v := .agg #[.int .i32 f2, .int .i32 b2, .int .u8 at']) (results_cell_row rfl _ _ (w.heap.size + 1) _ _ _ _ rfl HK.out Tryz.underlying32 rfl (by kernel_rfl)) rfl ?_
  exact ⟨rfl, run.below_two w _ _⟩
end Go.Proofs.YtdgcfmfjgidbjaaGreat.cel
namespace Go.Proofs.YtdgcfmfjgidbjaaGreat.cel
open Go Go.RowKit Go.Proofs
set_option linter.unusedVariables false

/-- a screen as a value -/
def scrV (W H : Nat) (v : Value) : Value := .agg #[.int .i64 W, .int .i64 H, v, .int .i64 0, .int .i64 0, .bool false]

set_option maxHeartbeats 400000 in
theorem screen_nil (w : World) : Calls Tryz.prog 24 #[.pointer none] w fun e w' => e = .returned (scrV 0 0 (.slice none 0 0)) ∧ Below w.heap.size w w' := by
  have hb := run.below_one w (.cells #[.int .i64 0, .int .i64 0, .slice none 0 0, .int .i64 0, .int .i64 0, .bool false] 64)
  go_enter Tryz.func24, Tryz.ntmps24
  go_wp2
  refine bodyPost_ret (v := .agg #[.int .i64 0, .int .i64 0, .slice none 0 0, .int .i64 0, .int .i64 0, .bool false]) (results_cell_row rfl _ _ w.heap.size _ _ _ _ rfl (heap_alloc_new _ _) Tryz.underlying64 rfl (by kernel_rfl)) rfl ?_
  exact ⟨rfl, hb⟩

def zc6 : Array Value := #[.int .i64 0, .int .i64 0, .slice none 0 0, .int .i64 0, .int .i64 0, .bool false]
def mk5 (N : Nat) : Array Value := madeCells #[.string ⟨#[]⟩, .int .i8 0, .int .i32 0, .int .i32 0, .int .u8 0] (N * 5)
theorem mk5_size (N : Nat) : (mk5 N).size = N * 5 := by unfold mk5 madeCells; simp
def scr6 (W H g N : Nat) : Array Value := #[.int .i64 W, .int .i64 H, .slice (some ⟨g, 0, none⟩) N N, .int .i64 0, .int .i64 0, .bool false]
/-- where a screen is being made: its block n, its row's block g -/
def ScrC (w : World) (W H N n g : Nat) (D : Nat → Bool) (X : World) : Prop :=
  Below w.heap.size w X ∧ X.heap[w.heap.size]? = some (.cells zc6 64 (0, 0)) ∧ X.heap.size = w.heap.size + 1 + (if D 13 = true then 1 else 0) + (if D 15 = true then 1 else 0) ∧
  (D 13 = true → X.heap[g]? = some (.cells (mk5 N) 59 (0, 0))) ∧ (D 15 = true → D 16 = false → X.heap[n]? = some (.cells zc6 64 (0, 0))) ∧ (D 16 = true → D 15 = true ∧ X.heap[n]? = some (.cells (scr6 W H g N) 64 (0, 0)))
theorem blk6 {w : World} {n : Nat} {a b c d e f : Value} {t : TypeId} (h : w.heap[n]? = some (.cells #[a, b, c, d, e, f] t (0, 0))) : (w.cell? ⟨n, 0, none⟩ = some a ∧ w.cell? ⟨n, 1, none⟩ = some b ∧ w.cell? ⟨n, 2, none⟩ = some c ∧ w.cell? ⟨n, 3, none⟩ = some d ∧ w.cell? ⟨n, 4, none⟩ = some e ∧ w.cell? ⟨n, 5, none⟩ = some f) ∧ w.frozen? ⟨n, 0, none⟩ = false ∧ w.frozen? ⟨n, 1, none⟩ = false ∧ w.frozen? ⟨n, 2, none⟩ = false ∧ w.frozen? ⟨n, 3, none⟩ = false ∧ w.frozen? ⟨n, 4, none⟩ = false ∧ w.frozen? ⟨n, 5, none⟩ = false :=
  ⟨⟨blk_cell h 0, blk_cell h 1, blk_cell h 2, blk_cell h 3, blk_cell h 4, blk_cell h 5⟩, blk_free h 0, blk_free h 1, blk_free h 2, blk_free h 3, blk_free h 4, blk_free h 5⟩
theorem set6 {w : World} {n : Nat} {a b c d e f a' b' c' d' e' f' : Value} {t : TypeId} (h : w.heap[n]? = some (.cells #[a, b, c, d, e, f] t (0, 0))) : ((((((w.setCell ⟨n, 0, none⟩ a').setCell ⟨n, 1, none⟩ b').setCell ⟨n, 2, none⟩ c').setCell ⟨n, 3, none⟩ d').setCell ⟨n, 4, none⟩ e').setCell ⟨n, 5, none⟩ f').heap[n]? = some (.cells #[a', b', c', d', e', f'] t (0, 0)) := blk_set (blk_set (blk_set (blk_set (blk_set (blk_set h)))))
theorem below6 {B : Nat} {w w1 : World} {n : Nat} (u v x y z r : Value) (h : Below B w w1) (hn : B ≤ n) : Below B w ((((((w1.setCell ⟨n, 0, none⟩ u).setCell ⟨n, 1, none⟩ v).setCell ⟨n, 2, none⟩ x).setCell ⟨n, 3, none⟩ y).setCell ⟨n, 4, none⟩ z).setCell ⟨n, 5, none⟩ r) :=
  (below5 u v x y z h hn).setCell (p := ⟨n, 5, none⟩) hn _
theorem other6 {w1 : World} {n m : Nat} (u v x y z r : Value) (h : m ≠ n) : ((((((w1.setCell ⟨n, 0, none⟩ u).setCell ⟨n, 1, none⟩ v).setCell ⟨n, 2, none⟩ x).setCell ⟨n, 3, none⟩ y).setCell ⟨n, 4, none⟩ z).setCell ⟨n, 5, none⟩ r).heap[m]? = w1.heap[m]? := by
  rw [blk_other _ h, blk_other _ h, blk_other _ h, blk_other _ h, blk_other _ h, blk_other _ h]
theorem zero_screen (w : World) : (zeroValue 64).run Tryz.prog w = .ok (.agg zc6) w := by kernel_rfl

theorem ScrC.make {w X : World} {W H N n g : Nat} {D : Nat → Bool} (h : ScrC w W H N n g D X) (h13 : D 13 = false) (hg : g = w.heap.size + 1 + (if D 15 = true then 1 else 0)) : X.heap.size = g ∧ ScrC w W H N n g (lx.mark D 13) (X.alloc (.cells (mk5 N) 59)) := by
  obtain ⟨h1, h2, h3, h4, h5, h6⟩ := h
  have hs : X.heap.size = g := by rw [h3, h13, hg]; simp
  have e15 : lx.mark D 13 15 = D 15 := rfl
  have e16 : lx.mark D 13 16 = D 16 := rfl
  refine ⟨hs, h1.alloc h1.size _, (blk_old _ (Array.getElem?_eq_some_iff.1 h2).1).trans h2, ?_, fun _ => ?_, fun a b => ?_, fun a => ?_⟩
  · rw [World.size_alloc, h3, e15, h13]; simp [lx.mark]; omega
  · rw [← hs]; exact heap_alloc_new _ _
  · have := h5 a b; exact (blk_old _ (Array.getElem?_eq_some_iff.1 this).1).trans this
  · have := (h6 a).2; exact ⟨(h6 a).1, (blk_old _ (Array.getElem?_eq_some_iff.1 this).1).trans this⟩
theorem ScrC.new {w X : World} {W H N n g : Nat} {D : Nat → Bool} (h : ScrC w W H N n g D X) (h15 : D 15 = false) (hg : n = w.heap.size + 1 + (if D 13 = true then 1 else 0)) : X.heap.size = n ∧ ScrC w W H N n g (lx.mark D 15) (X.alloc (.cells zc6 64)) := by
  obtain ⟨h1, h2, h3, h4, h5, h6⟩ := h
  have hs : X.heap.size = n := by rw [h3, h15, hg]; simp
  have e13 : lx.mark D 15 13 = D 13 := rfl
  have e16 : lx.mark D 15 16 = D 16 := rfl
  refine ⟨hs, h1.alloc h1.size _, (blk_old _ (Array.getElem?_eq_some_iff.1 h2).1).trans h2, ?_, fun a => ?_, fun a b => ?_, fun a => ?_⟩
  · rw [World.size_alloc, h3, e13, h15]; simp [lx.mark]
  · have := h4 a; exact (blk_old _ (Array.getElem?_eq_some_iff.1 this).1).trans this
  · rw [← hs]; exact heap_alloc_new _ _
  · have := (h6 a).1; rw [h15] at this; cases this
theorem ScrC.put {w X : World} {W H N n g : Nat} {D : Nat → Bool} (h : ScrC w W H N n g D X) (h15 : D 15 = true) (h16 : D 16 = false) (hn : w.heap.size < n) (hne : g ≠ n) :
    (storeCells ⟨n, 0, none⟩ (scr6 W H g N).toList).run Tryz.prog X = .ok () ((((((X.setCell ⟨n, 0, none⟩ (.int .i64 W)).setCell ⟨n, 1, none⟩ (.int .i64 H)).setCell ⟨n, 2, none⟩ (.slice (some ⟨g, 0, none⟩) N N)).setCell ⟨n, 3, none⟩ (.int .i64 0)).setCell ⟨n, 4, none⟩ (.int .i64 0)).setCell ⟨n, 5, none⟩ (.bool false)) ∧
    ScrC w W H N n g (lx.mark D 16) ((((((X.setCell ⟨n, 0, none⟩ (.int .i64 W)).setCell ⟨n, 1, none⟩ (.int .i64 H)).setCell ⟨n, 2, none⟩ (.slice (some ⟨g, 0, none⟩) N N)).setCell ⟨n, 3, none⟩ (.int .i64 0)).setCell ⟨n, 4, none⟩ (.int .i64 0)).setCell ⟨n, 5, none⟩ (.bool false)) := by
  obtain ⟨h1, h2, h3, h4, h5, h6⟩ := h
  have k := h5 h15 h16
  obtain ⟨⟨d0, d1, d2, d3, d4, d5⟩, f0, f1, f2, f3, f4, f5⟩ := blk6 k
  refine ⟨by simp [scr6, go_sem, d0, d1, d2, d3, d4, d5, f0, f1, f2, f3, f4, f5], below6 _ _ _ _ _ _ h1 (Nat.le_of_lt hn), ?_, ?_, fun a => ?_, fun a b => ?_, fun a => ⟨h15, set6 k⟩⟩
  · rw [other6 _ _ _ _ _ _ (by omega)]; exact h2
  · have e13 : lx.mark D 16 13 = D 13 := rfl
    have e15 : lx.mark D 16 15 = D 15 := rfl
    rw [e13, e15, ← h3]
    simp [World.setCell]
  · rw [other6 _ _ _ _ _ _ hne]; exact h4 a
  · cases b

set_option maxRecDepth 100000 in
set_option maxHeartbeats 4000000 in
theorem screen_any (b g W H : Nat) (L : List CV) (w : World) (h : Buf w b g W H L) : Calls Tryz.prog 24 #[.pointer (some ⟨b, 0, none⟩)] w fun e w' => ∃ v, e = .returned (scrV W H v) ∧ w'.ownsRow w.heap.size 59 5 v (W * H) (cells5 L) ∧ Below w.heap.size w w' := by
  obtain ⟨it, hinf, hz0, hsz, hby⟩ := info_parts info_cell
  have hlt := h.lt
  have hsize := h.size
  have hlen := h.len
  have hmk := fun w => run_make (P := Tryz.prog) w 35 59 it _ Tryz.underlying35 hinf hz0 .i64 .i64 ((W * H : Nat) : Int) ((W * H : Nat) : Int) (by omega) (Int.le_refl _) (by rw [hby]; omega) (by omega)
  rw [hsz, Int.toNat_natCast] at hmk
  change ∀ w : World, _ = Result.ok (Value.slice (some ⟨w.heap.size, 0, none⟩) (W * H) (W * H)) (w.alloc (.cells (mk5 (W * H)) 59)) at hmk
  have HM := run.hid hmk
  clear hmk
  have HB := run.hid h
  have HR0 := run.hid (show (cells5 L).length = W * H * 5 by rw [cells5_length, hlen])
  have HC0 := run.hid (fun (X : World) (hX : Below w.heap.size w X) j v hj => (h.below hX).grid.cells (j := j) (v := v) hj)
  clear h
  generalize hN : W * H = N at *
  go_enter Tryz.func24, Tryz.ntmps24
  go_upto_region 3 with fail
  go_cut [3] (fun c wx => ∃ n gg, c = .pointer (some ⟨n, 0, none⟩) ∧ n ≠ gg ∧ w.heap.size < n ∧ w.heap.size < gg ∧ Below w.heap.size w wx ∧ wx.heap[w.heap.size]? = some (.cells zc6 64 (0, 0)) ∧ wx.heap[gg]? = some (.cells (mk5 N) 59 (0, 0)) ∧ wx.heap[n]? = some (.cells (scr6 W H gg N) 64 (0, 0)))
  case first =>
    have HI := run.hid (show ∀ n gg, ScrC w W H N n gg (fun _ => false) (w.alloc (.cells zc6 64)).drew from fun n gg => ⟨drewB (run.below_one w _), heap_alloc_new _ _, by show (w.alloc _).heap.size = _; simp, (fun h => by cases h), (fun h => by cases h), fun h => by cases h⟩)
    refine lx.two.region 13 15 (fun β => ScrC w W H N (w.heap.size + 1 + if β = true then 1 else 0) (w.heap.size + 1 + if β = true then 0 else 1)) (by decide) (by decide) (by kernel_rfl) (by kernel_rfl) (by kernel_rfl) (fun β => HI.out _ _) (fun β => ?_)
    obtain ⟨n, hn⟩ : ∃ n, n = w.heap.size + 1 + if β = true then 1 else 0 := ⟨_, rfl⟩
    obtain ⟨gg, hgg⟩ : ∃ n, n = w.heap.size + 1 + if β = true then 0 else 1 := ⟨_, rfl⟩
    rw [← hn, ← hgg]
    have hne : n ≠ gg := by rw [hn, hgg]; cases β <;> simp
    have hn1 : w.heap.size < n := by omega
    have hg1 : w.heap.size < gg := by omega
    refine lx.two.begin 30 rfl ?_
    refine lx.two.o_pure (.pointer (some ⟨b, 0, none⟩)) (fun _ _ h => by first | rfl | kernel_rfl) ?_
    refine lx.two.o_pure (.pointer (some ⟨b, 0, none⟩)) (fun _ _ h => by first | rfl | kernel_rfl) ?_
    refine lx.two.o_pure (.pointer (some ⟨b, 0, none⟩)) (fun _ _ h => by first | rfl | kernel_rfl) ?_
    refine lx.two.o_pure (.int .i64 (W : Nat)) (fun D X hC => lx.run_load rfl rfl Tryz.underlying3 rfl (HB.out.below hC.1).h0) ?_
    refine lx.two.o_pure (.pointer (some ⟨b, 0, none⟩)) (fun _ _ h => by first | rfl | kernel_rfl) ?_
    refine lx.two.o_pure (.pointer (some ⟨b, 0, none⟩)) (fun _ _ h => by first | rfl | kernel_rfl) ?_
    refine lx.two.o_pure (.pointer (some ⟨b, 1, none⟩)) (fun _ _ h => by first | rfl | kernel_rfl) ?_
    refine lx.two.o_pure (.int .i64 (H : Nat)) (fun D X hC => lx.run_load rfl rfl Tryz.underlying3 rfl (HB.out.below hC.1).h1) ?_
    refine lx.two.o_pure (.pointer (some ⟨b, 0, none⟩)) (fun _ _ h => by first | rfl | kernel_rfl) ?_
    refine lx.two.o_pure (.pointer (some ⟨b, 0, none⟩)) (fun _ _ h => by first | rfl | kernel_rfl) ?_
    refine lx.two.o_pure (.pointer (some ⟨b, 2, none⟩)) (fun _ _ h => by first | rfl | kernel_rfl) ?_
    refine lx.two.o_pure (.slice (some ⟨g, 0, none⟩) N N) (fun D X hC => lx.run_load rfl rfl Tryz.underlying35 rfl (by rw [← hN]; exact (HB.out.below hC.1).h2)) ?_
    refine lx.two.o_pure (.int .i64 (N : Nat)) (fun _ _ h => by first | rfl | kernel_rfl) ?_
    refine lx.two.o_eff (.slice (some ⟨gg, 0, none⟩) N N) (fun D X h0 hdep hp hC => ?_) ?_
    · have h13 : D 13 = false := h0
      have h15 : D 15 = !β := hp.1 rfl
      obtain ⟨hs, hC'⟩ := hC.make h13 (by rw [hgg, h15]; cases β <;> rfl)
      refine ⟨_, ?_, hC'⟩
      unfold execOp
      simp only
      rw [show lx.look _ _ (Operand.tmp 19) = Value.int .i64 (N : Nat) from rfl, Sem.run_bind, HM.out X, hs]
      rfl
    refine lx.two.o_pure (.agg (scr6 W H gg N)) (fun _ _ h => by first | rfl | kernel_rfl) ?_
    refine lx.two.o_eff (.pointer (some ⟨n, 0, none⟩)) (fun D X h0 hdep hp hC => ?_) ?_
    · have h15 : D 15 = false := h0
      have h13 : D 13 = β := hp.2 rfl
      obtain ⟨hs, hC'⟩ := hC.new h15 (by rw [hn, h13])
      exact ⟨_, (run_alloc rfl zero_screen rfl).trans (by rw [hs]; rfl), hC'⟩
    refine lx.two.o_put (fun D X h0 hdep hp hC => ?_) ?_
    · have h16 : D 16 = false := h0
      have h15 : D 15 = true := hdep ⟨15, .data⟩ (by simp) rfl
      obtain ⟨hr, hC'⟩ := hC.put h15 h16 hn1 hne.symm
      refine ⟨_, ?_, hC'⟩
      unfold execOp
      simp only
      rw [show lx.look _ _ (Operand.tmp 3) = Value.pointer (some ⟨n, 0, none⟩) from rfl, show lx.look _ _ (Operand.tmp 21) = Value.agg (scr6 W H gg N) from rfl]
      have hsz6 : (scr6 W H gg N).size = 6 := rfl
      simp [go_sem, hsz6, hr]
    refine lx.two.o_end ?_
    simp only [lx.ov]
    rintro X d hd ⟨c1, c2, -, c4, -, c6⟩
    have KK := run.hid (show _ ∧ _ ∧ _ ∧ _ from ⟨c1, c2, c4 (hd 13 (by decide)), (c6 (hd 16 (by decide))).2⟩)
    clear hn hgg
    clear c1 c2 c4 c6 hd HI HM HB HC0
    go_simp
    go_wp2
    go_meet
    case rel => exact ⟨n, gg, rfl, hne, hn1, hg1, KK.out⟩
  obtain ⟨n, gg, rfl, hne, hn1, hg1, hb, kr, kg, kn⟩ := hcut
  have HZ := run.hid (show _ ∧ _ from ⟨hb, kr⟩)
  have hbg := run.hid (HB.out.below hb)
  have hcs := run.hid (HC0.out wc hb)
  have HG := run.hid (show _ ∧ _ from ⟨kg, kn⟩)
  clear hb kr kg kn HC0 HM
  go_upto_region 4 with fail
  refine lx.region (fun D X => Below w.heap.size w X ∧ X.heap[w.heap.size]? = some (.cells zc6 64 (0, 0)) ∧ X.heap[n]? = some (.cells (scr6 W H gg N) 64 (0, 0)) ∧ ∃ cur : Array Value, X.heap[gg]? = some (.cells cur 59 (0, 0)) ∧ cur.size = N * 5 ∧ (D 6 = true → cur = (cells5 L).toArray)) (by kernel_rfl) (by kernel_rfl) (by kernel_rfl) ⟨drewB HZ.out.1, HZ.out.2, HG.out.2, _, HG.out.1, mk5_size N, fun h => by cases h⟩ ?_
  refine lx.begin 30 rfl ?_
  refine lx.o_pure (.pointer (some ⟨n, 2, none⟩)) (fun _ _ h => by first | rfl | kernel_rfl) ?_
  refine lx.o_pure (.slice (some ⟨gg, 0, none⟩) N N) (fun D X hC => lx.run_load rfl rfl Tryz.underlying35 rfl (blk_cell hC.2.2.1 2)) ?_
  refine lx.o_pure (.pointer (some ⟨b, 0, none⟩)) (fun _ _ h => by first | rfl | kernel_rfl) ?_
  refine lx.o_pure (.pointer (some ⟨b, 0, none⟩)) (fun _ _ h => by first | rfl | kernel_rfl) ?_
  refine lx.o_pure (.pointer (some ⟨b, 2, none⟩)) (fun _ _ h => by first | rfl | kernel_rfl) ?_
  refine lx.o_pure (.slice (some ⟨g, 0, none⟩) N N) (fun D X hC => lx.run_load rfl rfl Tryz.underlying35 rfl (by rw [← hN]; exact (HB.out.below hC.1).h2)) ?_
  refine lx.o_eff (goInt N) (fun D X h0 hdep hC => ?_) ?_
  · obtain ⟨c1, c2, c3, cur, c4, c5, -⟩ := hC
    have hr := run_copy_rowN (P := Tryz.prog) X 35 35 3 59 5 gg 0 N N ⟨g, 0, none⟩ N N cur 59 (cells5 L) Tryz.underlying35 (by rw [hinf, Option.map_some, hsz]) c4 (by rw [HR0.out, show Nat.min N N = N from Nat.min_self N]) (fun j v hj => by rw [run.add_none, Nat.zero_add]; exact (HB.out.below c1).grid.cells hj) (by rw [HR0.out, c5]; omega) one_cell5
    rw [show Nat.min N N = N from Nat.min_self N, show (cur.toList.take 0 ++ cells5 L ++ cur.toList.drop (0 + (cells5 L).length)).toArray = (cells5 L).toArray by
      rw [HR0.out, List.drop_eq_nil_of_le (by rw [Array.length_toList, c5]; omega), List.take_zero, List.nil_append, List.append_nil]] at hr
    refine ⟨X.setRow gg (cells5 L).toArray, ?_, below_setRow c1 (Nat.le_of_lt hg1) _, ?_, ?_, (cells5 L).toArray, setRow_heap X gg cur _ _ _ c4, ?_, fun _ => rfl⟩
    · unfold execOp
      simp only [resolve, invoke, builtin, Sem.run_bind, Sem.run_pure, Result.andThen_ok, List.map_toArray, List.map_cons, List.map_nil]
      rw [show lx.look _ _ (Operand.tmp 23) = Value.slice (some ⟨gg, 0, none⟩) N N from rfl, show lx.look _ _ (Operand.tmp 27) = Value.slice (some ⟨g, 0, none⟩) N N from rfl, hr]
      rfl
    · rw [setRow_other _ _ _ _ (by omega)]; exact c2
    · rw [setRow_other _ _ _ _ hne]; exact c3
    · rw [List.size_toArray, HR0.out]
  refine lx.o_end ?_
  simp only [lx.ov]
  rintro X d hd ⟨c1, c2, c3, cur, c4, c5, c6⟩
  obtain rfl := c6 (hd 6 (by decide))
  obtain ⟨⟨e0, e1, e2, e3, e4, e5⟩, -⟩ := blk6 c3
  obtain ⟨⟨d0, d1, d2, d3, d4, d5⟩, f0, f1, f2, f3, f4, f5⟩ := blk6 c2
  have K9 := run.hid (set6 (a' := .int .i64 W) (b' := .int .i64 H) (c' := .slice (some ⟨gg, 0, none⟩) N N) (d' := .int .i64 0) (e' := .int .i64 0) (f' := .bool false) c2)
  have HB9 := run.hid (below6 (.int .i64 W) (.int .i64 H) (.slice (some ⟨gg, 0, none⟩) N N) (.int .i64 0) (.int .i64 0) (.bool false) c1 (Nat.le_refl _))
  have HG9 := run.hid ((other6 (w1 := X) (n := w.heap.size) (m := gg) (.int .i64 W) (.int .i64 H) (.slice (some ⟨gg, 0, none⟩) N N) (.int .i64 0) (.int .i64 0) (.bool false) (by omega)).trans c4)
  clear hd HZ hbg hcs HG HB c1 c2 c3 c4 c6
  go_simp
  go_wp2
  refine bodyPost_ret (v := .agg #[.int .i64 W, .int .i64 H, .slice (some ⟨gg, 0, none⟩) N N, .int .i64 0, .int .i64 0, .bool false]) (results_cell_row rfl _ _ w.heap.size _ _ _ _ rfl K9.out Tryz.underlying64 rfl (by kernel_rfl)) rfl ?_
  refine ⟨_, rfl, ⟨HR0.out, .inr ⟨gg, N, (cells5 L).toArray, rfl, Nat.le_of_lt hg1, HG9.out, Nat.le_refl _, by unfold maxLen; omega, by rw [List.size_toArray, HR0.out], ?_⟩⟩, HB9.out⟩
  rw [List.toList_toArray, List.take_of_length_le (by rw [HR0.out]; exact Nat.le_refl _)]
end Go.Proofs.YtdgcfmfjgidbjaaGreat.cel
namespace Go.Proofs.YtdgcfmfjgidbjaaGreat.cel
open Go Go.RowKit Go.Proofs
set_option linter.unusedVariables false

theorem toL (a b : ByteArray) : a.toList = b.toList ↔ a = b := by
  have := utf.toList_eq_iff a b
  rw [Bool.eq_iff_iff] at this
  simpa using this
section
variable {o : Oper} {ρ : Operand → Value} {w : World} {p q : Operand}
theorem run_eqcell {s s' : CV} (ho : o.op = .binOp .eql 59 p q 59) (hx : ρ p = s.val) (hy : ρ q = s'.val) : (execOp ρ o).run Tryz.prog w = .ok (.value (.bool (decide (s = s')))) w := by
  unfold execOp
  simp only [ho, hx, hy]
  obtain ⟨t, d, ⟨a, b, c⟩⟩ := s
  obtain ⟨t', d', ⟨a', b', c'⟩⟩ := s'
  unfold CV.val
  simp [go_sem, run_eql_struct, toL, show Tryz.prog.eqGuardType Tryz.prog.depth 59 = false by kernel_rfl]
  by_cases h : t = t' <;> by_cases h0 : d = d' <;> by_cases h1 : a = a' <;> by_cases h2 : b = b' <;> by_cases h3 : c = c' <;> simp [h, h0, h1, h2, h3]
theorem run_necell {s s' : CV} (ho : o.op = .binOp .neq 59 p q 59) (hx : ρ p = s.val) (hy : ρ q = s'.val) : (execOp ρ o).run Tryz.prog w = .ok (.value (.bool (!decide (s = s')))) w := by
  unfold execOp
  simp only [ho, hx, hy]
  obtain ⟨t, d, ⟨a, b, c⟩⟩ := s
  obtain ⟨t', d', ⟨a', b', c'⟩⟩ := s'
  unfold CV.val
  simp [go_sem, run_neq_struct, toL, show Tryz.prog.eqGuardType Tryz.prog.depth 59 = false by kernel_rfl]
  by_cases h : t = t' <;> by_cases h0 : d = d' <;> by_cases h1 : a = a' <;> by_cases h2 : b = b' <;> by_cases h3 : c = c' <;> simp [h, h0, h1, h2, h3]
theorem run_nesty {s s' : SV} (ho : o.op = .binOp .neq 32 p q 32) (hx : ρ p = s.val) (hy : ρ q = s'.val) : (execOp ρ o).run Tryz.prog w = .ok (.value (.bool (!decide (s = s')))) w := by
  unfold execOp
  simp only [ho, hx, hy]
  obtain ⟨a, b, c⟩ := s
  obtain ⟨a', b', c'⟩ := s'
  unfold SV.val
  simp [go_sem, run_neq_struct, show Tryz.prog.eqGuardType Tryz.prog.depth 32 = false by kernel_rfl]
  by_cases h1 : a = a' <;> by_cases h2 : b = b' <;> by_cases h3 : c = c' <;> simp [h1, h2, h3]
theorem run_eqsty {s s' : SV} (ho : o.op = .binOp .eql 32 p q 32) (hx : ρ p = s.val) (hy : ρ q = s'.val) : (execOp ρ o).run Tryz.prog w = .ok (.value (.bool (decide (s = s')))) w := by
  unfold execOp
  simp only [ho, hx, hy]
  obtain ⟨a, b, c⟩ := s
  obtain ⟨a', b', c'⟩ := s'
  unfold SV.val
  simp [go_sem, run_eql_struct, show Tryz.prog.eqGuardType Tryz.prog.depth 32 = false by kernel_rfl]
  by_cases h1 : a = a' <;> by_cases h2 : b = b' <;> by_cases h3 : c = c' <;> simp [h1, h2, h3]
theorem run_neint {t t' : TypeId} {x y : Int} (ho : o.op = .binOp .neq t p q t') (hx : ρ p = .int .i64 x) (hy : ρ q = .int .i64 y) : (execOp ρ o).run Tryz.prog w = .ok (.value (.bool (!decide (x = y)))) w := by
  unfold execOp
  simp only [ho, hx, hy]
  simp [eqGuard, binOp, go_sem, bne, BEq.beq]
theorem run_eqint {t t' : TypeId} {x y : Int} (ho : o.op = .binOp .eql t p q t') (hx : ρ p = .int .i64 x) (hy : ρ q = .int .i64 y) : (execOp ρ o).run Tryz.prog w = .ok (.value (.bool (decide (x = y)))) w := by
  unfold execOp
  simp only [ho, hx, hy]
  simp [eqGuard, binOp, go_sem, BEq.beq]
/-- an int8 made an int -/
theorem run_wide8 {t t' : TypeId} {x : Int} (ho : o.op = .convert t t' p) (hx : ρ p = .int .i8 x) (ht : Tryz.prog.underlying t = some (.int .i8)) (ht' : Tryz.prog.underlying t' = some (.int .i64)) (h : -128 ≤ x ∧ x ≤ 127) : (execOp ρ o).run Tryz.prog w = .ok (.value (.int .i64 x)) w := by
  have hw : IntKind.i64.wrap x = x := IntWalk.i64_in _ (by omega)
  unfold execOp
  simp only [ho, hx]
  simp [go_sem, convert, run_underlying ht, run_underlying ht', hw]
end
end Go.Proofs.YtdgcfmfjgidbjaaGreat.cel
namespace Go.Proofs.YtdgcfmfjgidbjaaGreat.cel
open Go.ChangeShapes Go.WideShapes Go.ChangeAt Go.RowKit Go.Proofs
set_option linter.unusedVariables false

def SV.ok (s : SV) : Prop := s.wf ∧ 0 ≤ s.att ∧ s.att ≤ 255
def CV.ok (c : CV) : Prop := c.text.size ≤ maxLen ∧ (-128 ≤ c.wide ∧ c.wide ≤ 127) ∧ c.sty.ok
theorem wf_i32 {n : Int} (h : (Lit.int .i32 n).wf = true) : w32 n := by
  unfold w32
  simp only [Lit.wf, Bool.and_eq_true, decide_eq_true_eq] at h
  rw [show IntKind.i32.min = -2147483648 by decide, show IntKind.i32.max = 2147483647 by decide] at h
  omega
theorem wf_i64 {n : Int} (h : (Lit.int .i64 n).wf = true) : w64 n := by
  unfold w64
  simp only [Lit.wf, Bool.and_eq_true, decide_eq_true_eq] at h
  rw [show IntKind.i64.min = -9223372036854775808 by decide, show IntKind.i64.max = 9223372036854775807 by decide] at h
  omega
theorem wf_i8 {n : Int} (h : (Lit.int .i8 n).wf = true) : -128 ≤ n ∧ n ≤ 127 := by
  simp only [Lit.wf, Bool.and_eq_true, decide_eq_true_eq] at h
  rw [show IntKind.i8.min = -128 by decide, show IntKind.i8.max = 127 by decide] at h
  omega
theorem wf_u8 {n : Int} (h : (Lit.int .u8 n).wf = true) : 0 ≤ n ∧ n ≤ 255 := by
  simp only [Lit.wf, Bool.and_eq_true, decide_eq_true_eq] at h
  rw [show IntKind.u8.min = 0 by decide, show IntKind.u8.max = 255 by decide] at h
  omega
section
variable {H : Type} {enc : TypeId × Value → H} {w : World} {base : Nat} {spare : Nat → Bool} {held : Bool}

theorem trod_fields {P : Program} {t : TypeId} {fs : Array Field} {fuel : Nat} {cs : List Value} {x : DataW H × List MemPlace} (ht : P.underlying t = some (.struct fs)) (h : DataW.trod enc P w base spare held fuel t cs = some x) :
    cs.length = P.cellsOf t ∧ ∃ n, ∀ (i : Nat) (f : Field), fs[i]? = some f → ∃ y, DataW.trod enc P w base spare held n f.type ((cs.drop f.offset).take (P.cellsOf f.type)) = some y := by
  obtain ⟨xs, n, -, -, hl, hx, hf⟩ := DataW.trod_struct ht h
  refine ⟨hl, n, fun i f hi => ?_⟩
  have hlt := (Array.getElem?_eq_some_iff.1 hi).1
  rw [hf i f hi]
  exact ⟨xs[i], List.getElem?_eq_getElem (by omega)⟩

set_option maxRecDepth 100000 in
theorem trod_sty {fuel : Nat} {cs : List Value} {x : DataW H × List MemPlace} (h : DataW.trod enc Tryz.prog w base spare held fuel 32 cs = some x) : ∃ s : SV, cs = [.int .i32 s.fg, .int .i32 s.bg, .int .u8 s.att] ∧ s.ok := by
  obtain ⟨hl, n, hf⟩ := trod_fields Tryz.underlying32 h
  rw [show Tryz.prog.cellsOf 32 = 3 by kernel_rfl] at hl
  match cs, hl with
  | [a, b, c], _ =>
    obtain ⟨y0, h0⟩ := hf 0 _ rfl
    obtain ⟨y1, h1⟩ := hf 1 _ rfl
    obtain ⟨y2, h2⟩ := hf 2 _ rfl
    obtain ⟨n0, e0, -, w0⟩ := DataW.trod_int Tryz.underlying30 h0
    obtain ⟨n1, e1, -, w1⟩ := DataW.trod_int Tryz.underlying30 h1
    obtain ⟨n2, e2, -, w2⟩ := DataW.trod_int Tryz.underlying5 h2
    change [a] = _ at e0
    change [b] = _ at e1
    change [c] = _ at e2
    simp only [List.cons.injEq, and_true] at e0 e1 e2
    subst e0 e1 e2
    exact ⟨⟨n0, n1, n2⟩, rfl, ⟨wf_i32 w0, wf_i32 w1⟩, wf_u8 w2⟩

set_option maxRecDepth 100000 in
theorem trod_rect {fuel : Nat} {cs : List Value} {x : DataW H × List MemPlace} (h : DataW.trod enc Tryz.prog w base spare held fuel 34 cs = some x) : ∃ r : RT, cs = [.int .i64 r.x, .int .i64 r.y, .int .i64 r.w, .int .i64 r.h] ∧ r.wf := by
  obtain ⟨hl, n, hf⟩ := trod_fields Tryz.underlying34 h
  rw [show Tryz.prog.cellsOf 34 = 4 by kernel_rfl] at hl
  match cs, hl with
  | [a, b, c, d], _ =>
    obtain ⟨y0, h0⟩ := hf 0 _ rfl
    obtain ⟨y1, h1⟩ := hf 1 _ rfl
    obtain ⟨y2, h2⟩ := hf 2 _ rfl
    obtain ⟨y3, h3⟩ := hf 3 _ rfl
    obtain ⟨n0, e0, -, w0⟩ := DataW.trod_int Tryz.underlying3 h0
    obtain ⟨n1, e1, -, w1⟩ := DataW.trod_int Tryz.underlying3 h1
    obtain ⟨n2, e2, -, w2⟩ := DataW.trod_int Tryz.underlying3 h2
    obtain ⟨n3, e3, -, w3⟩ := DataW.trod_int Tryz.underlying3 h3
    change [a] = _ at e0
    change [b] = _ at e1
    change [c] = _ at e2
    change [d] = _ at e3
    simp only [List.cons.injEq, and_true] at e0 e1 e2 e3
    subst e0 e1 e2 e3
    exact ⟨⟨n0, n1, n2, n3⟩, rfl, wf_i64 w0, wf_i64 w1, wf_i64 w2, wf_i64 w3⟩

set_option maxRecDepth 100000 in
theorem trod_cell {fuel : Nat} {cs : List Value} {x : DataW H × List MemPlace} (h : DataW.trod enc Tryz.prog w base spare held fuel 59 cs = some x) : ∃ c : CV, cs = [.string c.text, .int .i8 c.wide, .int .i32 c.sty.fg, .int .i32 c.sty.bg, .int .u8 c.sty.att] ∧ c.ok := by
  obtain ⟨hl, n, hf⟩ := trod_fields Tryz.underlying59 h
  rw [show Tryz.prog.cellsOf 59 = 5 by kernel_rfl] at hl
  match cs, hl with
  | [a, b, c, d, e], _ =>
    obtain ⟨y0, h0⟩ := hf 0 _ rfl
    obtain ⟨y1, h1⟩ := hf 1 _ rfl
    obtain ⟨y2, h2⟩ := hf 2 _ rfl
    obtain ⟨s0, e0, -, w0⟩ := DataW.trod_string Tryz.underlying9 h0
    obtain ⟨n1, e1, -, w1⟩ := DataW.trod_int Tryz.underlying57 h1
    obtain ⟨s, e2, w2⟩ := trod_sty h2
    change [a] = _ at e0
    change [b] = _ at e1
    change [c, d, e] = _ at e2
    simp only [List.cons.injEq, and_true] at e0 e1 e2
    obtain ⟨rfl, rfl, rfl⟩ := e2
    subst e0 e1
    exact ⟨⟨s0, n1, s⟩, rfl, w0, wf_i8 w1, w2⟩

set_option maxRecDepth 100000 in
theorem trod_row {fuel : Nat} {cs : List Value} {x : DataW H × List MemPlace} (h : DataW.trod enc Tryz.prog w base (fun _ => true) held fuel 35 cs = some x) :
    ∃ (a : Option Addr) (cap : Nat) (L : List CV), cs = [.slice a L.length cap] ∧ Reads5 w (.slice a L.length cap) L ∧ L.length ≤ cap ∧ cap ≤ maxLen ∧ (∀ c ∈ L, c.ok) := by
  rcases Go.Deep.open_slice Tryz.underlying35 h with ⟨rfl, -⟩ | ⟨a, len, cap, m, n, D, Pl, rfl, -, hl, hm, hmm, -, hi⟩
  · exact ⟨none, 0, [], rfl, ⟨none, 0, rfl, fun i hi => by simp at hi⟩, Nat.le_refl _, Nat.zero_le _, by simp⟩
  · simp only [if_true] at hmm
    obtain rfl : cap = m := hmm.symm
    have hc5 : Tryz.prog.cellsOf 59 = 5 := by kernel_rfl
    rw [hc5] at hi
    have hcell : ∀ i, i < cap → ∃ c : CV, c.ok ∧ w.cell? ((a.add (i * 5)).add 0) = some (.string c.text) ∧ w.cell? ((a.add (i * 5)).add 1) = some (.int .i8 c.wide) ∧ w.cell? ((a.add (i * 5)).add 2) = some (.int .i32 c.sty.fg) ∧ w.cell? ((a.add (i * 5)).add 3) = some (.int .i32 c.sty.bg) ∧ w.cell? ((a.add (i * 5)).add 4) = some (.int .u8 c.sty.att) := by
      intro i hic
      obtain ⟨cs', h1, h2⟩ := hi i hic
      obtain ⟨c, rfl, hok⟩ := trod_cell h2
      obtain ⟨-, -, hc⟩ := World.cells?_some h1
      exact ⟨c, hok, hc 0 (by omega), hc 1 (by omega), hc 2 (by omega), hc 3 (by omega), hc 4 (by omega)⟩
    obtain ⟨f, hf⟩ := Go.Deep.choose_lt (α := CV) hcell
    have hls : ((List.range len).map f).length = len := by simp
    refine ⟨some a, cap, (List.range len).map f, by rw [hls], ⟨some a, cap, rfl, fun i hi' => ?_⟩, by rw [hls]; exact hl, hm, fun c hc => ?_⟩
    · rw [hls] at hi'
      obtain ⟨-, g0, g1, g2, g3, g4⟩ := hf i (by omega)
      obtain ⟨-, k0, -⟩ := hf 0 (by omega)
      obtain ⟨b, off, spot⟩ := a
      have hspot : spot = none := by simpa [Addr.add] using World.cell?_spot k0
      subst hspot
      simp only [run.add_none] at g0 g1 g2 g3 g4
      have hget : ((List.range len).map f).getD i z0 = f i := by simp [List.getD_eq_getElem?_getD, hi']
      rw [hget]
      exact ⟨b, off, rfl, run.lt_of_cell g0, g0, g1, g2, g3, g4⟩
    · obtain ⟨i, hi2, rfl⟩ := List.mem_map.1 hc
      exact (hf i (by have := List.mem_range.1 hi2; omega)).1
end
end Go.Proofs.YtdgcfmfjgidbjaaGreat.cel
namespace Go.Proofs.YtdgcfmfjgidbjaaGreat.cel
open Go.ChangeShapes Go.WideShapes Go.ChangeAt Go.RowKit Go.Proofs
set_option linter.unusedVariables false

/-- within the form's bound -/
def Within {H : Type} (P : Program) (t : TypeId) (d : DataW H) : Prop := ∀ n ∈ d.weights P t, n ≤ reachBytes
section
variable {H : Type} {enc : TypeId × Value → H} {P : Program} {w : World} {base : Nat} {spare : Nat → Bool} {held : Bool}

theorem weights_all {e : TypeId} {n : Nat} : ∀ {l : List (DataW H)} {d : DataW H}, d ∈ l → n ∈ d.weights P e → n ∈ DataW.weightsAll P e l
  | c :: l, d, h, hn => by
    rw [DataW.weightsAll, List.mem_append]
    rcases List.mem_cons.1 h with rfl | h
    · exact .inl hn
    · exact .inr (weights_all h hn)
theorem fields_within {t : TypeId} {fs : Array Field} {fuel : Nat} {cs : List Value} {x : DataW H × List MemPlace} (ht : P.underlying t = some (.struct fs)) (hw : Within P t x.1) (h : DataW.trod enc P w base spare held fuel t cs = some x) :
    cs.length = P.cellsOf t ∧ ∃ n, ∀ (i : Nat) (f : Field), fs[i]? = some f → ∃ y, DataW.trod enc P w base spare held n f.type ((cs.drop f.offset).take (P.cellsOf f.type)) = some y ∧ Within P f.type y.1 := by
  obtain ⟨xs, n, -, rfl, hl, hx, hf⟩ := DataW.trod_struct ht h
  refine ⟨hl, n, fun i f hi => ?_⟩
  have hlt := (Array.getElem?_eq_some_iff.1 hi).1
  have hxi : xs[i]? = some xs[i] := List.getElem?_eq_getElem (by omega)
  rw [hf i f hi]
  refine ⟨xs[i], hxi, fun m hm => hw m ?_⟩
  simp only [DataW.weights, ht]
  exact DataW.weights_mem_each (j := i) (t := f.type) (d := xs[i].1) (ts := fs.toList.map (·.type)) (by rw [List.getElem?_map, Array.getElem?_toList, hi]; rfl) (by rw [List.getElem?_map, hxi]; rfl) m hm
theorem slice_within {t e : TypeId} {fuel : Nat} {cs : List Value} {x : DataW H × List MemPlace} (ht : P.underlying t = some (.slice e)) (hw : Within P t x.1) (h : DataW.trod enc P w base (fun _ => true) held fuel t cs = some x) :
    (cs = [.slice none 0 0]) ∨
    ∃ (a : Addr) (len cap n : Nat), cs = [.slice (some a) len cap] ∧ base ≤ a.block ∧ len ≤ cap ∧ cap ≤ maxLen ∧ cap * P.bytesOf e ≤ reachBytes ∧
      ∀ i, i < cap → ∃ cs' y, w.cells? base (a.add (i * P.cellsOf e)) (P.cellsOf e) = some cs' ∧ DataW.trod enc P w base (fun _ => true) held n e cs' = some y ∧ Within P e y.1 := by
  rcases Go.Deep.open_slice ht h with ⟨rfl, -⟩ | ⟨a, len, cap, m, n, D, Pl, rfl, hb, hl, hm, hmm, rfl, hi⟩
  · exact .inl rfl
  · simp only [if_true] at hmm
    obtain rfl : cap = m := hmm.symm
    simp only [Within, DataW.weights, ht] at hw
    refine .inr ⟨a, len, cap, n, rfl, hb, hl, hm, ?_, fun i hic => ?_⟩
    · have := hw _ (List.mem_cons_self)
      simp only [List.length_map, List.length_range] at this
      rwa [show len + (cap - len) = cap by omega] at this
    · obtain ⟨cs', h1, h2⟩ := hi i hic
      refine ⟨cs', _, h1, h2, fun k hk => hw k (List.mem_cons_of_mem _ ?_)⟩
      rw [List.mem_append]
      by_cases hil : i < len
      · exact .inl (weights_all (List.mem_map.2 ⟨i, by simpa using hil, rfl⟩) hk)
      · exact .inr (weights_all (List.mem_map.2 ⟨i - len, by simp; omega, by rw [show len + (i - len) = i by omega]⟩) hk)
theorem string_within {t : TypeId} {fuel : Nat} {cs : List Value} {x : DataW H × List MemPlace} (ht : P.underlying t = some .string) (hw : Within P t x.1) (h : DataW.trod enc P w base spare held fuel t cs = some x) : ∃ s : ByteArray, cs = [.string s] ∧ s.size ≤ 140737488351232 := by
  obtain ⟨s, rfl, rfl, -⟩ := DataW.trod_string ht h
  refine ⟨s, rfl, ?_⟩
  have := hw s.data.toList.length (by simp [DataW.weights])
  exact this
end

section
variable {H : Type} {enc : TypeId × Value → H} {w : World} {base : Nat} {held : Bool}
/-- a cell as it may come in -/
def CV.fine (c : CV) : Prop := c.text.size ≤ 140737488351232 ∧ (-128 ≤ c.wide ∧ c.wide ≤ 127) ∧ c.sty.ok
set_option maxRecDepth 100000 in
theorem cell_within {fuel : Nat} {cs : List Value} {x : DataW H × List MemPlace} (hw : Within Tryz.prog 59 x.1) (h : DataW.trod enc Tryz.prog w base (fun _ => true) held fuel 59 cs = some x) : ∃ c : CV, cs = [.string c.text, .int .i8 c.wide, .int .i32 c.sty.fg, .int .i32 c.sty.bg, .int .u8 c.sty.att] ∧ c.fine := by
  obtain ⟨hl, n, hf⟩ := fields_within Tryz.underlying59 hw h
  rw [show Tryz.prog.cellsOf 59 = 5 by kernel_rfl] at hl
  match cs, hl with
  | [a, b, c, d, e], _ =>
    obtain ⟨y0, h0, g0⟩ := hf 0 _ rfl
    obtain ⟨y1, h1, g1⟩ := hf 1 _ rfl
    obtain ⟨y2, h2, g2⟩ := hf 2 _ rfl
    obtain ⟨s0, e0, w0⟩ := string_within Tryz.underlying9 g0 h0
    obtain ⟨n1, e1, -, w1⟩ := DataW.trod_int Tryz.underlying57 h1
    obtain ⟨s, e2, w2⟩ := trod_sty h2
    change [a] = _ at e0
    change [b] = _ at e1
    change [c, d, e] = _ at e2
    simp only [List.cons.injEq, and_true] at e0 e1 e2
    obtain ⟨rfl, rfl, rfl⟩ := e2
    subst e0 e1
    exact ⟨⟨s0, n1, s⟩, rfl, w0, wf_i8 w1, w2⟩
set_option maxRecDepth 100000 in
theorem row_within {fuel : Nat} {cs : List Value} {x : DataW H × List MemPlace} (hw : Within Tryz.prog 35 x.1) (h : DataW.trod enc Tryz.prog w base (fun _ => true) held fuel 35 cs = some x) :
    ∃ (a : Option Addr) (cap : Nat) (L : List CV), cs = [.slice a L.length cap] ∧ Reads5 w (.slice a L.length cap) L ∧ (a = none → cap = 0) ∧ L.length ≤ cap ∧ cap * 32 ≤ 140737488351232 ∧ (∀ c ∈ L, c.fine) := by
  rcases slice_within Tryz.underlying35 hw h with rfl | ⟨a, len, cap, n, rfl, -, hl, hm, hby, hi⟩
  · exact ⟨none, 0, [], rfl, ⟨none, 0, rfl, fun i hi => by simp at hi⟩, fun _ => rfl, Nat.le_refl _, by omega, by simp⟩
  · have hc5 : Tryz.prog.cellsOf 59 = 5 := by kernel_rfl
    rw [hc5] at hi
    have hcell : ∀ i, i < cap → ∃ c : CV, c.fine ∧ w.cell? ((a.add (i * 5)).add 0) = some (.string c.text) ∧ w.cell? ((a.add (i * 5)).add 1) = some (.int .i8 c.wide) ∧ w.cell? ((a.add (i * 5)).add 2) = some (.int .i32 c.sty.fg) ∧ w.cell? ((a.add (i * 5)).add 3) = some (.int .i32 c.sty.bg) ∧ w.cell? ((a.add (i * 5)).add 4) = some (.int .u8 c.sty.att) := by
      intro i hic
      obtain ⟨cs', y, h1, h2, h3⟩ := hi i hic
      obtain ⟨c, rfl, hok⟩ := cell_within h3 h2
      obtain ⟨-, -, hc⟩ := World.cells?_some h1
      exact ⟨c, hok, hc 0 (by omega), hc 1 (by omega), hc 2 (by omega), hc 3 (by omega), hc 4 (by omega)⟩
    obtain ⟨f, hf⟩ := Go.Deep.choose_lt (α := CV) hcell
    have hls : ((List.range len).map f).length = len := by simp
    have hb32 : Tryz.prog.bytesOf 59 = 32 := by kernel_rfl
    rw [hb32] at hby
    refine ⟨some a, cap, (List.range len).map f, by rw [hls], ⟨some a, cap, rfl, fun i hi' => ?_⟩, (fun h => by cases h), by rw [hls]; exact hl, hby, fun c hc => ?_⟩
    · rw [hls] at hi'
      obtain ⟨-, g0, g1, g2, g3, g4⟩ := hf i (by omega)
      obtain ⟨-, k0, -⟩ := hf 0 (by omega)
      obtain ⟨b, off, spot⟩ := a
      have hspot : spot = none := by simpa [Addr.add] using World.cell?_spot k0
      subst hspot
      simp only [run.add_none] at g0 g1 g2 g3 g4
      have hget : ((List.range len).map f).getD i z0 = f i := by simp [List.getD_eq_getElem?_getD, hi']
      rw [hget]
      exact ⟨b, off, rfl, run.lt_of_cell g0, g0, g1, g2, g3, g4⟩
    · obtain ⟨i, hi2, rfl⟩ := List.mem_map.1 hc
      exact (hf i (by have := List.mem_range.1 hi2; omega)).1

/-- a screen as it comes in -/
structure ScrI where
  w : Int
  h : Int
  a : Option Addr
  n : Nat
  c : Nat
  x : Int
  y : Int
  shown : Bool
def ScrI.cells (s : ScrI) : Array Value := #[.int .i64 s.w, .int .i64 s.h, .slice s.a s.n s.c, .int .i64 s.x, .int .i64 s.y, .bool s.shown]
set_option maxRecDepth 100000 in
theorem open_screen {v : Value} {d : DataW H} {p : List MemPlace} (hw : Within Tryz.prog 64 d) (hv : Value.okWide Tryz.prog w .any base 64 v) (h : DataW.Trod enc Tryz.prog w 0 (fun _ => true) true 64 v d p) :
    ∃ (s : ScrI) (L : List CV), v = .agg s.cells ∧ s.n = L.length ∧ Reads5 w (.slice s.a s.n s.c) L ∧ (s.a = none → s.c = 0) ∧ s.n ≤ s.c ∧ s.c * 32 ≤ 140737488351232 ∧ (∀ c ∈ L, c.fine) ∧ w64 s.w ∧ w64 s.h ∧ w64 s.x ∧ w64 s.y := by
  obtain ⟨cs, rfl, -⟩ := okWide_struct Tryz.underlying64 hv
  obtain ⟨fuel, hf⟩ := h
  obtain ⟨hl, n, hf⟩ := fields_within Tryz.underlying64 hw hf
  rw [show Tryz.prog.cellsOf 64 = 6 by kernel_rfl] at hl
  change cs.toList.length = 6 at hl
  change ∀ (i : Nat) (f : Field), _ → ∃ y, DataW.trod enc Tryz.prog w 0 (fun _ => true) true n f.type ((cs.toList.drop f.offset).take _) = some y ∧ _ at hf
  obtain ⟨l, hll⟩ : ∃ l, l = cs.toList := ⟨_, rfl⟩
  rw [← hll] at hl hf
  match l, hl with
  | [c0, c1, c2, c3, c4, c5], _ =>
    obtain ⟨y0, h0, g0⟩ := hf 0 _ rfl
    obtain ⟨y1, h1, g1⟩ := hf 1 _ rfl
    obtain ⟨y2, h2, g2⟩ := hf 2 _ rfl
    obtain ⟨y3, h3, g3⟩ := hf 3 _ rfl
    obtain ⟨y4, h4, g4⟩ := hf 4 _ rfl
    obtain ⟨y5, h5, g5⟩ := hf 5 _ rfl
    obtain ⟨n0, e0, -, w0⟩ := DataW.trod_int Tryz.underlying3 h0
    obtain ⟨n1, e1, -, w1⟩ := DataW.trod_int Tryz.underlying3 h1
    obtain ⟨a2, cap2, L, e2, r2, z2, l2, m2, k2⟩ := row_within g2 h2
    obtain ⟨n3, e3, -, w3⟩ := DataW.trod_int Tryz.underlying3 h3
    obtain ⟨n4, e4, -, w4⟩ := DataW.trod_int Tryz.underlying3 h4
    obtain ⟨b5, e5, -⟩ := DataW.trod_bool Tryz.underlying4 h5
    change [c0] = _ at e0
    change [c1] = _ at e1
    change [c2] = _ at e2
    change [c3] = _ at e3
    change [c4] = _ at e4
    change [c5] = _ at e5
    simp only [List.cons.injEq, and_true] at e0 e1 e2 e3 e4 e5
    subst e0 e1 e2 e3 e4 e5
    refine ⟨⟨n0, n1, a2, L.length, cap2, n3, n4, b5⟩, L, ?_, rfl, r2, z2, l2, m2, k2, wf_i64 w0, wf_i64 w1, wf_i64 w3, wf_i64 w4⟩
    congr 1
    exact Array.toList_inj.1 hll.symm
set_option maxRecDepth 100000 in
theorem open_row {v : Value} {d : DataW H} {p : List MemPlace} (hw : Within Tryz.prog 35 d) (hv : Value.okWide Tryz.prog w .any base 35 v) (h : DataW.Trod enc Tryz.prog w 0 (fun _ => true) true 35 v d p) :
    ∃ (a : Option Addr) (cap : Nat) (L : List CV), v = .slice a L.length cap ∧ Reads5 w (.slice a L.length cap) L ∧ (a = none → cap = 0) ∧ L.length ≤ cap ∧ cap * 32 ≤ 140737488351232 ∧ (∀ c ∈ L, c.fine) := by
  obtain ⟨a, len, cap, rfl⟩ := okWide_slice Tryz.underlying35 hv
  obtain ⟨fuel, hf⟩ := h
  obtain ⟨a', cap', L, e, h⟩ := row_within hw hf
  simp [Value.cells] at e
  obtain ⟨rfl, rfl, rfl⟩ := e
  exact ⟨a, cap, L, rfl, h⟩
set_option maxRecDepth 100000 in
theorem open_sty {v : Value} {d : DataW H} {p : List MemPlace} (hv : Value.okWide Tryz.prog w .any base 32 v) (h : DataW.Trod enc Tryz.prog w 0 (fun _ => true) true 32 v d p) : ∃ s : SV, v = s.val ∧ s.ok := by
  obtain ⟨cs, rfl, -⟩ := okWide_struct Tryz.underlying32 hv
  obtain ⟨fuel, hf⟩ := h
  obtain ⟨s, e, hs⟩ := trod_sty hf
  refine ⟨s, ?_, hs⟩
  change Value.agg cs = .agg #[_, _, _]
  congr 1
  exact Array.toList_inj.1 e
end
end Go.Proofs.YtdgcfmfjgidbjaaGreat.cel
