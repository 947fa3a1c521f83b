/-
  The walks of the layer cells: a buffer in memory; a cell written.
-/
import Derived.Test.YtinnggiohalifaaCelRect2
import Derived.Test.YtinnggiohalifaaWrpRow
namespace Go.Proofs.Ytinnggiohalifaa.cel
open Go Go.RowKit Go.Proofs
set_option linter.unusedVariables false

/-- a buffer: at b its numbers and the row of its cells, the row in block g -/
structure Buf (w : World) (b g W H : Nat) (L : List CV) : Prop where
  h0 : w.cell? ⟨b, 0, none⟩ = some (.int .i64 W)
  h1 : w.cell? ⟨b, 1, none⟩ = some (.int .i64 H)
  h2 : w.cell? ⟨b, 2, none⟩ = some (.slice (some ⟨g, 0, none⟩) (W * H : Nat) (W * H : Nat))
  grid : Grid w g L
  blk : ∃ cs t, w.heap[g]? = some (.cells cs t (0, 0))
  len : L.length = W * H
  ne : b ≠ g
  wide : W ≤ 4096
  high : H ≤ 4096
  size : W * H ≤ 1048576
theorem Buf.lt {w : World} {b g W H : Nat} {L : List CV} (h : Buf w b g W H L) : b < w.heap.size ∧ g < w.heap.size := by
  refine ⟨run.lt_of_cell h.h0, ?_⟩
  obtain ⟨cs, t, e⟩ := h.blk
  exact (Array.getElem?_eq_some_iff.1 e).1
theorem Buf.free {w : World} {b g W H : Nat} {L : List CV} (h : Buf w b g W H L) (j : Nat) : w.frozen? ⟨g, j, none⟩ = false := by
  obtain ⟨cs, t, e⟩ := h.blk
  exact blk_free e j
theorem Buf.of_blocks {w w' : World} {b g W H : Nat} {L : List CV} (h : Buf w b g W H L) (hb : w'.heap[b]? = w.heap[b]?) (hg : w'.heap[g]? = w.heap[g]?) : Buf w' b g W H L :=
  ⟨(World.cell?_of_block (a := ⟨b, 0, none⟩) hb).trans h.h0, (World.cell?_of_block (a := ⟨b, 1, none⟩) hb).trans h.h1, (World.cell?_of_block (a := ⟨b, 2, none⟩) hb).trans h.h2, h.grid.of_block hg, by obtain ⟨cs, t, e⟩ := h.blk; exact ⟨cs, t, hg.trans e⟩, h.len, h.ne, h.wide, h.high, h.size⟩
theorem Buf.below {w w' : World} {b g W H : Nat} {L : List CV} (h : Buf w b g W H L) (hb : Below w.heap.size w w') : Buf w' b g W H L := h.of_blocks (hb.block b h.lt.1) (hb.block g h.lt.2)
theorem Buf.alloc {w : World} {b g W H : Nat} {L : List CV} (h : Buf w b g W H L) (o : Obj) : Buf (w.alloc o) b g W H L := h.below (run.below_one w o)
theorem Buf.kept {w w' : World} {b g W H k : Nat} {L : List CV} (h : Buf w b g W H L) (hg : w.grownBy w' (some k)) (hb : b ≠ k) (hgk : g ≠ k) : Buf w' b g W H L :=
  h.of_blocks (hg.block b h.lt.1 (by simpa using hb)) (hg.block g h.lt.2 (by simpa using hgk))
theorem setC_other_block {w : World} {g k n : Nat} {c : CV} (h : n ≠ g) : (setC w g k c).heap[n]? = w.heap[n]? := by
  unfold setC
  rw [blk_other _ h, blk_other _ h, blk_other _ h, blk_other _ h, blk_other _ h]
theorem Buf.store {w : World} {b g W H : Nat} {L : List CV} (h : Buf w b g W H L) {k : Nat} (hk : k < W * H) (c : CV) : Buf (setC w g k c) b g W H (L.set k c) := by
  have hb : (setC w g k c).heap[b]? = w.heap[b]? := setC_other_block h.ne
  refine ⟨(World.cell?_of_block (a := ⟨b, 0, none⟩) hb).trans h.h0, (World.cell?_of_block (a := ⟨b, 1, none⟩) hb).trans h.h1, (World.cell?_of_block (a := ⟨b, 2, none⟩) hb).trans h.h2, h.grid.set (by rw [h.len]; exact hk) c, ?_, by rw [List.length_set, h.len], h.ne, h.wide, h.high, h.size⟩
  obtain ⟨cs, t, e⟩ := h.blk
  exact ⟨_, _, blk_set (blk_set (blk_set (blk_set (blk_set e))))⟩
theorem setC_grown (w : World) (g k : Nat) (c : CV) : w.grownBy (setC w g k c) (some g) :=
  run.grown_trans (run.setCell_grown w g (k * 5) (.string c.text)) (run.grown_trans (run.setCell_grown _ g (k * 5 + 1) (.int .i8 c.wide)) (run.grown_trans (run.setCell_grown _ g (k * 5 + 2) (.int .i32 c.sty.fg)) (run.grown_trans (run.setCell_grown _ g (k * 5 + 3) (.int .i32 c.sty.bg)) (run.setCell_grown _ g (k * 5 + 4) (.int .u8 c.sty.att)) (.inl rfl)) (.inl rfl)) (.inl rfl)) (.inl rfl)

/-- one cell stored, as one step of a drawn region -/
theorem run_store5 {o : Oper} {ρ : Operand → Value} {w : World} {p q : Operand} {b g W H k : Nat} {L : List CV} {c : CV} (h : Buf w b g W H L) (hk : k < W * H) (ho : o.op = .store 44 p q) (hx : ρ p = .pointer (some ⟨g, k * 5, none⟩)) (hq : ρ q = c.val) : (execOp ρ o).run Try.prog w = .ok .skip (setC w g k c) := by
  have hk2 : k < L.length := by rw [h.len]; exact hk
  obtain ⟨c0, c1, c2, c3, c4⟩ := h.grid.at hk2
  have f0 := h.free (k * 5)
  have f1 := h.free (k * 5 + 1)
  have f2 := h.free (k * 5 + 2)
  have f3 := h.free (k * 5 + 3)
  have f4 := h.free (k * 5 + 4)
  unfold execOp
  simp only [ho, hx, hq]
  unfold setC CV.val
  simp [go_sem, c0, c1, c2, c3, c4, f0, f1, f2, f3, f4]
theorem run_at5 {P : Program} {o : Oper} {ρ : Operand → Value} {w : World} {t e : TypeId} {p q : Operand} {b len cap i : Nat} {it : TypeInfo} (ho : o.op = .indexAddr t p q) (hx : ρ p = .slice (some ⟨b, 0, none⟩) len cap) (hy : ρ q = .int .i64 (i : Nat)) (hi : i < len)
    (hu : P.underlying t = some (.slice e)) (hs : P.info? e = some it) (hz : it.size = 5) : (execOp ρ o).run P w = .ok (.value (.pointer (some ⟨b, i * 5, none⟩))) w := by
  have := lx.run_at (w := w) ho hx hy hi hu hs hz
  rwa [Nat.zero_add] at this
theorem info_cell : (Try.prog.info? 44).map (fun i => (i.zero, i.size, i.bytes)) = some (some (.agg #[.string ⟨#[]⟩, .int .i8 0, .int .i32 0, .int .i32 0, .int .u8 0]), 5, 32) := by kernel_rfl
end Go.Proofs.Ytinnggiohalifaa.cel
