/-
  The walk of Shift. (Printed by gen_celshift.py.)
-/
import Derived.Test.YtinnggiohalifaaCelFill
import Derived.Test.YtinnggiohalifaaLxS
namespace Go.Proofs.Ytinnggiohalifaa.cel
open Go Go.RowKit Go.Proofs
set_option linter.unusedVariables false

def copyRow (W y f X : Nat) (O : List CV) : Nat → List CV → List CV
  | 0, L => L
  | k + 1, L => (copyRow W y f X O k L).set (y * W + (X + k)) (O.getD (f * W + (X + k)) z0)
def shiftRow (W X Y RW RH : Nat) (D : Int) (c : CV) (O : List CV) (y : Nat) (L : List CV) : List CV :=
  if (Y : Int) ≤ (y : Int) + D ∧ (y : Int) + D < (Y : Int) + (RH : Int) then copyRow W y ((y : Int) + D).toNat X O RW L else fillRow W y X c RW L
def shiftT (W X Y RW RH : Nat) (D : Int) (c : CV) (O : List CV) : Nat → List CV → List CV
  | 0, L => L
  | k + 1, L => shiftRow W X Y RW RH D c O (Y + k) (shiftT W X Y RW RH D c O k L)
def spliceL (L : List CV) (i : Nat) (S : List CV) : List CV := L.take i ++ S ++ L.drop (i + S.length)
theorem copyRow_len (W y f X : Nat) (O L : List CV) : ∀ k, (copyRow W y f X O k L).length = L.length
  | 0 => rfl
  | k + 1 => by unfold copyRow; rw [List.length_set, copyRow_len]
theorem copyRow_get (W y f X : Nat) (O L : List CV) (i : Nat) : ∀ k, y * W + X + k ≤ L.length → (copyRow W y f X O k L)[i]? = if y * W + X ≤ i ∧ i < y * W + X + k then some (O.getD (f * W + X + (i - (y * W + X))) z0) else L[i]?
  | 0, _ => by rw [if_neg (by omega)]; rfl
  | k + 1, hk => by
    unfold copyRow
    rw [List.getElem?_set, copyRow_len, copyRow_get W y f X O L i k (by omega)]
    by_cases e : y * W + (X + k) = i
    · rw [if_pos e, if_pos (by omega), if_pos (by omega), show f * W + (X + k) = f * W + X + (i - (y * W + X)) by omega]
    · rw [if_neg e]
      by_cases h : y * W + X ≤ i ∧ i < y * W + X + k
      · rw [if_pos h, if_pos (by omega)]
      · rw [if_neg h, if_neg (by omega)]
theorem copyRow_splice (W y f X RW : Nat) (O L : List CV) (h1 : y * W + X + RW ≤ L.length) (h2 : f * W + X + RW ≤ O.length) : spliceL L (y * W + X) ((O.drop (f * W + X)).take RW) = copyRow W y f X O RW L := by
  apply List.ext_getElem?
  intro i
  rw [copyRow_get W y f X O L i RW h1]
  have hl : ((O.drop (f * W + X)).take RW).length = RW := by rw [List.length_take, List.length_drop]; omega
  unfold spliceL
  rw [hl]
  by_cases ha : i < y * W + X
  · rw [if_neg (by omega), List.append_assoc, List.getElem?_append_left (by rw [List.length_take]; omega), List.getElem?_take_of_lt ha]
  · by_cases hb : i < y * W + X + RW
    · rw [if_pos (by omega), List.getElem?_append_left (by rw [List.length_append, List.length_take, hl]; omega), List.getElem?_append_right (by rw [List.length_take]; omega), List.length_take, show i - min (y * W + X) L.length = i - (y * W + X) by omega, List.getElem?_take_of_lt (by omega), List.getElem?_drop, List.getD_eq_getElem?_getD]
      rw [List.getElem?_eq_getElem (show f * W + X + (i - (y * W + X)) < O.length by omega)]
      rfl
    · rw [if_neg (by omega), List.getElem?_append_right (by rw [List.length_append, List.length_take, hl]; omega), List.length_append, List.length_take, hl, List.getElem?_drop]
      congr 1
      omega

/-- a segment of the row, copied -/
theorem Buf.copied {w : World} {b g W H : Nat} {L : List CV} (h : Buf w b g W H L) {cur : Array Value} {t : TypeId} (hk : w.heap[g]? = some (.cells cur t (0, 0))) (S : List CV) (i : Nat) (hi : i + S.length ≤ W * H) :
    Buf (w.setRow g (cur.toList.take (i * 5) ++ cells5 S ++ cur.toList.drop (i * 5 + (cells5 S).length)).toArray) b g W H (spliceL L i S) ∧ i * 5 + (cells5 S).length ≤ cur.size := by
  have hsz : W * H * 5 ≤ cur.size := by
    rcases Nat.eq_zero_or_pos (W * H) with h0 | h0
    · rw [h0]; omega
    · have hlt : W * H - 1 < L.length := by rw [h.len]; omega
      obtain ⟨-, -, -, -, c4⟩ := h.grid.at hlt
      unfold World.cell? at c4
      simp only [hk] at c4
      have : (W * H - 1) * 5 + 4 < cur.size := by
        by_cases e : (W * H - 1) * 5 + 4 < cur.size
        · exact e
        · simp [Array.getElem?_eq_none (Nat.le_of_not_lt e)] at c4
      omega
  have hcl := cells5_length S
  refine ⟨?_, by omega⟩
  have hself := setRow_heap w g cur (cur.toList.take (i * 5) ++ cells5 S ++ cur.toList.drop (i * 5 + (cells5 S).length)).toArray t (0, 0) hk
  have hoth : (w.setRow g (cur.toList.take (i * 5) ++ cells5 S ++ cur.toList.drop (i * 5 + (cells5 S).length)).toArray).heap[b]? = w.heap[b]? := setRow_other _ _ _ _ h.ne
  have hcur : ∀ (j : Nat) (v : Value), (cells5 L)[j]? = some v → cur.toList[j]? = some v := by
    intro j v hj
    have := h.grid.cells hj
    unfold World.cell? at this
    simp only [hk] at this
    simpa using this
  have hnew : ∀ (j : Nat) (v : Value), (cells5 (spliceL L i S))[j]? = some v → (w.setRow g (cur.toList.take (i * 5) ++ cells5 S ++ cur.toList.drop (i * 5 + (cells5 S).length)).toArray).cell? ⟨g, j, none⟩ = some v := by
    intro j v hj
    unfold World.cell?
    simp only [hself]
    show (List.toArray _)[j]? = some v
    rw [List.getElem?_toArray]
    unfold spliceL at hj
    rw [cells5_append, cells5_append] at hj
    have hlt : (cells5 (L.take i)).length = i * 5 := by rw [cells5_length, List.length_take, h.len]; congr 1; omega
    by_cases ha : j < i * 5
    · rw [List.append_assoc, List.getElem?_append_left (by omega)] at hj
      rw [List.append_assoc, List.getElem?_append_left (by rw [List.length_take, Array.length_toList]; omega), List.getElem?_take_of_lt ha]
      refine hcur j v ?_
      rw [← hj]
      conv => lhs; rw [← List.take_append_drop i L, cells5_append]
      rw [List.getElem?_append_left (by omega)]
    · by_cases hb : j < i * 5 + (cells5 S).length
      · rw [List.getElem?_append_left (by rw [List.length_append]; omega), List.getElem?_append_right (by omega), hlt] at hj
        rw [List.getElem?_append_left (by rw [List.length_append, List.length_take, Array.length_toList]; omega), List.getElem?_append_right (by rw [List.length_take, Array.length_toList]; omega), List.length_take, show min (i * 5) cur.toList.length = i * 5 by rw [Array.length_toList]; omega]
        exact hj
      · rw [List.getElem?_append_right (by rw [List.length_append]; omega), List.length_append, hlt] at hj
        rw [List.getElem?_append_right (by rw [List.length_append, List.length_take, Array.length_toList]; omega), List.length_append, List.length_take, show min (i * 5) cur.toList.length = i * 5 by rw [Array.length_toList]; omega, List.getElem?_drop]
        refine hcur _ v ?_
        rw [← hj]
        conv => lhs; rw [← List.take_append_drop (i + S.length) L, cells5_append]
        have hl2 : (cells5 (L.take (i + S.length))).length = i * 5 + (cells5 S).length := by rw [cells5_length, List.length_take, h.len, hcl]; omega
        rw [List.getElem?_append_right (by omega), hl2]
        congr 1
        omega
  refine ⟨(World.cell?_of_block (a := ⟨b, 0, none⟩) hoth).trans h.h0, (World.cell?_of_block (a := ⟨b, 1, none⟩) hoth).trans h.h1, (World.cell?_of_block (a := ⟨b, 2, none⟩) hoth).trans h.h2, ?_, ⟨_, _, hself⟩, ?_, h.ne, h.wide, h.high, h.size⟩
  · intro k c hkc
    obtain ⟨hklt, hkv⟩ := List.getElem?_eq_some_iff.1 hkc
    have e : (spliceL L i S).getD k z0 = c := by rw [List.getD_eq_getElem?_getD, hkc]; rfl
    obtain ⟨g0, g1, g2, g3, g4⟩ := cells5_get (spliceL L i S) k hklt
    rw [e] at g0 g1 g2 g3 g4
    exact ⟨hnew _ _ g0, hnew _ _ g1, hnew _ _ g2, hnew _ _ g3, hnew _ _ g4⟩
  · unfold spliceL
    rw [List.length_append, List.length_append, List.length_take, List.length_drop, h.len]
    omega
theorem setRow_grown {w : World} {g : Nat} {cur : Array Value} {t : TypeId} (hk : w.heap[g]? = some (.cells cur t (0, 0))) (cs : Array Value) : w.grownBy (w.setRow g cs) (some g) := by
  refine ⟨rfl, rfl, rfl, Nat.le_of_eq (by simp [World.setRow]), fun k hk' hne => ?_⟩
  exact setRow_other _ _ _ _ (fun e => hne (by rw [e]))

theorem seg_cells {O : List CV} {i m j : Nat} {v : Value} (h : (cells5 ((O.drop i).take m))[j]? = some v) : (cells5 O)[i * 5 + j]? = some v := by
  rcases Nat.lt_or_ge O.length i with hi | hi
  · rw [List.drop_eq_nil_of_le (Nat.le_of_lt hi)] at h
    simp [cells5] at h
  · have e : O = O.take i ++ ((O.drop i).take m ++ (O.drop i).drop m) := by rw [List.take_append_drop, List.take_append_drop]
    conv => lhs; rw [e, cells5_append, cells5_append]
    have hl : (cells5 (O.take i)).length = i * 5 := by rw [cells5_length, List.length_take]; congr 1; omega
    rw [List.getElem?_append_right (by omega), hl, show i * 5 + j - i * 5 = j by omega, List.getElem?_append_left]
    · exact h
    · exact (List.getElem?_eq_some_iff.1 h).1
theorem fillRow_len (W y X : Nat) (c : CV) (L : List CV) : ∀ k, (fillRow W y X c k L).length = L.length
  | 0 => rfl
  | k + 1 => by unfold fillRow; rw [List.length_set, fillRow_len]
theorem shiftT_len (W X Y RW RH : Nat) (D : Int) (c : CV) (O L : List CV) : ∀ k, (shiftT W X Y RW RH D c O k L).length = L.length
  | 0 => rfl
  | k + 1 => by
    unfold shiftT shiftRow
    split
    · rw [copyRow_len, shiftT_len]
    · rw [fillRow_len, shiftT_len]

/-- a buffer with two boxes, and the cells as they were -/
structure Sh (w0 : World) (b g W H : Nat) (n : Nat) (r s : Array Value) (B : Nat) (v : Value) (O : List CV) (L : List CV) (w : World) : Prop where
  bf : Bf w0 b g W H n r s L w
  old : w.ownsRow B 44 5 v (W * H) (cells5 O)
  gB : g < B
theorem Sh.below {w0 w w' : World} {b g W H n B : Nat} {v : Value} {O L : List CV} {r s : Array Value} (h : Sh w0 b g W H n r s B v O L w) (hb : Below w.heap.size w w') : Sh w0 b g W H n r s B v O L w' :=
  ⟨h.bf.below hb, run.own_below h.old hb, h.gB⟩
theorem Sh.step {w0 w w' : World} {b g W H n B : Nat} {v : Value} {O L L' : List CV} {r s : Array Value} (h : Sh w0 b g W H n r s B v O L w) (hb : Buf w' b g W H L') (hg : w.grownBy w' (some g)) : Sh w0 b g W H n r s B v O L' w' := by
  refine ⟨h.bf.step hb hg, h.old.kept hg ?_, h.gB⟩
  cases hv : v.ownBlock with
  | none => exact .inl rfl
  | some k =>
    refine .inr fun e => ?_
    have h1 := (h.old.lt k hv).1
    have h2 := h.gB
    simp only [Option.some.injEq] at e
    omega
theorem Sh.drew {w0 w : World} {b g W H n B : Nat} {v : Value} {O L : List CV} {r s : Array Value} (h : Sh w0 b g W H n r s B v O L w) : Sh w0 b g W H n r s B v O L w.drew := h.below (drewB (Below.refl _ _))
theorem Sh.store {w0 w : World} {b g W H n B : Nat} {v : Value} {O L : List CV} {r s : Array Value} (h : Sh w0 b g W H n r s B v O L w) {i : Nat} (hi : i < W * H) (x : CV) : Sh w0 b g W H n r s B v O (L.set i x) (setC w g i x) := h.step (h.bf.buf.store hi x) (setC_grown _ _ _ _)
theorem Sh.copy {w0 w : World} {b g W H n B gg gc : Nat} {O L : List CV} {r s : Array Value} (h : Sh w0 b g W H n r s B (.slice (some ⟨gg, 0, none⟩) (W * H) gc) O L w) {y f X RW : Nat} (h1 : y * W + X + RW ≤ W * H) (h2 : f * W + X + RW ≤ O.length) (hO : O.length = W * H) (c1 c2 : Nat) (ty : TypeId) :
    ∃ w', (Builtin.copy_ #[35, 35] ty #[.slice (some ⟨g, (y * W + X) * 5, none⟩) RW c1, .slice (some ⟨gg, (f * W + X) * 5, none⟩) RW c2]).run Try.prog w = .ok (.int .i64 (RW : Nat)) w' ∧ Sh w0 b g W H n r s B (.slice (some ⟨gg, 0, none⟩) (W * H) gc) O (copyRow W y f X O RW L) w' := by
  obtain ⟨it, hinf, -, hsz, -⟩ := info_parts info_cell
  obtain ⟨cur, t, hk⟩ := h.bf.buf.blk
  have hlen := h.bf.buf.len
  have hSl : ((O.drop (f * W + X)).take RW).length = RW := by rw [List.length_take, List.length_drop]; omega
  obtain ⟨hb, hfit⟩ := h.bf.buf.copied hk ((O.drop (f * W + X)).take RW) (y * W + X) (by rw [hSl]; exact h1)
  rw [copyRow_splice W y f X RW O L (by rw [hlen]; exact h1) h2] at hb
  have hr := run_copy_rowN (P := Try.prog) w 35 35 ty 44 5 g ((y * W + X) * 5) RW c1 ⟨gg, (f * W + X) * 5, none⟩ RW c2 cur t (cells5 ((O.drop (f * W + X)).take RW)) Try.underlying35 (by rw [hinf, Option.map_some, hsz]) hk (by rw [cells5_length, hSl, show Nat.min RW RW = RW from Nat.min_self RW])
    (fun j v hj => by
      have h3 := seg_cells hj
      rw [run.add_none]
      refine (h.old.cellAt ((f * W + X) * 5 + j) ?_).trans h3
      have := (List.getElem?_eq_some_iff.1 h3).1
      rw [cells5_length] at this
      omega) hfit one_cell5
  rw [show Nat.min RW RW = RW from Nat.min_self RW] at hr
  exact ⟨_, hr, h.step hb (setRow_grown hk _)⟩
section
variable {o : Oper} {ρ : Operand → Value} {w : World} {p q : Operand} {t : TypeId}
theorem run_neg {x z : Int} (ho : o.op = .unOp .neg t p) (hx : ρ p = .int .i64 x) (hz : -x = z) (hb : -9223372036854775808 ≤ z ∧ z ≤ 9223372036854775807) : (execOp ρ o).run Try.prog w = .ok (.value (.int .i64 z)) w := by
  subst hz
  have := IntWalk.i64_in _ hb
  unfold execOp
  simp only [ho, hx]
  simp [go_sem, this]
theorem run_from5 {g len cap i c o9 : Nat} {it : TypeInfo} (ho : o.op = .slice 35 p (some q) none none) (hx : ρ p = .slice (some ⟨g, 0, none⟩) len cap) (hy : ρ q = .int .i64 (i : Nat)) (hi : i ≤ len) (hc : i < cap) (hn : len = cap) (hs : Try.prog.info? 44 = some it) (hz : it.size = 5) (e : c = cap - i) (e9 : o9 = i * 5) :
    (execOp ρ o).run Try.prog w = .ok (.value (.slice (some ⟨g, o9, none⟩) c c)) w := by
  subst e e9 hn
  have := run_from (P := Try.prog) (w := w) ho hx hy hi Try.underlying35 hs hz
  rw [this]
  unfold subA
  rw [if_neg (by omega)]
  simp [run.add_none]
end

theorem field_scr (x y z u v : Value) (a : Option Addr) (n c : Nat) (w : World) : (Instr.field 49 (.agg #[x, y, .slice a n c, z, u, v]) 2).run Try.prog w = .ok (.slice a n c) w := by kernel_rfl
theorem run_from12 {o : Oper} {ρ : Operand → Value} {w : World} {p q : Operand} {g len cap i l c o9 : Nat} {it : TypeInfo} (ho : o.op = .slice 35 p (some q) none none) (hx : ρ p = .slice (some ⟨g, 0, none⟩) len cap) (hy : ρ q = .int .i64 (i : Nat)) (hi : i ≤ len) (hc : i < cap) (hs : Try.prog.info? 44 = some it) (hz : it.size = 5) (el : l = len - i) (e : c = cap - i) (e9 : o9 = i * 5) :
    (execOp ρ o).run Try.prog w = .ok (.value (.slice (some ⟨g, o9, none⟩) l c)) w := by
  subst el e e9
  have := run_from (P := Try.prog) (w := w) ho hx hy hi Try.underlying35 hs hz
  rw [this]
  unfold subA
  rw [if_neg (by omega)]
  simp [run.add_none]
theorem run_atk {o : Oper} {ρ : Operand → Value} {w : World} {p q : Operand} {b off len cap i : Nat} {it : TypeInfo} (ho : o.op = .indexAddr 35 p q) (hx : ρ p = .slice (some ⟨b, off, none⟩) len cap) (hy : ρ q = .int .i64 (i : Nat)) (hi : i < len)
    (hs : Try.prog.info? 44 = some it) (hz : it.size = 5) : (execOp ρ o).run Try.prog w = .ok (.value (.pointer (some ⟨b, off + i * 5, none⟩))) w := lx.run_at ho hx hy hi Try.underlying35 hs hz

set_option maxRecDepth 100000 in
set_option maxHeartbeats 8000000 in
theorem shift_any (b g W H : Nat) (L : List CV) (r : RT) (by0 : Int) (s : SV) (X0 Y0 RW RH : Nat) (w : World) (h : Buf w b g W H L) (hG : Good W H L) (hr : r.wf) (hlet : letIn r W H = ⟨X0, Y0, RW, RH⟩) (hx : X0 + RW ≤ W) (hy : Y0 + RH ≤ H) (hp : 0 < RH → 0 < RW) :
    Calls Try.prog 35 #[.pointer (some ⟨b, 0, none⟩), r.val, .int .i64 by0, s.val] w fun e w' => e = .returned (.tuple #[]) ∧ Buf w' b g W H (shiftT W X0 Y0 RW RH (min (max by0 (-(H : Int))) H) (blankT s) (partT W X0 Y0 RW RH L) RH (partT W X0 Y0 RW RH L)) ∧ w.grownBy w' (some g) := by
  obtain ⟨it, hinf, -, hsz, -⟩ := info_parts info_cell
  obtain ⟨hblt, hglt⟩ := h.lt
  have hWb := h.wide
  have hHb := h.high
  have HWIN := run.hid (fun w (h : Buf w b g W H L) => window_any b g W H L r w h hr)
  change Hid (∀ w, _ → Calls _ _ _ _ fun e w' => e = .returned (letIn r W H).val ∧ _) at HWIN
  rw [hlet] at HWIN
  have HPART := run.hid (fun w h => part_any b g W H L X0 Y0 RW RH w h hG hx hy)
  have HBL := run.hid (fun w => blank_any s w)
  have HGM := run.hid (partT_good (X := X0) (Y := Y0) (RW := RW) hG RH hy)
  generalize partT W X0 Y0 RW RH L = PT at *
  obtain ⟨DD, hDD⟩ : ∃ d, min (max by0 (-(H : Int))) H = d := ⟨_, rfl⟩
  rw [hDD]
  have hDb : -(H : Int) ≤ DD ∧ DD ≤ (H : Int) := by omega
  have HDD := run.hid hDD
  clear hDD
  obtain ⟨bx, hbx⟩ : ∃ bx, bx = blankT s := ⟨_, rfl⟩
  rw [← hbx] at HBL ⊢
  clear hbx hlet hG
  obtain ⟨sf, sb, sa⟩ := s
  obtain ⟨r1, r2, r3, r4⟩ := r
  change Hid (∀ w, _ → Calls _ _ #[_, .agg #[.int .i64 r1, .int .i64 r2, .int .i64 r3, .int .i64 r4]] _ fun e w' => e = .returned (.agg #[.int .i64 (X0 : Nat), .int .i64 (Y0 : Nat), .int .i64 (RW : Nat), .int .i64 (RH : Nat)]) ∧ _) at HWIN
  change Hid (∀ w, Calls _ _ #[.agg #[.int .i32 sf, .int .i32 sb, .int .u8 sa]] _ _) at HBL
  show Calls _ _ #[_, .agg #[.int .i64 r1, .int .i64 r2, .int .i64 r3, .int .i64 r4], _, .agg #[.int .i32 sf, .int .i32 sb, .int .u8 sa]] _ _
  have HB0 : Hid (Bf w b g W H w.heap.size #[.int .i64 r1, .int .i64 r2, .int .i64 r3, .int .i64 r4] #[.int .i32 sf, .int .i32 sb, .int .u8 sa] L ((w.alloc (.cells #[.int .i64 r1, .int .i64 r2, .int .i64 r3, .int .i64 r4] 58)).alloc (.cells #[.int .i32 sf, .int .i32 sb, .int .u8 sa] 24))) :=
    ⟨(h.alloc _).alloc _, heap_alloc2_old w _ _, heap_alloc2_new w _ _, run.grown_trans (World.grownBy_alloc w _ (some g)) (World.grownBy_alloc _ _ (some g)) (.inl rfl), by omega, by omega, Nat.le_refl _, hblt⟩
  have hne : w.heap.size ≠ g := by omega
  have hne2 : w.heap.size + 1 ≠ g := by omega
  clear h hr
  obtain ⟨⟨q0, q1, q2, q3⟩, -⟩ := blk4 HB0.out.kr
  have HC := run.hid (HWIN.out _ HB0.out.buf)
  go_enter Try.func35, Try.ntmps35
  go_wp2_with fail
  refine HC.out.mono ?_
  rintro e w3 ⟨rfl, hb⟩
  clear q0 q1 q2 q3
  have HB3 := run.hid (HB0.out.below hb)
  obtain ⟨⟨q0, q1, q2, q3⟩, f0, f1, f2, f3⟩ := blk4 HB3.out.kr
  have HB4 := run.hid (HB3.out.rect (a2 := .int .i64 (X0 : Nat)) (b2 := .int .i64 (Y0 : Nat)) (c2 := .int .i64 (RW : Nat)) (d2 := .int .i64 (RH : Nat)))
  clear hb HB0 HC HWIN HB3
  go_upto_region 3 with fail
  clear q0 q1 q2 q3 f0 f1 f2 f3
  generalize ((((w3.setCell ⟨w.heap.size, 0, none⟩ (.int .i64 (X0 : Nat))).setCell ⟨w.heap.size, 1, none⟩ (.int .i64 (Y0 : Nat))).setCell ⟨w.heap.size, 2, none⟩ (.int .i64 (RW : Nat))).setCell ⟨w.heap.size, 3, none⟩ (.int .i64 (RH : Nat))) = w4 at *
  obtain ⟨⟨q0, q1, q2, q3⟩, -⟩ := blk4 HB4.out.kr
  have HP := run.hid (HPART.out w4 HB4.out.buf)
  clear HPART
  go_wp2_with fail
  refine HP.out.mono ?_
  rintro e w5 ⟨rfl, hb5, hg5⟩
  clear q0 q1 q2 q3
  have HB5 := run.hid (HB4.out.step hb5 hg5)
  clear hb5 hg5 HB4 HP
  obtain ⟨⟨q0, q1, q2, q3⟩, -⟩ := blk4 HB5.out.kr
  have hs5 : g < w5.heap.size := HB5.out.buf.lt.2
  have HSC := run.hid (screen_any b g W H PT w5 HB5.out.buf)
  go_wp2_with fail
  refine HSC.out.mono ?_
  rintro e w6 ⟨v, he, ho6, hb6⟩
  change e = .returned (.agg #[.int .i64 W, .int .i64 H, v, .int .i64 0, .int .i64 0, .bool false]) at he
  subst he
  clear q0 q1 q2 q3 HSC
  obtain ⟨ga, gc, rfl⟩ := run.own_value ho6
  have HS6 := run.hid (show Sh w b g W H w.heap.size #[.int .i64 (X0 : Nat), .int .i64 (Y0 : Nat), .int .i64 (RW : Nat), .int .i64 (RH : Nat)] #[.int .i32 sf, .int .i32 sb, .int .u8 sa] w5.heap.size (.slice ga (W * H) gc) PT PT w6 from ⟨HB5.out.below hb6, ho6, hs5⟩)
  have HPL := run.hid HGM.out.1
  have hfld := field_scr (.int .i64 W) (.int .i64 H) (.int .i64 0) (.int .i64 0) (.bool false) ga (W * H) gc w6
  clear ho6 hb6 HB5
  obtain ⟨⟨q0, q1, q2, q3⟩, -⟩ := blk4 HS6.out.bf.kr
  go_upto_region 5 with fail
  clear q0 q1 q2 q3 hfld
  refine lx.region (fun D X => Sh w b g W H w.heap.size #[.int .i64 (X0 : Nat), .int .i64 (Y0 : Nat), .int .i64 (RW : Nat), .int .i64 (RH : Nat)] #[.int .i32 sf, .int .i32 sb, .int .u8 sa] w5.heap.size (.slice ga (W * H) gc) PT PT X) (by kernel_rfl) (by kernel_rfl) (by kernel_rfl) HS6.out.drew ?_
  refine lx.begin 107 rfl ?_
  refine lx.o_pure (.int .i64 by0) (fun _ _ h => by first | rfl | kernel_rfl) ?_
  refine lx.o_pure (.pointer (some ⟨b, 0, none⟩)) (fun _ _ h => by first | rfl | kernel_rfl) ?_
  refine lx.o_pure (.pointer (some ⟨b, 0, none⟩)) (fun _ _ h => by first | rfl | kernel_rfl) ?_
  refine lx.o_pure (.pointer (some ⟨b, 1, none⟩)) (fun _ _ h => by first | rfl | kernel_rfl) ?_
  refine lx.o_pure (.int .i64 (H : Nat)) (fun D X hC => lx.run_load rfl rfl Try.underlying3 rfl hC.bf.buf.h1) ?_
  refine lx.o_pure (.int .i64 (-(H : Int))) (fun D X hC => run_neg rfl rfl rfl (by omega)) ?_
  refine lx.o_pure (.int .i64 (max by0 (-(H : Int)))) (fun D X hC => run_max rfl rfl rfl rfl) ?_
  refine lx.o_pure (.pointer (some ⟨b, 0, none⟩)) (fun _ _ h => by first | rfl | kernel_rfl) ?_
  refine lx.o_pure (.pointer (some ⟨b, 0, none⟩)) (fun _ _ h => by first | rfl | kernel_rfl) ?_
  refine lx.o_pure (.pointer (some ⟨b, 1, none⟩)) (fun _ _ h => by first | rfl | kernel_rfl) ?_
  refine lx.o_pure (.int .i64 (H : Nat)) (fun D X hC => lx.run_load rfl rfl Try.underlying3 rfl hC.bf.buf.h1) ?_
  refine lx.o_pure (.int .i64 DD) (fun D X hC => run_min rfl rfl rfl HDD.out) ?_
  refine lx.o_pure (.int .i64 DD) (fun _ _ h => by first | rfl | kernel_rfl) ?_
  refine lx.o_end ?_
  simp only [lx.ov]
  rintro X d hd hC
  have HS7 := run.hid hC
  clear hC hd HS6 HDD
  go_simp
  obtain ⟨⟨q0, q1, q2, q3⟩, -⟩ := blk4 HS7.out.bf.kr
  go_wp2
  generalize X = w7 at *
  go_loopw [9] (fun vy wr => ∃ k, k ≤ RH ∧ vy = .int .i64 ((Y0 + k : Nat) : Int) ∧ Hid (Sh w b g W H w.heap.size #[.int .i64 (X0 : Nat), .int .i64 (Y0 : Nat), .int .i64 (RW : Nat), .int .i64 (RH : Nat)] #[.int .i32 sf, .int .i32 sb, .int .u8 sa] w5.heap.size (.slice ga (W * H) gc) PT (shiftT W X0 Y0 RW RH DD bx PT k PT) wr)) (fun vy _ => ((Y0 : Int) + RH - intOf vy).toNat)
  case atStart => exact ⟨0, Nat.zero_le _, rfl, HS7⟩
  case round =>
    obtain ⟨k, hk, rfl, HB⟩ := hrel
    clear q0 q1 q2 q3 HS7
    obtain ⟨⟨q0, q1, q2, q3⟩, -⟩ := blk4 HB.out.bf.kr
    by_cases hkl : k < RH
    · have HNEXT := run.hid (show shiftT W X0 Y0 RW RH DD bx PT (k + 1) PT = shiftRow W X0 Y0 RW RH DD bx PT (Y0 + k) (shiftT W X0 Y0 RW RH DD bx PT k PT) from rfl)
      have hy2 : Y0 + k < H := by omega
      have hRW := hp (by omega)
      obtain ⟨y, hyy⟩ : ∃ y, y = Y0 + k := ⟨_, rfl⟩
      rw [← hyy] at hy2 HNEXT ⊢
      generalize shiftT W X0 Y0 RW RH DD bx PT k PT = M0 at *
      have HYY := run.hid hyy
      have hyl : (y : Int) < (Y0 : Int) + (RH : Int) := by omega
      clear hyy
      have hqc := Int.natCast_mul y W
      have hq0 : y * W ≤ 4096 * 4096 := Nat.mul_le_mul (by omega) hWb
      have hrow := Nat.mul_le_mul_right W (show y + 1 ≤ H from hy2)
      rw [Nat.add_mul, Nat.one_mul, Nat.mul_comm H W] at hrow
      obtain ⟨q, hqq⟩ : ∃ q, y * W = q := ⟨_, rfl⟩
      have HQ := run.hid (show ((y : Nat) : Int) * ((W : Nat) : Int) = ((q : Nat) : Int) from by rw [← hqq]; exact hqc.symm)
      rw [hqq] at hq0 hrow
      have HQY := run.hid hqq
      clear hqq hqc
      obtain ⟨gg, hga, hgc⟩ : ∃ gg, ga = some ⟨gg, 0, none⟩ ∧ W * H ≤ gc := by
        rcases HB.out.old.2 with ⟨-, h0⟩ | ⟨gg, cap, cur, h1, -, -, h4, -⟩
        · omega
        · simp only [Value.slice.injEq] at h1
          obtain ⟨h1, -, rfl⟩ := h1
          exact ⟨gg, h1, h4⟩
      subst hga
      obtain ⟨o9, ho9⟩ : ∃ o, o = (q + X0) * 5 := ⟨_, rfl⟩
      obtain ⟨c9, hc9⟩ : ∃ o, o = W * H - (q + X0) := ⟨_, rfl⟩
      have HO9 := run.hid ho9
      have HC9 := run.hid hc9
      clear ho9 hc9
      go_upto_region 9 with fail
      clear q0 q1 q2 q3
      refine lx.region (fun D X => Sh w b g W H w.heap.size #[.int .i64 (X0 : Nat), .int .i64 (Y0 : Nat), .int .i64 (RW : Nat), .int .i64 (RH : Nat)] #[.int .i32 sf, .int .i32 sb, .int .u8 sa] w5.heap.size (.slice (some ⟨gg, 0, none⟩) (W * H) gc) PT M0 X) (by kernel_rfl) (by kernel_rfl) (by kernel_rfl) HB.out.drew ?_
      refine lx.begin 107 rfl ?_
      refine lx.o_pure (.pointer (some ⟨b, 0, none⟩)) (fun _ _ h => by first | rfl | kernel_rfl) ?_
      refine lx.o_pure (.pointer (some ⟨b, 0, none⟩)) (fun _ _ h => by first | rfl | kernel_rfl) ?_
      refine lx.o_pure (.pointer (some ⟨b, 2, none⟩)) (fun _ _ h => by first | rfl | kernel_rfl) ?_
      refine lx.o_pure (.slice (some ⟨g, 0, none⟩) (W * H : Nat) (W * H : Nat)) (fun D X hC => lx.run_load rfl rfl Try.underlying35 rfl hC.bf.buf.h2) ?_
      refine lx.o_pure (.int .i64 (y : Nat)) (fun _ _ h => by first | rfl | kernel_rfl) ?_
      refine lx.o_pure (.pointer (some ⟨b, 0, none⟩)) (fun _ _ h => by first | rfl | kernel_rfl) ?_
      refine lx.o_pure (.pointer (some ⟨b, 0, none⟩)) (fun _ _ h => by first | rfl | kernel_rfl) ?_
      refine lx.o_pure (.pointer (some ⟨b, 0, none⟩)) (fun _ _ h => by first | rfl | kernel_rfl) ?_
      refine lx.o_pure (.int .i64 (W : Nat)) (fun D X hC => lx.run_load rfl rfl Try.underlying3 rfl hC.bf.buf.h0) ?_
      refine lx.o_pure (.int .i64 (q : Nat)) (fun _ _ _ => lx.run_mul rfl rfl rfl HQ.out (by omega)) ?_
      refine lx.o_pure (.pointer (some ⟨w.heap.size, 0, none⟩)) (fun _ _ h => by first | rfl | kernel_rfl) ?_
      refine lx.o_pure (.int .i64 (X0 : Nat)) (fun D X hC => lx.run_load rfl rfl Try.underlying3 rfl (blk_cell hC.bf.kr 0)) ?_
      refine lx.o_pure (.int .i64 ((q + X0 : Nat) : Int)) (fun _ _ _ => lx.run_add rfl rfl rfl (by omega) (by push_cast; rfl)) ?_
      refine lx.o_pure (.slice (some ⟨g, o9, none⟩) c9 c9) (fun D X hC => run_from5 rfl rfl rfl (by omega) (by omega) rfl hinf hsz HC9.out HO9.out) ?_
      refine lx.o_pure (.pointer (some ⟨w.heap.size, 2, none⟩)) (fun _ _ h => by first | rfl | kernel_rfl) ?_
      refine lx.o_pure (.int .i64 (RW : Nat)) (fun D X hC => lx.run_load rfl rfl Try.underlying3 rfl (blk_cell hC.bf.kr 2)) ?_
      refine lx.o_pure (.slice (some ⟨g, o9, none⟩) RW c9) (fun D X hC => run_upto rfl rfl rfl (by have := HC9.out; omega) Try.underlying35 hinf hsz) ?_
      refine lx.o_pure (.slice (some ⟨g, o9, none⟩) RW c9) (fun _ _ h => by first | rfl | kernel_rfl) ?_
      refine lx.o_end ?_
      simp only [lx.ov]
      rintro X9 d hd hC
      have HB9 := run.hid hC
      clear hC hd HB
      go_simp
      obtain ⟨⟨q0, q1, q2, q3⟩, -⟩ := blk4 HB9.out.bf.kr
      by_cases h1 : (Y0 : Int) ≤ (y : Int) + DD
      · by_cases h2 : (y : Int) + DD < (Y0 : Int) + (RH : Int)
        · skip
          have HR := run.hid (show shiftRow W X0 Y0 RW RH DD bx PT y M0 = copyRow W y ((y : Int) + DD).toNat X0 PT RW M0 from if_pos ⟨h1, h2⟩)
          obtain ⟨f, hf⟩ : ∃ f, f = ((y : Int) + DD).toNat := ⟨_, rfl⟩
          have hfi : (f : Int) = (y : Int) + DD := by omega
          rw [← hf] at HR
          have hfH : f < H := by omega
          have hqfc := Int.natCast_mul f W
          have hqf0 : f * W ≤ 4096 * 4096 := Nat.mul_le_mul (by omega) hWb
          have hrowf := Nat.mul_le_mul_right W (show f + 1 ≤ H from hfH)
          rw [Nat.add_mul, Nat.one_mul, Nat.mul_comm H W] at hrowf
          obtain ⟨qf, hqqf⟩ : ∃ q, f * W = q := ⟨_, rfl⟩
          have HQF := run.hid (show ((y : Int) + DD) * ((W : Nat) : Int) = ((qf : Nat) : Int) from by rw [← hfi, ← hqqf]; exact hqfc.symm)
          rw [hqqf] at hqf0 hrowf
          have HQQF := run.hid hqqf
          obtain ⟨o12, ho12⟩ : ∃ o, o = (qf + X0) * 5 := ⟨_, rfl⟩
          obtain ⟨l12, hl12⟩ : ∃ o, o = W * H - (qf + X0) := ⟨_, rfl⟩
          obtain ⟨c12, hc12⟩ : ∃ o, o = gc - (qf + X0) := ⟨_, rfl⟩
          have HO12 := run.hid ho12
          have HL12 := run.hid hl12
          have HC12 := run.hid hc12
          clear hqfc hqqf hf hfi ho12 hl12 hc12
          go_upto_region 12 with fail
          clear q0 q1 q2 q3
          refine lx.region (fun D X => ∃ L2, Sh w b g W H w.heap.size #[.int .i64 (X0 : Nat), .int .i64 (Y0 : Nat), .int .i64 (RW : Nat), .int .i64 (RH : Nat)] #[.int .i32 sf, .int .i32 sb, .int .u8 sa] w5.heap.size (.slice (some ⟨gg, 0, none⟩) (W * H) gc) PT L2 X ∧ (D 15 = false → L2 = M0) ∧ (D 15 = true → L2 = copyRow W y f X0 PT RW M0)) (by kernel_rfl) (by kernel_rfl) (by kernel_rfl) ⟨M0, HB9.out.drew, fun _ => rfl, fun h => (by cases h)⟩ ?_
          refine lx.begin 107 rfl ?_
          refine lx.o_pure (.slice (some ⟨g, o9, none⟩) RW c9) (fun _ _ h => by first | rfl | kernel_rfl) ?_
          refine lx.o_pure (.slice (some ⟨gg, 0, none⟩) (W * H) gc) (fun _ _ h => by first | rfl | kernel_rfl) ?_
          refine lx.o_pure (.int .i64 ((y : Int) + DD)) (fun _ _ h => by first | rfl | kernel_rfl) ?_
          refine lx.o_pure (.pointer (some ⟨b, 0, none⟩)) (fun _ _ h => by first | rfl | kernel_rfl) ?_
          refine lx.o_pure (.pointer (some ⟨b, 0, none⟩)) (fun _ _ h => by first | rfl | kernel_rfl) ?_
          refine lx.o_pure (.pointer (some ⟨b, 0, none⟩)) (fun _ _ h => by first | rfl | kernel_rfl) ?_
          refine lx.o_pure (.int .i64 (W : Nat)) (fun D X hC => lx.run_load rfl rfl Try.underlying3 rfl hC.choose_spec.1.bf.buf.h0) ?_
          refine lx.o_pure (.int .i64 (qf : Nat)) (fun _ _ _ => lx.run_mul rfl rfl rfl HQF.out (by omega)) ?_
          refine lx.o_pure (.pointer (some ⟨w.heap.size, 0, none⟩)) (fun _ _ h => by first | rfl | kernel_rfl) ?_
          refine lx.o_pure (.int .i64 (X0 : Nat)) (fun D X hC => lx.run_load rfl rfl Try.underlying3 rfl (blk_cell hC.choose_spec.1.bf.kr 0)) ?_
          refine lx.o_pure (.int .i64 ((qf + X0 : Nat) : Int)) (fun _ _ _ => lx.run_add rfl rfl rfl (by omega) (by push_cast; rfl)) ?_
          refine lx.o_pure (.slice (some ⟨gg, o12, none⟩) l12 c12) (fun D X hC => run_from12 rfl rfl rfl (by omega) (by omega) hinf hsz HL12.out HC12.out HO12.out) ?_
          refine lx.o_pure (.pointer (some ⟨w.heap.size, 2, none⟩)) (fun _ _ h => by first | rfl | kernel_rfl) ?_
          refine lx.o_pure (.int .i64 (RW : Nat)) (fun D X hC => lx.run_load rfl rfl Try.underlying3 rfl (blk_cell hC.choose_spec.1.bf.kr 2)) ?_
          refine lx.o_pure (.slice (some ⟨gg, o12, none⟩) RW c12) (fun D X hC => run_upto rfl rfl rfl (by have := HC12.out; omega) Try.underlying35 hinf hsz) ?_
          refine lx.o_eff (.int .i64 (RW : Nat)) (fun D X h0 hdep hC => ?_) ?_
          · obtain ⟨L2, hS, h1, h2⟩ := hC
            obtain rfl := h1 h0
            obtain ⟨w', hr, hS2⟩ := hS.copy (y := y) (f := f) (X := X0) (RW := RW) (by rw [HQY.out]; omega) (by rw [HQQF.out, HPL.out]; omega) HPL.out c9 c12 3
            rw [HQY.out, HQQF.out, ← HO9.out, ← HO12.out] at hr
            refine ⟨w', ?_, _, hS2, (fun h => by cases h), fun _ => rfl⟩
            unfold execOp
            simp only [resolve, invoke, builtin, Sem.run_bind, Sem.run_pure, Result.andThen_ok, List.map_toArray, List.map_cons, List.map_nil]
            rw [show lx.look _ _ (Operand.tmp 80) = Value.slice (some ⟨g, o9, none⟩) RW c9 from rfl, show lx.look _ _ (Operand.tmp 94) = Value.slice (some ⟨gg, o12, none⟩) RW c12 from rfl, hr]
            rfl
          refine lx.o_end ?_
          simp only [lx.ov]
          rintro X d hd ⟨L2, hS, -, h2⟩
          obtain rfl := h2 (hd 15 (by decide))
          have HF := run.hid hS
          clear hS h2 hd HB9
          go_simp
          go_wp2
          go_roundw
          case rel => exact ⟨k + 1, by omega, by have := HYY.out; simp only [Value.int.injEq, true_and]; push_cast; omega, by show Sh _ _ _ _ _ _ _ _ _ _ _ _ _; rw [HNEXT.out, HR.out]; exact HF.out⟩
          case measure => have := HYY.out; simp [intOf]; omega
        · skip
          have HR := run.hid (show shiftRow W X0 Y0 RW RH DD bx PT y M0 = fillRow W y X0 bx RW M0 from if_neg (fun h => h2 h.2))
          go_wp2
          generalize X9 = wy at *
          go_loopw [98] (fun vx wr => ∃ j : Nat, j ≤ RW ∧ vx = .int .i64 (j : Nat) ∧ Hid (Sh w b g W H w.heap.size #[.int .i64 (X0 : Nat), .int .i64 (Y0 : Nat), .int .i64 (RW : Nat), .int .i64 (RH : Nat)] #[.int .i32 sf, .int .i32 sb, .int .u8 sa] w5.heap.size (.slice (some ⟨gg, 0, none⟩) (W * H) gc) PT (fillRow W y X0 bx j M0) wr)) (fun vx _ => ((RW : Int) - intOf vx).toNat)
          case atStart => exact ⟨0, Nat.zero_le _, rfl, HB9⟩
          case round =>
            obtain ⟨j, hj, rfl, HB⟩ := hrel
            clear q0 q1 q2 q3 HB9
            obtain ⟨⟨q0, q1, q2, q3⟩, -⟩ := blk4 HB.out.bf.kr
            by_cases hjl : j < RW
            · have HNX := run.hid (show fillRow W y X0 bx (j + 1) M0 = (fillRow W y X0 bx j M0).set (q + (X0 + j)) bx from by rw [← HQY.out]; rfl)
              have HI := run.hid (show q + (X0 + j) < W * H by omega)
              generalize fillRow W y X0 bx j M0 = M at *
              go_upto_region 16 with fail
              clear q0 q1 q2 q3
              refine lx.straight (fun D X => ∃ L2, Sh w b g W H w.heap.size #[.int .i64 (X0 : Nat), .int .i64 (Y0 : Nat), .int .i64 (RW : Nat), .int .i64 (RH : Nat)] #[.int .i32 sf, .int .i32 sb, .int .u8 sa] w5.heap.size (.slice (some ⟨gg, 0, none⟩) (W * H) gc) PT L2 X ∧ (D 5 = false → L2 = M) ∧ (D 5 = true → L2 = M.set (q + (X0 + j)) bx)) (by kernel_rfl) ⟨M, HB.out, fun _ => rfl, fun h => (by cases h)⟩ ?_
              refine lx.begin 107 rfl ?_
              refine lx.o_pure (.slice (some ⟨g, o9, none⟩) RW c9) (fun _ _ h => by first | rfl | kernel_rfl) ?_
              refine lx.o_pure (.int .i64 (j : Nat)) (fun _ _ h => by first | rfl | kernel_rfl) ?_
              refine lx.o_pure (.agg #[.int .i32 sf, .int .i32 sb, .int .u8 sa]) (fun D X hC => run_loadrow rfl rfl hC.choose_spec.1.bf.ks Try.underlying24 rfl (by kernel_rfl)) ?_
              refine lx.o_call bx.val 24 #[.agg #[.int .i32 sf, .int .i32 sb, .int .u8 sa]] (fun _ _ _ => lx.run_fn rfl rfl rfl (enters_of Try.func24 (by kernel_rfl) rfl)) (fun D X hC => (HBL.out X).mono fun e w2 ⟨he, hw⟩ => ⟨he, by obtain ⟨L2, h1, h2⟩ := hC; exact ⟨L2, h1.below hw, h2⟩⟩) ?_
              refine lx.o_pure (.pointer (some ⟨g, (q + (X0 + j)) * 5, none⟩)) (fun D X hC => by rw [show (q + (X0 + j)) * 5 = o9 + j * 5 by have := HO9.out; omega]; exact run_atk rfl rfl rfl hjl hinf hsz) ?_
              refine lx.o_put (fun D X h0 hdep hC => ?_) ?_
              · obtain ⟨L2, hS, h1, h2⟩ := hC
                obtain rfl := h1 h0
                exact ⟨_, run_store5 hS.bf.buf HI.out rfl rfl rfl, _, hS.store HI.out bx, (fun h => by cases h), fun _ => rfl⟩
              refine lx.o_end ?_
              simp only [lx.ov]
              rintro X d hd ⟨L2, hS, -, h2⟩
              obtain rfl := h2 (hd 5 (by decide))
              have HF := run.hid hS
              clear hS h2 hd HB HI
              go_simp
              go_wp2
              go_roundw
              case rel => exact ⟨j + 1, by omega, by go_num, by show Sh _ _ _ _ _ _ _ _ _ _ _ _ _; rw [HNX.out]; exact HF.out⟩
              case measure => simp [intOf]; omega
            · obtain rfl : j = RW := by omega
              go_wp2
              go_roundw
              case rel => exact ⟨k + 1, by omega, by have := HYY.out; simp only [Value.int.injEq, true_and]; push_cast; omega, by show Sh _ _ _ _ _ _ _ _ _ _ _ _ _; rw [HNEXT.out, HR.out]; exact HB.out⟩
              case measure => have := HYY.out; simp [intOf]; omega
      · skip
        have HR := run.hid (show shiftRow W X0 Y0 RW RH DD bx PT y M0 = fillRow W y X0 bx RW M0 from if_neg (fun h => h1 h.1))
        go_wp2
        generalize X9 = wy at *
        go_loopw [98] (fun vx wr => ∃ j : Nat, j ≤ RW ∧ vx = .int .i64 (j : Nat) ∧ Hid (Sh w b g W H w.heap.size #[.int .i64 (X0 : Nat), .int .i64 (Y0 : Nat), .int .i64 (RW : Nat), .int .i64 (RH : Nat)] #[.int .i32 sf, .int .i32 sb, .int .u8 sa] w5.heap.size (.slice (some ⟨gg, 0, none⟩) (W * H) gc) PT (fillRow W y X0 bx j M0) wr)) (fun vx _ => ((RW : Int) - intOf vx).toNat)
        case atStart => exact ⟨0, Nat.zero_le _, rfl, HB9⟩
        case round =>
          obtain ⟨j, hj, rfl, HB⟩ := hrel
          clear q0 q1 q2 q3 HB9
          obtain ⟨⟨q0, q1, q2, q3⟩, -⟩ := blk4 HB.out.bf.kr
          by_cases hjl : j < RW
          · have HNX := run.hid (show fillRow W y X0 bx (j + 1) M0 = (fillRow W y X0 bx j M0).set (q + (X0 + j)) bx from by rw [← HQY.out]; rfl)
            have HI := run.hid (show q + (X0 + j) < W * H by omega)
            generalize fillRow W y X0 bx j M0 = M at *
            go_upto_region 16 with fail
            clear q0 q1 q2 q3
            refine lx.straight (fun D X => ∃ L2, Sh w b g W H w.heap.size #[.int .i64 (X0 : Nat), .int .i64 (Y0 : Nat), .int .i64 (RW : Nat), .int .i64 (RH : Nat)] #[.int .i32 sf, .int .i32 sb, .int .u8 sa] w5.heap.size (.slice (some ⟨gg, 0, none⟩) (W * H) gc) PT L2 X ∧ (D 5 = false → L2 = M) ∧ (D 5 = true → L2 = M.set (q + (X0 + j)) bx)) (by kernel_rfl) ⟨M, HB.out, fun _ => rfl, fun h => (by cases h)⟩ ?_
            refine lx.begin 107 rfl ?_
            refine lx.o_pure (.slice (some ⟨g, o9, none⟩) RW c9) (fun _ _ h => by first | rfl | kernel_rfl) ?_
            refine lx.o_pure (.int .i64 (j : Nat)) (fun _ _ h => by first | rfl | kernel_rfl) ?_
            refine lx.o_pure (.agg #[.int .i32 sf, .int .i32 sb, .int .u8 sa]) (fun D X hC => run_loadrow rfl rfl hC.choose_spec.1.bf.ks Try.underlying24 rfl (by kernel_rfl)) ?_
            refine lx.o_call bx.val 24 #[.agg #[.int .i32 sf, .int .i32 sb, .int .u8 sa]] (fun _ _ _ => lx.run_fn rfl rfl rfl (enters_of Try.func24 (by kernel_rfl) rfl)) (fun D X hC => (HBL.out X).mono fun e w2 ⟨he, hw⟩ => ⟨he, by obtain ⟨L2, h1, h2⟩ := hC; exact ⟨L2, h1.below hw, h2⟩⟩) ?_
            refine lx.o_pure (.pointer (some ⟨g, (q + (X0 + j)) * 5, none⟩)) (fun D X hC => by rw [show (q + (X0 + j)) * 5 = o9 + j * 5 by have := HO9.out; omega]; exact run_atk rfl rfl rfl hjl hinf hsz) ?_
            refine lx.o_put (fun D X h0 hdep hC => ?_) ?_
            · obtain ⟨L2, hS, h1, h2⟩ := hC
              obtain rfl := h1 h0
              exact ⟨_, run_store5 hS.bf.buf HI.out rfl rfl rfl, _, hS.store HI.out bx, (fun h => by cases h), fun _ => rfl⟩
            refine lx.o_end ?_
            simp only [lx.ov]
            rintro X d hd ⟨L2, hS, -, h2⟩
            obtain rfl := h2 (hd 5 (by decide))
            have HF := run.hid hS
            clear hS h2 hd HB HI
            go_simp
            go_wp2
            go_roundw
            case rel => exact ⟨j + 1, by omega, by go_num, by show Sh _ _ _ _ _ _ _ _ _ _ _ _ _; rw [HNX.out]; exact HF.out⟩
            case measure => simp [intOf]; omega
          · obtain rfl : j = RW := by omega
            go_wp2
            go_roundw
            case rel => exact ⟨k + 1, by omega, by have := HYY.out; simp only [Value.int.injEq, true_and]; push_cast; omega, by show Sh _ _ _ _ _ _ _ _ _ _ _ _ _; rw [HNEXT.out, HR.out]; exact HB.out⟩
            case measure => have := HYY.out; simp [intOf]; omega
    · obtain rfl : k = RH := by omega
      have HF := HB
      clear HB
      go_wp2
      first | go_end0 | (refine bodyPost_ret (results_none rfl _ _ _) rfl ?_)
      exact ⟨rfl, HF.out.bf.buf, HF.out.bf.grown⟩
end Go.Proofs.Ytinnggiohalifaa.cel
