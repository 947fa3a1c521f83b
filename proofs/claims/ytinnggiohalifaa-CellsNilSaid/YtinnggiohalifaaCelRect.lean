/-
  The walks of the layer rect, as far as the layer cells asks it: Has, Meet.
-/
import Derived.Test.YtinnggiohalifaaCelStyle
import Derived.Test.YtinnggiohalifaaProg
import Derived.KernelRfl
import Derived.WalkSpells
import Derived.WalkLawsBesides
import Derived.BigQuiet
import Derived.Deep.QuietTactic
import Derived.IntWalk
import Derived.Deep.DeepCutAuto
import Derived.Test.YtinnggiohalifaaLx
import Derived.Shelf.Abstract
import Derived.Lib.MinMax
namespace Go.Proofs.Ytinnggiohalifaa.cel
open Go Go.RowKit Go.Proofs
set_option linter.unusedVariables false

structure RT where
  x : Int
  y : Int
  w : Int
  h : Int
deriving DecidableEq, Inhabited
/-- a box: x0, y0, x1, y1 -/
structure BT where
  x0 : Int
  y0 : Int
  x1 : Int
  y1 : Int
deriving DecidableEq, Inhabited
def RT.val (r : RT) : Value := .agg #[.int .i64 r.x, .int .i64 r.y, .int .i64 r.w, .int .i64 r.h]
def BT.val (b : BT) : Value := .agg #[.int .i64 b.x0, .int .i64 b.y0, .int .i64 b.x1, .int .i64 b.y1]
def w64 (n : Int) : Prop := -9223372036854775808 ≤ n ∧ n ≤ 9223372036854775807
def RT.wf (r : RT) : Prop := w64 r.x ∧ w64 r.y ∧ w64 r.w ∧ w64 r.h
def bringT (n a b : Int) : Int := min (max n a) b
def endT (x w : Int) : Int := if w ≤ 0 then -8388608 else if 0 < x ∧ 8388608 - bringT x 0 8388608 < w then 8388608 else x + w
def endsT (r : RT) : BT := ⟨max r.x (-1048576), max r.y (-1048576), min (endT r.x r.w) 1048576, min (endT r.y r.h) 1048576⟩
def okB (b : BT) : Bool := decide (b.x0 < b.x1) && decide (b.y0 < b.y1)
def hasT (r : RT) (x y : Int) : Bool := okB (endsT r) && (decide ((endsT r).x0 ≤ x) && (decide (x < (endsT r).x1) && (decide ((endsT r).y0 ≤ y) && decide (y < (endsT r).y1))))
def cutB (b : BT) : BT := ⟨max b.x0 (-1048576), max b.y0 (-1048576), min b.x1 1048576, min b.y1 1048576⟩
def rectB (b : BT) : RT := if (cutB b).x1 ≤ (cutB b).x0 ∨ (cutB b).y1 ≤ (cutB b).y0 then ⟨0, 0, 0, 0⟩ else ⟨(cutB b).x0, (cutB b).y0, (cutB b).x1 - (cutB b).x0, (cutB b).y1 - (cutB b).y0⟩
def meetB (p q : BT) : BT := ⟨max p.x0 q.x0, max p.y0 q.y0, min p.x1 q.x1, min p.y1 q.y1⟩
def meetT (a b : RT) : RT := if okB (endsT a) && okB (endsT b) then rectB (meetB (endsT a) (endsT b)) else ⟨0, 0, 0, 0⟩

theorem bring_any (n a b : Int) (w : World) : Calls Try.prog 93 #[.int .i64 n, .int .i64 a, .int .i64 b] w fun e w' => e = .returned (.int .i64 (bringT n a b)) ∧ w = w' := by
  unfold bringT
  go_enter Try.func93, Try.ntmps93
  go_wp2
  go_ret
  exact ⟨rfl, rfl⟩

theorem bring_in (x : Int) : 0 ≤ bringT x 0 8388608 ∧ bringT x 0 8388608 ≤ 8388608 ∧ (x ≤ 8388608 → 0 < x → bringT x 0 8388608 = x) ∧ (8388608 < x → bringT x 0 8388608 = 8388608) := by unfold bringT; omega
theorem end_in {x w : Int} (hx : w64 x) (hw : w64 w) : -9223372036854775808 ≤ endT x w ∧ endT x w ≤ 9223372036854775807 := by
  unfold w64 at *
  obtain ⟨h1, h2, h3, h4⟩ := bring_in x
  unfold endT
  split
  · omega
  · split
    · omega
    · rename_i h5 h6
      have h7 : x ≤ 0 ∨ w ≤ 8388608 - bringT x 0 8388608 := by omega
      omega
set_option maxHeartbeats 1000000 in
theorem end_any (x z : Int) (w : World) (hx : w64 x) (hz : w64 z) : Calls Try.prog 83 #[.int .i64 x, .int .i64 z] w fun e w' => e = .returned (.int .i64 (endT x z)) ∧ w = w' := by
  unfold w64 at hx hz
  by_cases h1 : z ≤ 0
  · have he : endT x z = -8388608 := by unfold endT; rw [if_pos h1]
    rw [he]
    clear he
    go_enter Try.func83, Try.ntmps83
    go_wp2
    go_ret
    exact ⟨rfl, rfl⟩
  · obtain ⟨k1, k2, k3, k4⟩ := bring_in x
    have HB := run.hid (fun w => bring_any x 0 8388608 w)
    by_cases h2 : 0 < x
    · by_cases h3 : 8388608 - bringT x 0 8388608 < z
      · have he : endT x z = 8388608 := by unfold endT; rw [if_neg h1, if_pos ⟨h2, h3⟩]
        rw [he]
        clear he
        generalize bringT x 0 8388608 = bx at *
        go_enter Try.func83, Try.ntmps83
        go_wp2_with fail
        refine (HB.out _).mono ?_
        rintro e w' ⟨rfl, rfl⟩
        go_wp2
        go_ret
        exact ⟨rfl, rfl⟩
      · have he : endT x z = x + z := by unfold endT; rw [if_neg h1, if_neg (by omega)]
        rw [he]
        clear he
        have h4 : x + z ≤ 8388608 := by omega
        generalize bringT x 0 8388608 = bx at *
        go_enter Try.func83, Try.ntmps83
        go_wp2_with fail
        refine (HB.out _).mono ?_
        rintro e w' ⟨rfl, rfl⟩
        go_wp2
        go_ret
        exact ⟨rfl, rfl⟩
    · have he : endT x z = x + z := by unfold endT; rw [if_neg h1, if_neg (by omega)]
      rw [he]
      clear he
      generalize bringT x 0 8388608 = bx at *
      go_enter Try.func83, Try.ntmps83
      go_wp2
      go_ret
      exact ⟨rfl, rfl⟩

theorem blk_old {w : World} (o : Obj) {k : Nat} (h : k < w.heap.size) : (w.alloc o).heap[k]? = w.heap[k]? := by
  show (w.heap.push o)[k]? = _
  rw [Array.getElem?_push, if_neg (by omega)]
/-- a block of cells, made and filled within one statement -/
def Mk (W1 : World) (Z V : Array Value) (t : TypeId) (ia is : Nat) (D : Nat → Bool) (W : World) : Prop :=
  (D ia = false ∧ D is = false ∧ W = W1) ∨ (D ia = true ∧ D is = false ∧ W = W1.alloc (.cells Z t)) ∨ (D ia = true ∧ D is = true ∧ W = W1.alloc (.cells V t))
theorem Mk.old {W1 W : World} {Z V : Array Value} {t : TypeId} {ia is : Nat} {D : Nat → Bool} (h : Mk W1 Z V t ia is D W) {b i : Nat} (hb : b < W1.heap.size) : W.cell? ⟨b, i, none⟩ = W1.cell? ⟨b, i, none⟩ := by
  rcases h with ⟨-, -, rfl⟩ | ⟨-, -, rfl⟩ | ⟨-, -, rfl⟩
  · rfl
  · exact World.cell?_alloc_past _ _ _ hb
  · exact World.cell?_alloc_past _ _ _ hb
theorem run_max {P : Program} {o : Oper} {ρ : Operand → Value} {w : World} {p q : Operand} {ts : Array TypeId} {x y z : Int} (ho : o.op = .call { callee := .builtin .max, args := #[p, q], argTypes := ts }) (hx : ρ p = .int .i64 x) (hy : ρ q = .int .i64 y) (hz : max x y = z) : (execOp ρ o).run P w = .ok (.value (.int .i64 z)) w := by
  subst hz
  unfold execOp
  simp only [ho]
  simp [hx, hy, go_sem]
theorem run_min {P : Program} {o : Oper} {ρ : Operand → Value} {w : World} {p q : Operand} {ts : Array TypeId} {x y z : Int} (ho : o.op = .call { callee := .builtin .min, args := #[p, q], argTypes := ts }) (hx : ρ p = .int .i64 x) (hy : ρ q = .int .i64 y) (hz : min x y = z) : (execOp ρ o).run P w = .ok (.value (.int .i64 z)) w := by
  subst hz
  unfold execOp
  simp only [ho]
  simp [hx, hy, go_sem]
theorem run_alloc {P : Program} {o : Oper} {ρ : Operand → Value} {w : World} {t : TypeId} {Z : Array Value} {z : Value} (ho : o.op = .alloc t) (hz : ∀ w, (zeroValue t).run P w = .ok z w) (hc : z.cells = Z) : (execOp ρ o).run P w = .ok (.value (.pointer (some ⟨w.heap.size, 0, none⟩))) (w.alloc (.cells Z t)) := by
  unfold execOp
  simp only [ho]
  subst hc
  simp [hz, go_sem]
  try rfl
theorem zero_box (w : World) : (zeroValue 105).run Try.prog w = .ok (.agg #[.int .i64 0, .int .i64 0, .int .i64 0, .int .i64 0]) w := by kernel_rfl
theorem run_lss {P : Program} {o : Oper} {ρ : Operand → Value} {w : World} {p q : Operand} {t t' : TypeId} {x y : Int} {b : Bool} (ho : o.op = .binOp .lss t p q t') (hx : ρ p = .int .i64 x) (hy : ρ q = .int .i64 y) (hb : decide (x < y) = b) : (execOp ρ o).run P w = .ok (.value (.bool b)) w := by
  subst hb
  unfold execOp
  simp only [ho, hx, hy]
  rfl
theorem run_loadrow {P : Program} {o : Oper} {ρ : Operand → Value} {w : World} {p : Operand} {ty t : TypeId} {g : Nat} {cs : Array Value} {fr : Nat × Nat} {d : TypeDesc} (ho : o.op = .load ty p) (hx : ρ p = .pointer (some ⟨g, 0, none⟩)) (hg : w.heap[g]? = some (.cells cs t fr))
    (hu : P.underlying ty = some d) (hd : (match d with | .struct _ | .array _ _ => true | _ => false) = true) (hi : (P.info? ty).map (·.size) = some cs.size) : (execOp ρ o).run P w = .ok (.value (.agg cs)) w := by
  unfold execOp
  simp only [ho, hx]
  have := run_loadVar_row w g t ty cs fr d hg hu hd hi
  simp [Instr.loadAt, Instr.sureAddr, this, Result.andThen]

set_option maxRecDepth 100000 in
set_option maxHeartbeats 4000000 in
theorem ends_any (r : RT) (w : World) (hr : r.wf) : Calls Try.prog 66 #[r.val] w fun e w' => e = .returned (.tuple #[(endsT r).val, .bool (okB (endsT r))]) ∧ Below w.heap.size w w' := by
  obtain ⟨x, y, z, u⟩ := r
  obtain ⟨hx, hy, hz, hh⟩ := hr
  have H1 := run.hid (fun w => end_any x z w hx hz)
  have H2 := run.hid (fun w => end_any y u w hy hh)
  show Calls _ _ #[.agg #[.int .i64 x, .int .i64 y, .int .i64 z, .int .i64 u]] _ fun e w' => e = .returned (.tuple #[.agg #[.int .i64 (max x (-1048576)), .int .i64 (max y (-1048576)), .int .i64 (min (endT x z) 1048576), .int .i64 (min (endT y u) 1048576)], .bool (decide (max x (-1048576) < min (endT x z) 1048576) && decide (max y (-1048576) < min (endT y u) 1048576))]) ∧ _
  change Hid (∀ w, Calls _ _ _ _ fun e w' => e = .returned (.int .i64 (endT x z)) ∧ _) at H1
  change Hid (∀ w, Calls _ _ _ _ fun e w' => e = .returned (.int .i64 (endT y u)) ∧ _) at H2
  generalize endT x z = ex at *
  generalize endT y u = ey at *
  obtain ⟨a0, ha0⟩ : ∃ e, max x (-1048576) = e := ⟨_, rfl⟩
  obtain ⟨b0, hb0⟩ : ∃ e, max y (-1048576) = e := ⟨_, rfl⟩
  obtain ⟨a1, ha1⟩ : ∃ e, min ex 1048576 = e := ⟨_, rfl⟩
  obtain ⟨b1, hb1⟩ : ∃ e, min ey 1048576 = e := ⟨_, rfl⟩
  rw [ha0, hb0, ha1, hb1]
  obtain ⟨A, hA⟩ : ∃ A : Obj, A = .cells #[.int .i64 x, .int .i64 y, .int .i64 z, .int .i64 u] 58 := ⟨_, rfl⟩
  obtain ⟨Z, hZ⟩ : ∃ Z : Array Value, Z = #[.int .i64 0, .int .i64 0, .int .i64 0, .int .i64 0] := ⟨_, rfl⟩
  obtain ⟨V, hV⟩ : ∃ V : Array Value, V = #[.int .i64 a0, .int .i64 b0, .int .i64 a1, .int .i64 b1] := ⟨_, rfl⟩
  have F : ∀ D W, Mk (((w.alloc A).alloc (.cells Z 105)).drew) Z V 105 19 20 D W → ∀ i, W.cell? ⟨w.heap.size, i, none⟩ = #[Value.int .i64 x, .int .i64 y, .int .i64 z, .int .i64 u][i]? := by
    intro D W hC i
    rw [hC.old (by simp; omega), hA]
    simp [go_sem]
  subst hA
  go_enter Try.func66, Try.ntmps66
  go_upto_region 1 with fail
  go_cut [4] (fun c wx => c = .pointer (some ⟨w.heap.size + 2, 0, none⟩) ∧ wx = (((w.alloc (.cells #[.int .i64 x, .int .i64 y, .int .i64 z, .int .i64 u] 58)).alloc (.cells #[.int .i64 0, .int .i64 0, .int .i64 0, .int .i64 0] 105)).drew).alloc (.cells #[.int .i64 a0, .int .i64 b0, .int .i64 a1, .int .i64 b1] 105))
  case first =>
    rw [← hZ]
    refine lx.region (Mk (((w.alloc _).alloc (.cells Z 105)).drew) Z V 105 19 20) (by kernel_rfl) (by kernel_rfl) (by kernel_rfl) (.inl ⟨rfl, rfl, rfl⟩) ?_
    refine lx.begin 37 rfl ?_
    refine lx.o_pure (.pointer (some ⟨w.heap.size, 0, none⟩)) (fun _ _ h => by first | rfl | kernel_rfl) ?_
    refine lx.o_pure (.int .i64 x) (fun D W h => lx.run_load rfl rfl Try.underlying3 rfl ((fun D W hC => (F D W hC 0)) D W h)) ?_
    refine lx.o_pure (.int .i64 a0) (fun D W h => run_max rfl rfl rfl ha0) ?_
    refine lx.o_pure (.pointer (some ⟨w.heap.size, 1, none⟩)) (fun _ _ h => by first | rfl | kernel_rfl) ?_
    refine lx.o_pure (.int .i64 y) (fun D W h => lx.run_load rfl rfl Try.underlying3 rfl ((fun D W hC => (F D W hC 1)) D W h)) ?_
    refine lx.o_pure (.int .i64 b0) (fun D W h => run_max rfl rfl rfl hb0) ?_
    refine lx.o_pure (.pointer (some ⟨w.heap.size, 0, none⟩)) (fun _ _ h => by first | rfl | kernel_rfl) ?_
    refine lx.o_pure (.int .i64 x) (fun D W h => lx.run_load rfl rfl Try.underlying3 rfl ((fun D W hC => (F D W hC 0)) D W h)) ?_
    refine lx.o_pure (.pointer (some ⟨w.heap.size, 2, none⟩)) (fun _ _ h => by first | rfl | kernel_rfl) ?_
    refine lx.o_pure (.int .i64 z) (fun D W h => lx.run_load rfl rfl Try.underlying3 rfl ((fun D W hC => (F D W hC 2)) D W h)) ?_
    refine lx.o_call (.int .i64 ex) 83 #[.int .i64 x, .int .i64 z] (fun _ _ _ => lx.run_fn rfl rfl rfl (enters_of Try.func83 (by kernel_rfl) rfl)) (fun D W hC => (H1.out W).mono fun e w2 ⟨he, hw⟩ => ⟨he, by rw [← hw]; exact hC⟩) ?_
    refine lx.o_pure (.int .i64 a1) (fun D W h => run_min rfl rfl rfl ha1) ?_
    refine lx.o_pure (.pointer (some ⟨w.heap.size, 1, none⟩)) (fun _ _ h => by first | rfl | kernel_rfl) ?_
    refine lx.o_pure (.int .i64 y) (fun D W h => lx.run_load rfl rfl Try.underlying3 rfl ((fun D W hC => (F D W hC 1)) D W h)) ?_
    refine lx.o_pure (.pointer (some ⟨w.heap.size, 3, none⟩)) (fun _ _ h => by first | rfl | kernel_rfl) ?_
    refine lx.o_pure (.int .i64 u) (fun D W h => lx.run_load rfl rfl Try.underlying3 rfl ((fun D W hC => (F D W hC 3)) D W h)) ?_
    refine lx.o_call (.int .i64 ey) 83 #[.int .i64 y, .int .i64 u] (fun _ _ _ => lx.run_fn rfl rfl rfl (enters_of Try.func83 (by kernel_rfl) rfl)) (fun D W hC => (H2.out W).mono fun e w2 ⟨he, hw⟩ => ⟨he, by rw [← hw]; exact hC⟩) ?_
    refine lx.o_pure (.int .i64 b1) (fun D W h => run_min rfl rfl rfl hb1) ?_
    refine lx.o_pure (.agg #[.int .i64 a0, .int .i64 b0, .int .i64 a1, .int .i64 b1]) (fun _ _ h => by first | rfl | kernel_rfl) ?_
    refine lx.o_eff (.pointer (some ⟨w.heap.size + 2, 0, none⟩)) (fun D W h0 hdep hC => ?_) ?_
    · rcases hC with ⟨h1, h2, rfl⟩ | ⟨h1, -, -⟩ | ⟨h1, -, -⟩
      · exact ⟨_, (run_alloc rfl zero_box hZ.symm).trans (by simp), .inr (.inl ⟨rfl, h2, rfl⟩)⟩
      · rw [show (0 + 1 + 1 + 1 + 1 + 1 + 1 + 1 + 1 + 1 + 1 + 1 + 1 + 1 + 1 + 1 + 1 + 1 + 1 + 1 : Nat) = 19 from rfl, h1] at h0; cases h0
      · rw [show (0 + 1 + 1 + 1 + 1 + 1 + 1 + 1 + 1 + 1 + 1 + 1 + 1 + 1 + 1 + 1 + 1 + 1 + 1 + 1 : Nat) = 19 from rfl, h1] at h0; cases h0
    refine lx.o_put (fun D W h0 hdep hC => ?_) ?_
    · have h19 : D 19 = true := hdep ⟨19, .data⟩ (by simp) rfl
      rcases hC with ⟨h1, -, -⟩ | ⟨h1, h2, rfl⟩ | ⟨h1, h2, rfl⟩
      · rw [h1] at h19; cases h19
      · refine ⟨_, ?_, .inr (.inr ⟨h1, rfl, rfl⟩)⟩
        rw [hV, hZ]
        unfold execOp
        simp only
        rw [show lx.look _ _ (Operand.tmp 4) = Value.pointer (some ⟨w.heap.size + 2, 0, none⟩) from rfl, show lx.look _ _ (Operand.tmp 23) = Value.agg #[.int .i64 a0, .int .i64 b0, .int .i64 a1, .int .i64 b1] from rfl]
        simp [go_sem]
      · rw [show (0 + 1 + 1 + 1 + 1 + 1 + 1 + 1 + 1 + 1 + 1 + 1 + 1 + 1 + 1 + 1 + 1 + 1 + 1 + 1 + 1 : Nat) = 20 from rfl, h2] at h0; cases h0
    refine lx.o_end ?_
    simp only [lx.ov]
    rintro W d hd hC
    have h20 := hd 20 (by decide)
    rcases hC with ⟨-, h2, -⟩ | ⟨-, h2, -⟩ | ⟨-, -, rfl⟩
    · rw [h2] at h20; cases h20
    · rw [h2] at h20; cases h20
    rw [hV, hZ]
    clear F h20 hd H1 H2
    go_wp2
    go_meet
    case rel => exact ⟨rfl, rfl⟩
  obtain ⟨rfl, rfl⟩ := hcut
  have hb3 := (drewB (run.below_two w (.cells #[.int .i64 x, .int .i64 y, .int .i64 z, .int .i64 u] 58) (.cells #[.int .i64 0, .int .i64 0, .int .i64 0, .int .i64 0] 105))).alloc (by simp; omega) (.cells #[.int .i64 a0, .int .i64 b0, .int .i64 a1, .int .i64 b1] 105)
  have k1 : ((((w.alloc (.cells #[.int .i64 x, .int .i64 y, .int .i64 z, .int .i64 u] 58)).alloc (.cells #[.int .i64 0, .int .i64 0, .int .i64 0, .int .i64 0] 105)).drew).alloc (.cells #[.int .i64 a0, .int .i64 b0, .int .i64 a1, .int .i64 b1] 105)).heap[w.heap.size + 1]? = some (.cells #[.int .i64 0, .int .i64 0, .int .i64 0, .int .i64 0] 105 (0, 0)) := (blk_old _ (by simp)).trans (heap_alloc2_new w _ _)
  have k2 : ((((w.alloc (.cells #[.int .i64 x, .int .i64 y, .int .i64 z, .int .i64 u] 58)).alloc (.cells #[.int .i64 0, .int .i64 0, .int .i64 0, .int .i64 0] 105)).drew).alloc (.cells #[.int .i64 a0, .int .i64 b0, .int .i64 a1, .int .i64 b1] 105)).heap[w.heap.size + 2]? = some (.cells #[.int .i64 a0, .int .i64 b0, .int .i64 a1, .int .i64 b1] 105 (0, 0)) := by
    have := heap_alloc_new (((w.alloc (.cells #[.int .i64 x, .int .i64 y, .int .i64 z, .int .i64 u] 58)).alloc (.cells #[.int .i64 0, .int .i64 0, .int .i64 0, .int .i64 0] 105)).drew) (.cells #[.int .i64 a0, .int .i64 b0, .int .i64 a1, .int .i64 b1] 105)
    simpa using this
  clear F H1 H2 hZ hV ha0 hb0 ha1 hb1
  generalize (((w.alloc (.cells #[.int .i64 x, .int .i64 y, .int .i64 z, .int .i64 u] 58)).alloc (.cells #[.int .i64 0, .int .i64 0, .int .i64 0, .int .i64 0] 105)).drew).alloc (.cells #[.int .i64 a0, .int .i64 b0, .int .i64 a1, .int .i64 b1] 105) = w3 at *
  obtain ⟨⟨d0, d1, d2, d3⟩, g0, g1, g2, g3⟩ := blk4 k1
  obtain ⟨⟨c0, c1, c2, c3⟩, -⟩ := blk4 k2
  have K9 := run.hid (set4 (a' := .int .i64 a0) (b' := .int .i64 b0) (c' := .int .i64 a1) (d' := .int .i64 b1) (show w3.drew.heap[w.heap.size + 1]? = _ from k1))
  have HB9 := run.hid (below4 (.int .i64 a0) (.int .i64 b0) (.int .i64 a1) (.int .i64 b1) (drewB hb3) (show w.heap.size ≤ w.heap.size + 1 by omega))
  clear hb3 k1
  obtain ⟨WS, hWS⟩ : ∃ W, W = (((w3.drew.setCell ⟨w.heap.size + 1, 0, none⟩ (.int .i64 a0)).setCell ⟨w.heap.size + 1, 1, none⟩ (.int .i64 b0)).setCell ⟨w.heap.size + 1, 2, none⟩ (.int .i64 a1)).setCell ⟨w.heap.size + 1, 3, none⟩ (.int .i64 b1) := ⟨_, rfl⟩
  rw [← hWS] at K9 HB9
  have kS : WS.heap[w.heap.size + 2]? = some (.cells #[.int .i64 a0, .int .i64 b0, .int .i64 a1, .int .i64 b1] 105 (0, 0)) := by
    rw [hWS]
    exact (blk_other _ (by simp)).trans ((blk_other _ (by simp)).trans ((blk_other _ (by simp)).trans ((blk_other _ (by simp)).trans k2)))
  have G : ∀ (D : Nat → Bool) W, (D 13 = false ∧ W = w3.drew) ∨ (D 13 = true ∧ W = WS) → W.heap[w.heap.size + 2]? = some (.cells #[.int .i64 a0, .int .i64 b0, .int .i64 a1, .int .i64 b1] 105 (0, 0)) := by
    rintro D W (⟨-, rfl⟩ | ⟨-, rfl⟩)
    · exact k2
    · exact kS
  have F : ∀ (D : Nat → Bool) W, (D 13 = false ∧ W = w3.drew) ∨ (D 13 = true ∧ W = WS) → ∀ i, W.cell? ⟨w.heap.size + 2, i, none⟩ = #[Value.int .i64 a0, .int .i64 b0, .int .i64 a1, .int .i64 b1][i]? := fun D W h i => blk_cell (G D W h) i
  by_cases hlt : a0 < a1
  · go_upto_region 2 with fail
    refine lx.region (fun D W => (D 13 = false ∧ W = w3.drew) ∨ (D 13 = true ∧ W = WS)) (by kernel_rfl) (by kernel_rfl) (by kernel_rfl) (.inl ⟨rfl, rfl⟩) ?_
    refine lx.begin 37 rfl ?_
    refine lx.o_pure (.agg #[.int .i64 a0, .int .i64 b0, .int .i64 a1, .int .i64 b1]) (fun D W h => run_loadrow rfl rfl (G D W h) Try.underlying105 rfl (by kernel_rfl)) ?_
    refine lx.o_pure (.pointer (some ⟨w.heap.size + 2, 0, none⟩)) (fun _ _ h => by first | rfl | kernel_rfl) ?_
    refine lx.o_pure (.int .i64 a0) (fun D W h => lx.run_load rfl rfl Try.underlying3 rfl ((fun D W hC => (F D W hC 0)) D W h)) ?_
    refine lx.o_pure (.pointer (some ⟨w.heap.size + 2, 2, none⟩)) (fun _ _ h => by first | rfl | kernel_rfl) ?_
    refine lx.o_pure (.int .i64 a1) (fun D W h => lx.run_load rfl rfl Try.underlying3 rfl ((fun D W hC => (F D W hC 2)) D W h)) ?_
    refine lx.o_pure (.bool true) (fun _ _ _ => run_lss rfl rfl rfl (decide_eq_true hlt)) ?_
    refine lx.o_pure (.bool true) (fun _ _ h => by first | rfl | kernel_rfl) ?_
    refine lx.o_pure (.pointer (some ⟨w.heap.size + 2, 1, none⟩)) (fun _ _ h => by first | rfl | kernel_rfl) ?_
    refine lx.o_pure (.int .i64 b0) (fun D W h => lx.run_load rfl rfl Try.underlying3 rfl ((fun D W hC => (F D W hC 1)) D W h)) ?_
    refine lx.o_pure (.pointer (some ⟨w.heap.size + 2, 3, none⟩)) (fun _ _ h => by first | rfl | kernel_rfl) ?_
    refine lx.o_pure (.int .i64 b1) (fun D W h => lx.run_load rfl rfl Try.underlying3 rfl ((fun D W hC => (F D W hC 3)) D W h)) ?_
    refine lx.o_pure (.bool (decide (b0 < b1))) (fun _ _ _ => run_lss rfl rfl rfl rfl) ?_
    refine lx.o_pure (.bool (decide (b0 < b1))) (fun _ _ h => by first | rfl | kernel_rfl) ?_
    refine lx.o_put (fun D W h0 hdep hC => ?_) ?_
    · rcases hC with ⟨h1, rfl⟩ | ⟨h1, rfl⟩
      · refine ⟨WS, ?_, .inr ⟨rfl, rfl⟩⟩
        unfold execOp
        simp only
        rw [show lx.look _ _ (Operand.tmp 2) = Value.pointer (some ⟨w.heap.size + 1, 0, none⟩) from rfl, show lx.look _ _ (Operand.tmp 24) = Value.agg #[.int .i64 a0, .int .i64 b0, .int .i64 a1, .int .i64 b1] from rfl, hWS]
        simp [go_sem, d0, d1, d2, d3, g0, g1, g2, g3]
      · rw [show (0 + 1 + 1 + 1 + 1 + 1 + 1 + 1 + 1 + 1 + 1 + 1 + 1 + 1 : Nat) = 13 from rfl, h1] at h0; cases h0
    refine lx.o_pure (.bool (decide (b0 < b1))) (fun _ _ h => by first | rfl | kernel_rfl) ?_
    refine lx.o_end ?_
    simp only [lx.ov]
    rintro W d hd hC
    have h13 := hd 13 (by decide)
    rcases hC with ⟨h2, -⟩ | ⟨-, rfl⟩
    · rw [h2] at h13; cases h13
    clear F G hd h13 kS hWS k2 d0 d1 d2 d3 g0 g1 g2 g3 c0 c1 c2 c3
    go_wp2
    refine bodyPost_ret (v := .tuple #[.agg #[.int .i64 a0, .int .i64 b0, .int .i64 a1, .int .i64 b1], .bool (decide (b0 < b1))]) ((results_cell_tmp rfl _ _ _).trans ?_) rfl ?_
    · obtain ⟨⟨e0, e1, e2, e3⟩, -⟩ := blk4 K9.out
      simp [go_sem, e0, e1, e2, e3]
    · exact ⟨rfl, HB9.out⟩
  · go_upto_region 2 with fail
    refine lx.region (fun D W => (D 13 = false ∧ W = w3.drew) ∨ (D 13 = true ∧ W = WS)) (by kernel_rfl) (by kernel_rfl) (by kernel_rfl) (.inl ⟨rfl, rfl⟩) ?_
    refine lx.begin 37 rfl ?_
    refine lx.o_pure (.agg #[.int .i64 a0, .int .i64 b0, .int .i64 a1, .int .i64 b1]) (fun D W h => run_loadrow rfl rfl (G D W h) Try.underlying105 rfl (by kernel_rfl)) ?_
    refine lx.o_pure (.pointer (some ⟨w.heap.size + 2, 0, none⟩)) (fun _ _ h => by first | rfl | kernel_rfl) ?_
    refine lx.o_pure (.int .i64 a0) (fun D W h => lx.run_load rfl rfl Try.underlying3 rfl ((fun D W hC => (F D W hC 0)) D W h)) ?_
    refine lx.o_pure (.pointer (some ⟨w.heap.size + 2, 2, none⟩)) (fun _ _ h => by first | rfl | kernel_rfl) ?_
    refine lx.o_pure (.int .i64 a1) (fun D W h => lx.run_load rfl rfl Try.underlying3 rfl ((fun D W hC => (F D W hC 2)) D W h)) ?_
    refine lx.o_pure (.bool false) (fun _ _ _ => run_lss rfl rfl rfl (decide_eq_false hlt)) ?_
    refine lx.o_pure (.bool false) (fun _ _ h => by first | rfl | kernel_rfl) ?_
    refine lx.o_skip ?_
    refine lx.o_skip ?_
    refine lx.o_skip ?_
    refine lx.o_skip ?_
    refine lx.o_skip ?_
    refine lx.o_pure (.bool false) (fun _ _ h => by first | rfl | kernel_rfl) ?_
    refine lx.o_put (fun D W h0 hdep hC => ?_) ?_
    · rcases hC with ⟨h1, rfl⟩ | ⟨h1, rfl⟩
      · refine ⟨WS, ?_, .inr ⟨rfl, rfl⟩⟩
        unfold execOp
        simp only
        rw [show lx.look _ _ (Operand.tmp 2) = Value.pointer (some ⟨w.heap.size + 1, 0, none⟩) from rfl, show lx.look _ _ (Operand.tmp 24) = Value.agg #[.int .i64 a0, .int .i64 b0, .int .i64 a1, .int .i64 b1] from rfl, hWS]
        simp [go_sem, d0, d1, d2, d3, g0, g1, g2, g3]
      · rw [show (0 + 1 + 1 + 1 + 1 + 1 + 1 + 1 + 1 + 1 + 1 + 1 + 1 + 1 : Nat) = 13 from rfl, h1] at h0; cases h0
    refine lx.o_pure (.bool false) (fun _ _ h => by first | rfl | kernel_rfl) ?_
    refine lx.o_end ?_
    simp only [lx.ov]
    rintro W d hd hC
    have h13 := hd 13 (by decide)
    rcases hC with ⟨h2, -⟩ | ⟨-, rfl⟩
    · rw [h2] at h13; cases h13
    clear F G hd h13 kS hWS k2 d0 d1 d2 d3 g0 g1 g2 g3 c0 c1 c2 c3
    go_wp2
    refine bodyPost_ret (v := .tuple #[.agg #[.int .i64 a0, .int .i64 b0, .int .i64 a1, .int .i64 b1], .bool false]) ((results_cell_tmp rfl _ _ _).trans ?_) rfl ?_
    · obtain ⟨⟨e0, e1, e2, e3⟩, -⟩ := blk4 K9.out
      simp [go_sem, e0, e1, e2, e3]
    · exact ⟨by rw [decide_eq_false (show ¬ a0 < a1 by omega), Bool.false_and], HB9.out⟩
end Go.Proofs.Ytinnggiohalifaa.cel
