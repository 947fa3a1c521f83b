/-
  The walk of the layer cells: all cells told.
-/
import Derived.Test.YtinnggiohalifaaCelRows
import Derived.Test.YtinnggiohalifaaCelCell
import Derived.Test.YtinnggiohalifaaLx2
import Derived.Laws.CopyOwn
namespace Go.Proofs.Ytinnggiohalifaa.cel
open Go Go.RowKit Go.Proofs
set_option linter.unusedVariables false

/-- a screen as a value -/
def scrV (W H : Nat) (v : Value) : Value := .agg #[.int .i64 W, .int .i64 H, v, .int .i64 0, .int .i64 0, .bool false]

set_option maxHeartbeats 400000 in
theorem screen_nil (w : World) : Calls Try.prog 36 #[.pointer none] w fun e w' => e = .returned (scrV 0 0 (.slice none 0 0)) ∧ Below w.heap.size w w' := by
  have hb := run.below_one w (.cells #[.int .i64 0, .int .i64 0, .slice none 0 0, .int .i64 0, .int .i64 0, .bool false] 49)
  go_enter Try.func36, Try.ntmps36
  go_wp2
  refine bodyPost_ret (v := .agg #[.int .i64 0, .int .i64 0, .slice none 0 0, .int .i64 0, .int .i64 0, .bool false]) (results_cell_row rfl _ _ w.heap.size _ _ _ _ rfl (heap_alloc_new _ _) Try.underlying49 rfl (by kernel_rfl)) rfl ?_
  exact ⟨rfl, hb⟩

def zc6 : Array Value := #[.int .i64 0, .int .i64 0, .slice none 0 0, .int .i64 0, .int .i64 0, .bool false]
def mk5 (N : Nat) : Array Value := madeCells #[.string ⟨#[]⟩, .int .i8 0, .int .i32 0, .int .i32 0, .int .u8 0] (N * 5)
theorem mk5_size (N : Nat) : (mk5 N).size = N * 5 := by unfold mk5 madeCells; simp
def scr6 (W H g N : Nat) : Array Value := #[.int .i64 W, .int .i64 H, .slice (some ⟨g, 0, none⟩) N N, .int .i64 0, .int .i64 0, .bool false]
/-- where a screen is being made: its block n, its row's block g -/
def ScrC (w : World) (W H N n g : Nat) (D : Nat → Bool) (X : World) : Prop :=
  Below w.heap.size w X ∧ X.heap[w.heap.size]? = some (.cells zc6 49 (0, 0)) ∧ X.heap.size = w.heap.size + 1 + (if D 13 = true then 1 else 0) + (if D 15 = true then 1 else 0) ∧
  (D 13 = true → X.heap[g]? = some (.cells (mk5 N) 44 (0, 0))) ∧ (D 15 = true → D 16 = false → X.heap[n]? = some (.cells zc6 49 (0, 0))) ∧ (D 16 = true → D 15 = true ∧ X.heap[n]? = some (.cells (scr6 W H g N) 49 (0, 0)))
theorem blk6 {w : World} {n : Nat} {a b c d e f : Value} {t : TypeId} (h : w.heap[n]? = some (.cells #[a, b, c, d, e, f] t (0, 0))) : (w.cell? ⟨n, 0, none⟩ = some a ∧ w.cell? ⟨n, 1, none⟩ = some b ∧ w.cell? ⟨n, 2, none⟩ = some c ∧ w.cell? ⟨n, 3, none⟩ = some d ∧ w.cell? ⟨n, 4, none⟩ = some e ∧ w.cell? ⟨n, 5, none⟩ = some f) ∧ w.frozen? ⟨n, 0, none⟩ = false ∧ w.frozen? ⟨n, 1, none⟩ = false ∧ w.frozen? ⟨n, 2, none⟩ = false ∧ w.frozen? ⟨n, 3, none⟩ = false ∧ w.frozen? ⟨n, 4, none⟩ = false ∧ w.frozen? ⟨n, 5, none⟩ = false :=
  ⟨⟨blk_cell h 0, blk_cell h 1, blk_cell h 2, blk_cell h 3, blk_cell h 4, blk_cell h 5⟩, blk_free h 0, blk_free h 1, blk_free h 2, blk_free h 3, blk_free h 4, blk_free h 5⟩
theorem set6 {w : World} {n : Nat} {a b c d e f a' b' c' d' e' f' : Value} {t : TypeId} (h : w.heap[n]? = some (.cells #[a, b, c, d, e, f] t (0, 0))) : ((((((w.setCell ⟨n, 0, none⟩ a').setCell ⟨n, 1, none⟩ b').setCell ⟨n, 2, none⟩ c').setCell ⟨n, 3, none⟩ d').setCell ⟨n, 4, none⟩ e').setCell ⟨n, 5, none⟩ f').heap[n]? = some (.cells #[a', b', c', d', e', f'] t (0, 0)) := blk_set (blk_set (blk_set (blk_set (blk_set (blk_set h)))))
theorem below6 {B : Nat} {w w1 : World} {n : Nat} (u v x y z r : Value) (h : Below B w w1) (hn : B ≤ n) : Below B w ((((((w1.setCell ⟨n, 0, none⟩ u).setCell ⟨n, 1, none⟩ v).setCell ⟨n, 2, none⟩ x).setCell ⟨n, 3, none⟩ y).setCell ⟨n, 4, none⟩ z).setCell ⟨n, 5, none⟩ r) :=
  (below5 u v x y z h hn).setCell (p := ⟨n, 5, none⟩) hn _
theorem other6 {w1 : World} {n m : Nat} (u v x y z r : Value) (h : m ≠ n) : ((((((w1.setCell ⟨n, 0, none⟩ u).setCell ⟨n, 1, none⟩ v).setCell ⟨n, 2, none⟩ x).setCell ⟨n, 3, none⟩ y).setCell ⟨n, 4, none⟩ z).setCell ⟨n, 5, none⟩ r).heap[m]? = w1.heap[m]? := by
  rw [blk_other _ h, blk_other _ h, blk_other _ h, blk_other _ h, blk_other _ h, blk_other _ h]
theorem zero_screen (w : World) : (zeroValue 49).run Try.prog w = .ok (.agg zc6) w := by kernel_rfl

theorem ScrC.make {w X : World} {W H N n g : Nat} {D : Nat → Bool} (h : ScrC w W H N n g D X) (h13 : D 13 = false) (hg : g = w.heap.size + 1 + (if D 15 = true then 1 else 0)) : X.heap.size = g ∧ ScrC w W H N n g (lx.mark D 13) (X.alloc (.cells (mk5 N) 44)) := by
  obtain ⟨h1, h2, h3, h4, h5, h6⟩ := h
  have hs : X.heap.size = g := by rw [h3, h13, hg]; simp
  have e15 : lx.mark D 13 15 = D 15 := rfl
  have e16 : lx.mark D 13 16 = D 16 := rfl
  refine ⟨hs, h1.alloc h1.size _, (blk_old _ (Array.getElem?_eq_some_iff.1 h2).1).trans h2, ?_, fun _ => ?_, fun a b => ?_, fun a => ?_⟩
  · rw [World.size_alloc, h3, e15, h13]; simp [lx.mark]; omega
  · rw [← hs]; exact heap_alloc_new _ _
  · have := h5 a b; exact (blk_old _ (Array.getElem?_eq_some_iff.1 this).1).trans this
  · have := (h6 a).2; exact ⟨(h6 a).1, (blk_old _ (Array.getElem?_eq_some_iff.1 this).1).trans this⟩
theorem ScrC.new {w X : World} {W H N n g : Nat} {D : Nat → Bool} (h : ScrC w W H N n g D X) (h15 : D 15 = false) (hg : n = w.heap.size + 1 + (if D 13 = true then 1 else 0)) : X.heap.size = n ∧ ScrC w W H N n g (lx.mark D 15) (X.alloc (.cells zc6 49)) := by
  obtain ⟨h1, h2, h3, h4, h5, h6⟩ := h
  have hs : X.heap.size = n := by rw [h3, h15, hg]; simp
  have e13 : lx.mark D 15 13 = D 13 := rfl
  have e16 : lx.mark D 15 16 = D 16 := rfl
  refine ⟨hs, h1.alloc h1.size _, (blk_old _ (Array.getElem?_eq_some_iff.1 h2).1).trans h2, ?_, fun a => ?_, fun a b => ?_, fun a => ?_⟩
  · rw [World.size_alloc, h3, e13, h15]; simp [lx.mark]
  · have := h4 a; exact (blk_old _ (Array.getElem?_eq_some_iff.1 this).1).trans this
  · rw [← hs]; exact heap_alloc_new _ _
  · have := (h6 a).1; rw [h15] at this; cases this
theorem ScrC.put {w X : World} {W H N n g : Nat} {D : Nat → Bool} (h : ScrC w W H N n g D X) (h15 : D 15 = true) (h16 : D 16 = false) (hn : w.heap.size < n) (hne : g ≠ n) :
    (storeCells ⟨n, 0, none⟩ (scr6 W H g N).toList).run Try.prog X = .ok () ((((((X.setCell ⟨n, 0, none⟩ (.int .i64 W)).setCell ⟨n, 1, none⟩ (.int .i64 H)).setCell ⟨n, 2, none⟩ (.slice (some ⟨g, 0, none⟩) N N)).setCell ⟨n, 3, none⟩ (.int .i64 0)).setCell ⟨n, 4, none⟩ (.int .i64 0)).setCell ⟨n, 5, none⟩ (.bool false)) ∧
    ScrC w W H N n g (lx.mark D 16) ((((((X.setCell ⟨n, 0, none⟩ (.int .i64 W)).setCell ⟨n, 1, none⟩ (.int .i64 H)).setCell ⟨n, 2, none⟩ (.slice (some ⟨g, 0, none⟩) N N)).setCell ⟨n, 3, none⟩ (.int .i64 0)).setCell ⟨n, 4, none⟩ (.int .i64 0)).setCell ⟨n, 5, none⟩ (.bool false)) := by
  obtain ⟨h1, h2, h3, h4, h5, h6⟩ := h
  have k := h5 h15 h16
  obtain ⟨⟨d0, d1, d2, d3, d4, d5⟩, f0, f1, f2, f3, f4, f5⟩ := blk6 k
  refine ⟨by simp [scr6, go_sem, d0, d1, d2, d3, d4, d5, f0, f1, f2, f3, f4, f5], below6 _ _ _ _ _ _ h1 (Nat.le_of_lt hn), ?_, ?_, fun a => ?_, fun a b => ?_, fun a => ⟨h15, set6 k⟩⟩
  · rw [other6 _ _ _ _ _ _ (by omega)]; exact h2
  · have e13 : lx.mark D 16 13 = D 13 := rfl
    have e15 : lx.mark D 16 15 = D 15 := rfl
    rw [e13, e15, ← h3]
    simp [World.setCell]
  · rw [other6 _ _ _ _ _ _ hne]; exact h4 a
  · cases b

set_option maxRecDepth 100000 in
set_option maxHeartbeats 4000000 in
theorem screen_any (b g W H : Nat) (L : List CV) (w : World) (h : Buf w b g W H L) : Calls Try.prog 36 #[.pointer (some ⟨b, 0, none⟩)] w fun e w' => ∃ v, e = .returned (scrV W H v) ∧ w'.ownsRow w.heap.size 44 5 v (W * H) (cells5 L) ∧ Below w.heap.size w w' := by
  obtain ⟨it, hinf, hz0, hsz, hby⟩ := info_parts info_cell
  have hlt := h.lt
  have hsize := h.size
  have hlen := h.len
  have hmk := fun w => run_make (P := Try.prog) w 35 44 it _ Try.underlying35 hinf hz0 .i64 .i64 ((W * H : Nat) : Int) ((W * H : Nat) : Int) (by omega) (Int.le_refl _) (by rw [hby]; omega) (by omega)
  rw [hsz, Int.toNat_natCast] at hmk
  change ∀ w : World, _ = Result.ok (Value.slice (some ⟨w.heap.size, 0, none⟩) (W * H) (W * H)) (w.alloc (.cells (mk5 (W * H)) 44)) at hmk
  have HM := run.hid hmk
  clear hmk
  have HB := run.hid h
  have HR0 := run.hid (show (cells5 L).length = W * H * 5 by rw [cells5_length, hlen])
  have HC0 := run.hid (fun (X : World) (hX : Below w.heap.size w X) j v hj => (h.below hX).grid.cells (j := j) (v := v) hj)
  clear h
  generalize hN : W * H = N at *
  go_enter Try.func36, Try.ntmps36
  go_upto_region 3 with fail
  go_cut [3] (fun c wx => ∃ n gg, c = .pointer (some ⟨n, 0, none⟩) ∧ n ≠ gg ∧ w.heap.size < n ∧ w.heap.size < gg ∧ Below w.heap.size w wx ∧ wx.heap[w.heap.size]? = some (.cells zc6 49 (0, 0)) ∧ wx.heap[gg]? = some (.cells (mk5 N) 44 (0, 0)) ∧ wx.heap[n]? = some (.cells (scr6 W H gg N) 49 (0, 0)))
  case first =>
    have HI := run.hid (show ∀ n gg, ScrC w W H N n gg (fun _ => false) (w.alloc (.cells zc6 49)).drew from fun n gg => ⟨drewB (run.below_one w _), heap_alloc_new _ _, by show (w.alloc _).heap.size = _; simp, (fun h => by cases h), (fun h => by cases h), fun h => by cases h⟩)
    refine lx.two.region 13 15 (fun β => ScrC w W H N (w.heap.size + 1 + if β = true then 1 else 0) (w.heap.size + 1 + if β = true then 0 else 1)) (by decide) (by decide) (by kernel_rfl) (by kernel_rfl) (by kernel_rfl) (fun β => HI.out _ _) (fun β => ?_)
    obtain ⟨n, hn⟩ : ∃ n, n = w.heap.size + 1 + if β = true then 1 else 0 := ⟨_, rfl⟩
    obtain ⟨gg, hgg⟩ : ∃ n, n = w.heap.size + 1 + if β = true then 0 else 1 := ⟨_, rfl⟩
    rw [← hn, ← hgg]
    have hne : n ≠ gg := by rw [hn, hgg]; cases β <;> simp
    have hn1 : w.heap.size < n := by omega
    have hg1 : w.heap.size < gg := by omega
    refine lx.two.begin 30 rfl ?_
    refine lx.two.o_pure (.pointer (some ⟨b, 0, none⟩)) (fun _ _ h => by first | rfl | kernel_rfl) ?_
    refine lx.two.o_pure (.pointer (some ⟨b, 0, none⟩)) (fun _ _ h => by first | rfl | kernel_rfl) ?_
    refine lx.two.o_pure (.pointer (some ⟨b, 0, none⟩)) (fun _ _ h => by first | rfl | kernel_rfl) ?_
    refine lx.two.o_pure (.int .i64 (W : Nat)) (fun D X hC => lx.run_load rfl rfl Try.underlying3 rfl (HB.out.below hC.1).h0) ?_
    refine lx.two.o_pure (.pointer (some ⟨b, 0, none⟩)) (fun _ _ h => by first | rfl | kernel_rfl) ?_
    refine lx.two.o_pure (.pointer (some ⟨b, 0, none⟩)) (fun _ _ h => by first | rfl | kernel_rfl) ?_
    refine lx.two.o_pure (.pointer (some ⟨b, 1, none⟩)) (fun _ _ h => by first | rfl | kernel_rfl) ?_
    refine lx.two.o_pure (.int .i64 (H : Nat)) (fun D X hC => lx.run_load rfl rfl Try.underlying3 rfl (HB.out.below hC.1).h1) ?_
    refine lx.two.o_pure (.pointer (some ⟨b, 0, none⟩)) (fun _ _ h => by first | rfl | kernel_rfl) ?_
    refine lx.two.o_pure (.pointer (some ⟨b, 0, none⟩)) (fun _ _ h => by first | rfl | kernel_rfl) ?_
    refine lx.two.o_pure (.pointer (some ⟨b, 2, none⟩)) (fun _ _ h => by first | rfl | kernel_rfl) ?_
    refine lx.two.o_pure (.slice (some ⟨g, 0, none⟩) N N) (fun D X hC => lx.run_load rfl rfl Try.underlying35 rfl (by rw [← hN]; exact (HB.out.below hC.1).h2)) ?_
    refine lx.two.o_pure (.int .i64 (N : Nat)) (fun _ _ h => by first | rfl | kernel_rfl) ?_
    refine lx.two.o_eff (.slice (some ⟨gg, 0, none⟩) N N) (fun D X h0 hdep hp hC => ?_) ?_
    · have h13 : D 13 = false := h0
      have h15 : D 15 = !β := hp.1 rfl
      obtain ⟨hs, hC'⟩ := hC.make h13 (by rw [hgg, h15]; cases β <;> rfl)
      refine ⟨_, ?_, hC'⟩
      unfold execOp
      simp only
      rw [show lx.look _ _ (Operand.tmp 19) = Value.int .i64 (N : Nat) from rfl, Sem.run_bind, HM.out X, hs]
      rfl
    refine lx.two.o_pure (.agg (scr6 W H gg N)) (fun _ _ h => by first | rfl | kernel_rfl) ?_
    refine lx.two.o_eff (.pointer (some ⟨n, 0, none⟩)) (fun D X h0 hdep hp hC => ?_) ?_
    · have h15 : D 15 = false := h0
      have h13 : D 13 = β := hp.2 rfl
      obtain ⟨hs, hC'⟩ := hC.new h15 (by rw [hn, h13])
      exact ⟨_, (run_alloc rfl zero_screen rfl).trans (by rw [hs]; rfl), hC'⟩
    refine lx.two.o_put (fun D X h0 hdep hp hC => ?_) ?_
    · have h16 : D 16 = false := h0
      have h15 : D 15 = true := hdep ⟨15, .data⟩ (by simp) rfl
      obtain ⟨hr, hC'⟩ := hC.put h15 h16 hn1 hne.symm
      refine ⟨_, ?_, hC'⟩
      unfold execOp
      simp only
      rw [show lx.look _ _ (Operand.tmp 3) = Value.pointer (some ⟨n, 0, none⟩) from rfl, show lx.look _ _ (Operand.tmp 21) = Value.agg (scr6 W H gg N) from rfl]
      have hsz6 : (scr6 W H gg N).size = 6 := rfl
      simp [go_sem, hsz6, hr]
    refine lx.two.o_end ?_
    simp only [lx.ov]
    rintro X d hd ⟨c1, c2, -, c4, -, c6⟩
    have KK := run.hid (show _ ∧ _ ∧ _ ∧ _ from ⟨c1, c2, c4 (hd 13 (by decide)), (c6 (hd 16 (by decide))).2⟩)
    clear hn hgg
    clear c1 c2 c4 c6 hd HI HM HB HC0
    go_simp
    go_wp2
    go_meet
    case rel => exact ⟨n, gg, rfl, hne, hn1, hg1, KK.out⟩
  obtain ⟨n, gg, rfl, hne, hn1, hg1, hb, kr, kg, kn⟩ := hcut
  have HZ := run.hid (show _ ∧ _ from ⟨hb, kr⟩)
  have hbg := run.hid (HB.out.below hb)
  have hcs := run.hid (HC0.out wc hb)
  have HG := run.hid (show _ ∧ _ from ⟨kg, kn⟩)
  clear hb kr kg kn HC0 HM
  go_upto_region 4 with fail
  refine lx.region (fun D X => Below w.heap.size w X ∧ X.heap[w.heap.size]? = some (.cells zc6 49 (0, 0)) ∧ X.heap[n]? = some (.cells (scr6 W H gg N) 49 (0, 0)) ∧ ∃ cur : Array Value, X.heap[gg]? = some (.cells cur 44 (0, 0)) ∧ cur.size = N * 5 ∧ (D 6 = true → cur = (cells5 L).toArray)) (by kernel_rfl) (by kernel_rfl) (by kernel_rfl) ⟨drewB HZ.out.1, HZ.out.2, HG.out.2, _, HG.out.1, mk5_size N, fun h => by cases h⟩ ?_
  refine lx.begin 30 rfl ?_
  refine lx.o_pure (.pointer (some ⟨n, 2, none⟩)) (fun _ _ h => by first | rfl | kernel_rfl) ?_
  refine lx.o_pure (.slice (some ⟨gg, 0, none⟩) N N) (fun D X hC => lx.run_load rfl rfl Try.underlying35 rfl (blk_cell hC.2.2.1 2)) ?_
  refine lx.o_pure (.pointer (some ⟨b, 0, none⟩)) (fun _ _ h => by first | rfl | kernel_rfl) ?_
  refine lx.o_pure (.pointer (some ⟨b, 0, none⟩)) (fun _ _ h => by first | rfl | kernel_rfl) ?_
  refine lx.o_pure (.pointer (some ⟨b, 2, none⟩)) (fun _ _ h => by first | rfl | kernel_rfl) ?_
  refine lx.o_pure (.slice (some ⟨g, 0, none⟩) N N) (fun D X hC => lx.run_load rfl rfl Try.underlying35 rfl (by rw [← hN]; exact (HB.out.below hC.1).h2)) ?_
  refine lx.o_eff (goInt N) (fun D X h0 hdep hC => ?_) ?_
  · obtain ⟨c1, c2, c3, cur, c4, c5, -⟩ := hC
    have hr := run_copy_rowN (P := Try.prog) X 35 35 3 44 5 gg 0 N N ⟨g, 0, none⟩ N N cur 44 (cells5 L) Try.underlying35 (by rw [hinf, Option.map_some, hsz]) c4 (by rw [HR0.out, show Nat.min N N = N from Nat.min_self N]) (fun j v hj => by rw [run.add_none, Nat.zero_add]; exact (HB.out.below c1).grid.cells hj) (by rw [HR0.out, c5]; omega) one_cell5
    rw [show Nat.min N N = N from Nat.min_self N, show (cur.toList.take 0 ++ cells5 L ++ cur.toList.drop (0 + (cells5 L).length)).toArray = (cells5 L).toArray by
      rw [HR0.out, List.drop_eq_nil_of_le (by rw [Array.length_toList, c5]; omega), List.take_zero, List.nil_append, List.append_nil]] at hr
    refine ⟨X.setRow gg (cells5 L).toArray, ?_, below_setRow c1 (Nat.le_of_lt hg1) _, ?_, ?_, (cells5 L).toArray, setRow_heap X gg cur _ _ _ c4, ?_, fun _ => rfl⟩
    · unfold execOp
      simp only [resolve, invoke, builtin, Sem.run_bind, Sem.run_pure, Result.andThen_ok, List.map_toArray, List.map_cons, List.map_nil]
      rw [show lx.look _ _ (Operand.tmp 23) = Value.slice (some ⟨gg, 0, none⟩) N N from rfl, show lx.look _ _ (Operand.tmp 27) = Value.slice (some ⟨g, 0, none⟩) N N from rfl, hr]
      rfl
    · rw [setRow_other _ _ _ _ (by omega)]; exact c2
    · rw [setRow_other _ _ _ _ hne]; exact c3
    · rw [List.size_toArray, HR0.out]
  refine lx.o_end ?_
  simp only [lx.ov]
  rintro X d hd ⟨c1, c2, c3, cur, c4, c5, c6⟩
  obtain rfl := c6 (hd 6 (by decide))
  obtain ⟨⟨e0, e1, e2, e3, e4, e5⟩, -⟩ := blk6 c3
  obtain ⟨⟨d0, d1, d2, d3, d4, d5⟩, f0, f1, f2, f3, f4, f5⟩ := blk6 c2
  have K9 := run.hid (set6 (a' := .int .i64 W) (b' := .int .i64 H) (c' := .slice (some ⟨gg, 0, none⟩) N N) (d' := .int .i64 0) (e' := .int .i64 0) (f' := .bool false) c2)
  have HB9 := run.hid (below6 (.int .i64 W) (.int .i64 H) (.slice (some ⟨gg, 0, none⟩) N N) (.int .i64 0) (.int .i64 0) (.bool false) c1 (Nat.le_refl _))
  have HG9 := run.hid ((other6 (w1 := X) (n := w.heap.size) (m := gg) (.int .i64 W) (.int .i64 H) (.slice (some ⟨gg, 0, none⟩) N N) (.int .i64 0) (.int .i64 0) (.bool false) (by omega)).trans c4)
  clear hd HZ hbg hcs HG HB c1 c2 c3 c4 c6
  go_simp
  go_wp2
  refine bodyPost_ret (v := .agg #[.int .i64 W, .int .i64 H, .slice (some ⟨gg, 0, none⟩) N N, .int .i64 0, .int .i64 0, .bool false]) (results_cell_row rfl _ _ w.heap.size _ _ _ _ rfl K9.out Try.underlying49 rfl (by kernel_rfl)) rfl ?_
  refine ⟨_, rfl, ⟨HR0.out, .inr ⟨gg, N, (cells5 L).toArray, rfl, Nat.le_of_lt hg1, HG9.out, Nat.le_refl _, by unfold maxLen; omega, by rw [List.size_toArray, HR0.out], ?_⟩⟩, HB9.out⟩
  rw [List.toList_toArray, List.take_of_length_le (by rw [HR0.out]; exact Nat.le_refl _)]
end Go.Proofs.Ytinnggiohalifaa.cel
