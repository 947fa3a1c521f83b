/-
  A pair of buffers: the program's, the document's, and what was told.
  The walk of a pair's step: Put, Fill, Shift.
  The walk of a pair's step: Fill, Shift. (Printed by gen_celps.py.)
  A piece of code behind a cut, walked by itself: nothing of what follows is carried along.
  The walk of a pair's step: Size, Cell, and what does nothing.
-/
import Derived.Test.YtdgcfmfjgidbjaaGreatCelEq
import Derived.Test.YtdgcfmfjgidbjaaGreatCelSpoilK
import Derived.Deep.RegionHeld3
import Derived.Test.YtdgcfmfjgidbjaaGreatRun
import Derived.Deep.Light
import Derived.Deep.DeepCutAuto
section
namespace Go.Proofs.YtdgcfmfjgidbjaaGreat.cel
open Go Go.RowKit Go.Proofs
set_option linter.unusedVariables false
/-- nothing that was there has turned but the blocks of S -/
structure KeptC (S : Nat → Prop) (w w' : World) : Prop where
  os : w'.os = w.os
  tape : w'.tape = w.tape
  output : w'.output = w.output
  size : w.heap.size ≤ w'.heap.size
  block : ∀ k, k < w.heap.size → ¬ S k → w'.heap[k]? = w.heap[k]?
theorem KeptC.refl (S : Nat → Prop) (w : World) : KeptC S w w := ⟨rfl, rfl, rfl, Nat.le_refl _, fun _ _ _ => rfl⟩
theorem KeptC.trans {S S' : Nat → Prop} {w w' w'' : World} (h : KeptC S w w') (h' : KeptC S' w' w'') (hs : ∀ k, k < w.heap.size → S' k → S k) : KeptC S w w'' :=
  ⟨h'.os.trans h.os, h'.tape.trans h.tape, h'.output.trans h.output, Nat.le_trans h.size h'.size, fun k hk hn => (h'.block k (Nat.lt_of_lt_of_le hk h.size) (fun h2 => hn (hs k hk h2))).trans (h.block k hk hn)⟩
theorem KeptC.of_below {S : Nat → Prop} {w w' : World} (h : Below w.heap.size w w') : KeptC S w w' := ⟨h.os, h.tape, h.output, h.size, fun k hk _ => h.block k hk⟩
theorem KeptC.of_grown {S : Nat → Prop} {w w' : World} {o : Option Nat} (h : w.grownBy w' o) (ho : ∀ k, o = some k → S k) : KeptC S w w' := ⟨h.os, h.tape, h.output, h.size, fun k hk hn => h.block k hk (fun e => hn (ho k e.symm))⟩
theorem KeptC.below {S : Nat → Prop} {w w' : World} {B : Nat} (h : KeptC S w w') (hB : B ≤ w.heap.size) (hs : ∀ k, S k → B ≤ k) : Below B w w' := ⟨h.os, h.tape, h.output, h.size, fun k hk => h.block k (Nat.lt_of_lt_of_le hk hB) (fun h2 => by have := hs k h2; omega)⟩
/-- what a pair is made of -/
structure PR where
  pb : Nat
  b : Nat
  g : Nat
  r : Nat
  W : Nat
  H : Nat
  vr : Value
  B : Nat
  vt : Value
  vw : Value
  n : Nat
  m : Nat
  V : Nat → Value
  U : Nat → Value
  Ls : Nat → List CV
def vals (V : Nat → Value) (n : Nat) : List Value := (List.range n).map V
theorem vals_len (V : Nat → Value) (n : Nat) : (vals V n).length = n := by unfold vals; simp
theorem vals_get {V : Nat → Value} {n j : Nat} (h : j < n) : (vals V n)[j]? = some (V j) := by
  unfold vals
  rw [List.getElem?_map, List.getElem?_range h]
  rfl
theorem vals_next (V : Nat → Value) (n : Nat) (v : Value) : vals (fun j => if j = n then v else V j) (n + 1) = vals V n ++ [v] := by
  unfold vals
  rw [List.range_succ, List.map_append]
  congr 1
  · refine List.map_congr_left (fun j hj => ?_)
    have := List.mem_range.1 hj
    rw [if_neg (by omega)]
  · simp
/-- the blocks of a pair -/
def PR.blk (q : PR) (k : Nat) : Prop := k = q.pb ∨ k = q.b ∨ k = q.g ∨ k = q.r ∨ q.vr.ownBlock = some k ∨ q.vt.ownBlock = some k ∨ q.vw.ownBlock = some k ∨ (∃ j, j < q.n ∧ (q.V j).ownBlock = some k) ∨ ∃ j, j < q.m ∧ (q.U j).ownBlock = some k
/-- those that its calls write -/
def PR.wrt (q : PR) (k : Nat) : Prop := k = q.pb ∨ k = q.g ∨ q.vr.ownBlock = some k ∨ q.vt.ownBlock = some k ∨ q.vw.ownBlock = some k
theorem PR.wrt_blk {q : PR} {k : Nat} (h : q.wrt k) : q.blk k := by
  rcases h with h | h | h | h | h
  · exact .inl h
  · exact .inr (.inr (.inl h))
  · exact .inr (.inr (.inr (.inr (.inl h))))
  · exact .inr (.inr (.inr (.inr (.inr (.inl h)))))
  · exact .inr (.inr (.inr (.inr (.inr (.inr (.inl h))))))
structure PB (q : PR) (L R : List CV) (w : World) : Prop where
  box : w.heap[q.pb]? = some (.cells #[.pointer (some ⟨q.b, 0, none⟩), .pointer (some ⟨q.r, 0, none⟩), q.vt, q.vw] 51 (0, 0))
  buf : Buf w q.b q.g q.W q.H L
  rb : RB w (q.r + 1) q.r q.vr q.W q.H R
  told : w.ownsRow q.B 35 1 q.vt q.n (vals q.V q.n)
  want : w.ownsRow q.B 35 1 q.vw q.m (vals q.U q.m)
  tr : ∀ j, j < q.n → w.ownsRow q.B 59 5 (q.V j) (q.W * q.H) (cells5 (q.Ls j))
  ur : ∀ j, j < q.m → w.ownsRow q.B 59 5 (q.U j) (q.W * q.H) (cells5 (q.Ls j))
  ll : ∀ j, j < q.n ∨ j < q.m → (q.Ls j).length = q.W * q.H
  ap : run.Apart q.n q.V
  tw : ∀ k, q.vt.ownBlock = some k → q.vw.ownBlock ≠ some k
  gr : q.g < q.r
  br : q.b < q.r
  rp : q.r < q.pb
  vp : ∀ k, q.vr.ownBlock = some k → k < q.pb
  pB : q.pb < q.B
  Bw : q.B ≤ w.heap.size
section
variable {q : PR} {L R L' R' : List CV} {w w' : World}
theorem PB.lt (h : PB q L R w) {k : Nat} (hk : q.blk k) : k < w.heap.size := by
  have hp := (Array.getElem?_eq_some_iff.1 h.box).1
  have h1 := h.gr
  have h2 := h.br
  have h3 := h.rp
  rcases hk with rfl | rfl | rfl | rfl | hk | hk | hk | ⟨j, hj, hk⟩ | ⟨j, hj, hk⟩
  · exact hp
  · omega
  · omega
  · omega
  · exact (h.rb.row.lt k hk).2
  · exact (h.told.lt k hk).2
  · exact (h.want.lt k hk).2
  · exact ((h.tr j hj).lt k hk).2
  · exact ((h.ur j hj).lt k hk).2
/-- where none of its blocks is turned -/
theorem PB.kept {S : Nat → Prop} (h : PB q L R w) (hk : KeptC S w w') (hd : ∀ k, S k → ¬ q.blk k) : PB q L R w' := by
  have hb : ∀ k, q.blk k → w'.heap[k]? = w.heap[k]? := fun k hq => hk.block k (h.lt hq) (fun hs => hd k hs hq)
  have ho : ∀ {B e sz n : Nat} {v : Value} {xs : List Value}, w.ownsRow B e sz v n xs → (∀ k, v.ownBlock = some k → q.blk k) → w'.ownsRow B e sz v n xs := by
    intro B e sz n v xs hown hv
    refine ⟨hown.1, ?_⟩
    rcases hown.2 with h0 | ⟨g, cap, cur, e1, e2, e3, e4⟩
    · exact .inl h0
    · exact .inr ⟨g, cap, cur, e1, e2, (hb g (hv g (by rw [e1]; rfl))).trans e3, e4⟩
  refine ⟨(hb _ (.inl rfl)).trans h.box, h.buf.of_blocks (hb _ (.inr (.inl rfl))) (hb _ (.inr (.inr (.inl rfl)))), ⟨(hb _ (.inr (.inr (.inr (.inl rfl))))).trans h.rb.box, ho h.rb.row (fun k hk => .inr (.inr (.inr (.inr (.inl hk))))), h.rb.len, h.rb.ne, h.rb.wide, h.rb.high, h.rb.size⟩,
    ho h.told (fun k hk => .inr (.inr (.inr (.inr (.inr (.inl hk)))))), ho h.want (fun k hk => .inr (.inr (.inr (.inr (.inr (.inr (.inl hk))))))), fun j hj => ho (h.tr j hj) (fun k hk => .inr (.inr (.inr (.inr (.inr (.inr (.inr (.inl ⟨j, hj, hk⟩)))))))), fun j hj => ho (h.ur j hj) (fun k hk => .inr (.inr (.inr (.inr (.inr (.inr (.inr (.inr ⟨j, hj, hk⟩)))))))), h.ll, h.ap, h.tw, h.gr, h.br, h.rp, h.vp, h.pB, Nat.le_trans h.Bw hk.size⟩
theorem PB.below (h : PB q L R w) (hb : Below w.heap.size w w') : PB q L R w' := h.kept (S := fun _ => False) (KeptC.of_below hb) (fun _ h => h.elim)
/-- a row of what was told lies behind the pair's box -/
theorem PB.far (h : PB q L R w) {B e sz n : Nat} {v : Value} {xs : List Value} (ho : w.ownsRow B e sz v n xs) (hB : q.B ≤ B) : ∀ k, v.ownBlock = some k → q.pb < k := fun k hk => by
  have := (ho.lt k hk).1
  have := h.pB
  omega
/-- the program's buffer is turned -/
theorem PB.prog (h : PB q L R w) (hb : Buf w' q.b q.g q.W q.H L') (hg : w.grownBy w' (some q.g)) : PB q L' R w' := by
  have h1 := h.gr
  have h2 := h.rp
  have h3 := h.pB
  have ho : ∀ {B e sz n : Nat} {v : Value} {xs : List Value}, w.ownsRow B e sz v n xs → (∀ k, v.ownBlock = some k → k ≠ q.g) → w'.ownsRow B e sz v n xs := fun hown hv => run.own_kept hown hg (fun k hk e => hv k hk (by simp only [Option.some.injEq] at e; exact e.symm))
  have hfar : ∀ {e sz n : Nat} {v : Value} {xs : List Value}, w.ownsRow q.B e sz v n xs → ∀ k, v.ownBlock = some k → k ≠ q.g := fun hown k hk => by
    have := (hown.lt k hk).1
    omega
  refine ⟨(hg.block _ (h.lt (.inl rfl)) (by simp only [ne_eq, Option.some.injEq]; omega)).trans h.box, hb, ⟨(hg.block _ h.rb.lt (by simp only [ne_eq, Option.some.injEq]; omega)).trans h.rb.box, ho h.rb.row (fun k hk => by have := (h.rb.row.lt k hk).1; omega), h.rb.len, h.rb.ne, h.rb.wide, h.rb.high, h.rb.size⟩,
    ho h.told (hfar h.told), ho h.want (hfar h.want), fun j hj => ho (h.tr j hj) (hfar (h.tr j hj)), fun j hj => ho (h.ur j hj) (hfar (h.ur j hj)), h.ll, h.ap, h.tw, h.gr, h.br, h.rp, h.vp, h.pB, Nat.le_trans h.Bw hg.size⟩
/-- the document's is turned -/
theorem PB.ref (h : PB q L R w) (hb : RB w' (q.r + 1) q.r q.vr q.W q.H R') (hg : w.grownBy w' q.vr.ownBlock) : PB q L R' w' := by
  have h1 := h.gr
  have h0 := h.br
  have h2 := h.rp
  have h3 := h.pB
  have hv1 : ∀ k, q.vr.ownBlock = some k → q.r < k ∧ k < q.pb := fun k hk => ⟨by have := (h.rb.row.lt k hk).1; omega, h.vp k hk⟩
  have ho : ∀ {e sz n : Nat} {v : Value} {xs : List Value}, w.ownsRow q.B e sz v n xs → w'.ownsRow q.B e sz v n xs := fun hown => run.own_kept hown hg (fun k hk e => by
    have := (hown.lt k hk).1
    have := hv1 k e
    omega)
  have hbl : ∀ k, k < w.heap.size → (k ≤ q.r ∨ q.pb ≤ k) → w'.heap[k]? = w.heap[k]? := fun k hk hc => hg.block k hk (fun e => by have := hv1 k e.symm; omega)
  exact ⟨(hbl _ (h.lt (.inl rfl)) (.inr (Nat.le_refl _))).trans h.box, h.buf.of_blocks (hbl _ (h.lt (.inr (.inl rfl))) (.inl (by omega))) (hbl _ (h.lt (.inr (.inr (.inl rfl)))) (.inl (by omega))), hb, ho h.told, ho h.want, fun j hj => ho (h.tr j hj), fun j hj => ho (h.ur j hj), h.ll, h.ap, h.tw, h.gr, h.br, h.rp, h.vp, h.pB, Nat.le_trans h.Bw hg.size⟩
end
/-- a pair behind calls: what it is now, of old blocks or new ones; nothing but its own has turned -/
def After (q : PR) (w w' : World) : Prop := ∃ (q' : PR) (L : List CV), PB q' L L w' ∧ Strong q'.W q'.H L ∧ q'.pb = q.pb ∧ q'.n ≤ q.n + 1 ∧ q'.m = q'.n ∧ (∀ k, q'.blk k → q.blk k ∨ w.heap.size ≤ k) ∧ KeptC q.wrt w w'
end Go.Proofs.YtdgcfmfjgidbjaaGreat.cel
end
section
namespace Go.Proofs.YtdgcfmfjgidbjaaGreat.cel
open Go Go.RowKit Go.Proofs
open Go.Proofs.YtdgcfmfjgidbjaaGreat.wrp (TV t0 flow flow_len)
set_option linter.unusedVariables false
/-- a pair, and the box of the step beside it -/
structure CX (q : PR) (n : Nat) (cs : Array Value) (L R : List CV) (w0 X : World) : Prop where
  pb : PB q L R X
  bx : X.heap[n]? = some (.cells cs 37 (0, 0))
  fr : ∀ k, q.blk k → k < n
  kp : KeptC q.wrt w0 X
section
variable {q : PR} {n : Nat} {cs : Array Value} {L R L' R' : List CV} {w0 X X' : World}
theorem CX.start (h : PB q L R w0) (cs : Array Value) : CX q w0.heap.size cs L R w0 (w0.alloc (.cells cs 37)) :=
  ⟨h.below (run.below_one _ _), run.heap_new _ _, fun k hk => h.lt hk, KeptC.of_below (run.below_one _ _)⟩
theorem CX.below (h : CX q n cs L R w0 X) (hb : Below X.heap.size X X') : CX q n cs L R w0 X' :=
  ⟨h.pb.below hb, (hb.block _ (Array.getElem?_eq_some_iff.1 h.bx).1).trans h.bx, h.fr, h.kp.trans (KeptC.of_below (S := fun _ => False) hb) (fun _ _ h => h.elim)⟩
theorem CX.prog (h : CX q n cs L R w0 X) (hb : Buf X' q.b q.g q.W q.H L') (hg : X.grownBy X' (some q.g)) : CX q n cs L' R w0 X' :=
  ⟨h.pb.prog hb hg, (hg.block _ (Array.getElem?_eq_some_iff.1 h.bx).1 (by have := h.fr q.g (.inr (.inr (.inl rfl))); simp only [ne_eq, Option.some.injEq]; omega)).trans h.bx, h.fr, h.kp.trans (KeptC.of_grown (S := q.wrt) hg (fun k e => by simp only [Option.some.injEq] at e; exact .inr (.inl e.symm))) (fun _ _ h => h)⟩
theorem CX.ref (h : CX q n cs L R w0 X) (hb : RB X' (q.r + 1) q.r q.vr q.W q.H R') (hg : X.grownBy X' q.vr.ownBlock) : CX q n cs L R' w0 X' :=
  ⟨h.pb.ref hb hg, (hg.block _ (Array.getElem?_eq_some_iff.1 h.bx).1 (fun e => by have := h.fr n (.inr (.inr (.inr (.inr (.inl e.symm))))); omega)).trans h.bx, h.fr, h.kp.trans (KeptC.of_grown (S := q.wrt) hg (fun k e => .inr (.inr (.inl e)))) (fun _ _ h => h)⟩
theorem CX.p0 (h : CX q n cs L R w0 X) : X.cell? ⟨q.pb, 0, none⟩ = some (.pointer (some ⟨q.b, 0, none⟩)) := blk_cell h.pb.box 0
theorem CX.p1 (h : CX q n cs L R w0 X) : X.cell? ⟨q.pb, 1, none⟩ = some (.pointer (some ⟨q.r, 0, none⟩)) := blk_cell h.pb.box 1
theorem CX.c (h : CX q n cs L R w0 X) (i : Nat) : X.cell? ⟨n, i, none⟩ = cs[i]? := blk_cell h.bx i
theorem CX.after (h : CX q n cs L L w0 X) (hS : Strong q.W q.H L) (hm : q.m = q.n) : After q w0 X := ⟨q, L, h.pb, hS, rfl, Nat.le_succ _, hm, fun k hk => .inl hk, h.kp⟩
end
/-- what a call on both comes to -/
theorem put_both {q : PR} {L : List CV} {x y : Int} {t : ByteArray} {s : SV} {r : RT} (hW : q.W ≤ 4096) (hH : q.H ≤ 4096) (ht : t.size ≤ 134217728) : (putT q.W (letIn r q.W q.H) y (overS s) (farX x) L (flow t)).2 = (putT q.W (letIn r q.W q.H) y (overS s) (farR x) L (flow t)).2 :=
  put_far (let_in r q.W q.H hW hH).2 hW ht
set_option maxRecDepth 100000 in
set_option maxHeartbeats 4000000 in
theorem pst_put (q : PR) (L : List CV) (w : World) (h : PB q L L w) (hS : Strong q.W q.H L) (hm : q.m = q.n) (x y : Int) (t : ByteArray) (s : SV) (r : RT) (v11 : Value) (by0 : Int) (hs : s.wf) (hr : r.wf) (ht : t.size ≤ 134217728) :
    Calls Tryz.prog 6 #[.pointer (some ⟨q.pb, 0, none⟩), .agg #[.int .i64 1, .int .i64 x, .int .i64 y, .string t, .int .i32 s.fg, .int .i32 s.bg, .int .u8 s.att, .int .i64 r.x, .int .i64 r.y, .int .i64 r.w, .int .i64 r.h, v11, .int .i64 by0]] w fun e w' => e = .returned (.bool true) ∧ After q w w' := by
  have hC := CX.start h #[.int .i64 1, .int .i64 x, .int .i64 y, .string t, .int .i32 s.fg, .int .i32 s.bg, .int .u8 s.att, .int .i64 r.x, .int .i64 r.y, .int .i64 r.w, .int .i64 r.h, v11, .int .i64 by0]
  have HP := run.hid (fun X (hc : CX q w.heap.size #[.int .i64 1, .int .i64 x, .int .i64 y, .string t, .int .i32 s.fg, .int .i32 s.bg, .int .u8 s.att, .int .i64 r.x, .int .i64 r.y, .int .i64 r.w, .int .i64 r.h, v11, .int .i64 by0] L L w X) => put_any q.b q.g q.W q.H L x y t s r X hc.pb.buf (hS.nice (fun _ => False)).good hr (by omega))
  have HR := run.hid (fun L' X (hc : CX q w.heap.size #[.int .i64 1, .int .i64 x, .int .i64 y, .string t, .int .i32 s.fg, .int .i32 s.bg, .int .u8 s.att, .int .i64 r.x, .int .i64 r.y, .int .i64 r.w, .int .i64 r.h, v11, .int .i64 by0] L' L w X) => rput_any (q.r + 1) q.r q.W q.H q.vr L x y t s r X hc.pb.rb hS hs hr ht)
  rw [put_both (q := q) (L := L) (x := x) (y := y) (t := t) (s := s) (r := r) h.buf.wide h.buf.high ht] at HP
  generalize (putT q.W (letIn r q.W q.H) y (overS s) (farR x) L (flow t)).2 = L1 at *
  generalize putW (flow t) = pw at *
  clear h hS hs hr ht
  obtain ⟨sf, sb, sa⟩ := s
  obtain ⟨r1, r2, r3, r4⟩ := r
  dsimp only at *
  change Hid (∀ X, _ → Calls _ _ #[_, _, _, _, .agg #[.int .i32 sf, .int .i32 sb, .int .u8 sa], .agg #[.int .i64 r1, .int .i64 r2, .int .i64 r3, .int .i64 r4]] _ _) at HP
  change Hid (∀ L' X, _ → Calls _ _ #[_, _, _, _, .agg #[.int .i32 sf, .int .i32 sb, .int .u8 sa], .agg #[.int .i64 r1, .int .i64 r2, .int .i64 r3, .int .i64 r4]] _ _) at HR
  have HK := run.hid (fun L' R' X (hc : CX q w.heap.size #[.int .i64 1, .int .i64 x, .int .i64 y, .string t, .int .i32 sf, .int .i32 sb, .int .u8 sa, .int .i64 r1, .int .i64 r2, .int .i64 r3, .int .i64 r4, v11, .int .i64 by0] L' R' w X) =>
    (⟨hc.p0, hc.p1, hc.c 1, hc.c 2, hc.c 3, hc.c 4, hc.c 5, hc.c 6, hc.c 7, hc.c 8, hc.c 9, hc.c 10⟩ : X.cell? ⟨q.pb, 0, none⟩ = some (.pointer (some ⟨q.b, 0, none⟩)) ∧ X.cell? ⟨q.pb, 1, none⟩ = some (.pointer (some ⟨q.r, 0, none⟩)) ∧ X.cell? ⟨w.heap.size, 1, none⟩ = some (.int .i64 x) ∧ X.cell? ⟨w.heap.size, 2, none⟩ = some (.int .i64 y) ∧ X.cell? ⟨w.heap.size, 3, none⟩ = some (.string t) ∧ X.cell? ⟨w.heap.size, 4, none⟩ = some (.int .i32 sf) ∧ X.cell? ⟨w.heap.size, 5, none⟩ = some (.int .i32 sb) ∧ X.cell? ⟨w.heap.size, 6, none⟩ = some (.int .u8 sa) ∧ X.cell? ⟨w.heap.size, 7, none⟩ = some (.int .i64 r1) ∧ X.cell? ⟨w.heap.size, 8, none⟩ = some (.int .i64 r2) ∧ X.cell? ⟨w.heap.size, 9, none⟩ = some (.int .i64 r3) ∧ X.cell? ⟨w.heap.size, 10, none⟩ = some (.int .i64 r4)))
  have s0 := hC.c 0
  go_enter Tryz.func6, Tryz.ntmps6
  go_upto_region 1 with fail
  generalize w.alloc (.cells #[.int .i64 1, .int .i64 x, .int .i64 y, .string t, .int .i32 sf, .int .i32 sb, .int .u8 sa, .int .i64 r1, .int .i64 r2, .int .i64 r3, .int .i64 r4, v11, .int .i64 by0] 37) = w1 at *
  generalize hn : w.heap.size = n at *
  change w1.cell? _ = some (.int .i64 1) at s0
  go_upto_region 3 with fail
  clear s0
  go_region_held3 (fun X => X.cell? ⟨q.pb, 0, none⟩ = some (.pointer (some ⟨q.b, 0, none⟩)) ∧ X.cell? ⟨q.pb, 1, none⟩ = some (.pointer (some ⟨q.r, 0, none⟩)) ∧ X.cell? ⟨n, 1, none⟩ = some (.int .i64 x) ∧ X.cell? ⟨n, 2, none⟩ = some (.int .i64 y) ∧ X.cell? ⟨n, 3, none⟩ = some (.string t) ∧ X.cell? ⟨n, 4, none⟩ = some (.int .i32 sf) ∧ X.cell? ⟨n, 5, none⟩ = some (.int .i32 sb) ∧ X.cell? ⟨n, 6, none⟩ = some (.int .u8 sa) ∧ X.cell? ⟨n, 7, none⟩ = some (.int .i64 r1) ∧ X.cell? ⟨n, 8, none⟩ = some (.int .i64 r2) ∧ X.cell? ⟨n, 9, none⟩ = some (.int .i64 r3) ∧ X.cell? ⟨n, 10, none⟩ = some (.int .i64 r4))
    (first
      | assumption
      | exact HK.out _ _ _ (hC.below (Below.refl _ _).drew)
      | exact HK.out _ _ _ hC7
      | exact HK.out _ _ _ hC8
      | exact HK.out _ _ _ hC
      | (trace_state; fail))
    (first
      | (go_at_call 12; refine (HP.out _ (hC.below (Below.refl _ _).drew)).mono ?_; rintro e w7 ⟨rfl, hb7, hgd, hg7⟩; have hC7 := (hC.below (Below.refl _ _).drew).prog hb7 hg7)
      | (go_at_call 13; refine (HR.out _ _ hC7).mono ?_; rintro e w8 ⟨rfl, ⟨hb8, hs8⟩, hg8⟩; have hC8 := hC7.ref hb8 hg8))
  all_goals
    have HF := run.hid (hC8.after hs8 hm)
    clear hC hC7 hC8 HK HP HR hb7 hgd hg7 hb8 hs8 hg8
    go_wp2
    go_ret
    exact ⟨rfl, HF.out⟩
end Go.Proofs.YtdgcfmfjgidbjaaGreat.cel
end
section
namespace Go.Proofs.YtdgcfmfjgidbjaaGreat.cel
open Go Go.RowKit Go.Proofs
set_option linter.unusedVariables false
theorem fill_both {b g r W H : Nat} {B : Nat} {v : Value} {L : List CV} (hS : Strong W H L) (hW : W ≤ 4096) (hH : H ≤ 4096) (rc : RT) (s : SV) (hr : rc.wf) (hs : s.wf) : ∃ L1, Strong W H L1 ∧
    (∀ X, Buf X b g W H L → Calls Tryz.prog 14 #[.pointer (some ⟨b, 0, none⟩), rc.val, s.val] X fun e w' => e = .returned (.tuple #[]) ∧ Buf w' b g W H L1 ∧ X.grownBy w' (some g)) ∧
    (∀ X, RB X B r v W H L → Calls Tryz.prog 15 #[.pointer (some ⟨r, 0, none⟩), rc.val, s.val] X fun e w' => e = .returned (.tuple #[]) ∧ RB w' B r v W H L1 ∧ X.grownBy w' v.ownBlock) := by
  obtain ⟨X0, Y0, RW, RH, hl, hX, hY, hp⟩ := let_nat2 rc W H hW hH
  have hN := hS.nice (inD rc 0 true W)
  have hB := in_box hW hH hl hX hY 0
  obtain ⟨h1, h2⟩ := nice_part hN hX hp hB RH (Nat.le_refl _) hY
  refine ⟨_, (nice_fill h1 (unit1_blank s) hX hY hB h2 RH (Nat.le_refl _)).1.strong, fun X hb => fill_any b g W H L rc s X0 Y0 RW RH X hb hN.good hr hl hX hY, fun X hb => ?_⟩
  have h3 := rfill_any B r W H v L rc s X hb hS hr hs
  rw [← fill_eq hS hW hH hl hX hY hp (blankT s)] at h3
  exact h3
theorem shift_both {b g r W H : Nat} {B : Nat} {v : Value} {L : List CV} (hS : Strong W H L) (hW : W ≤ 4096) (hH : H ≤ 4096) (rc : RT) (by0 : Int) (s : SV) (hr : rc.wf) (hs : s.wf) : ∃ L1, Strong W H L1 ∧
    (∀ X, Buf X b g W H L → Calls Tryz.prog 20 #[.pointer (some ⟨b, 0, none⟩), rc.val, .int .i64 by0, s.val] X fun e w' => e = .returned (.tuple #[]) ∧ Buf w' b g W H L1 ∧ X.grownBy w' (some g)) ∧
    (∀ X, RB X B r v W H L → Calls Tryz.prog 21 #[.pointer (some ⟨r, 0, none⟩), rc.val, .int .i64 by0, s.val] X fun e w' => e = .returned (.tuple #[]) ∧ RB w' B r v W H L1 ∧ X.grownBy w' v.ownBlock) := by
  obtain ⟨X0, Y0, RW, RH, hl, hX, hY, hp⟩ := let_nat2 rc W H hW hH
  have hN := hS.nice (inD rc 0 true W)
  have hB := in_box hW hH hl hX hY 0
  obtain ⟨h1, h2⟩ := nice_part hN hX hp hB RH (Nat.le_refl _) hY
  refine ⟨_, (nice_shift h1 h1.sf (unit1_blank s) hX hY hB h2 h2 RH (Nat.le_refl _)).1.strong, fun X hb => shift_any b g W H L rc by0 s X0 Y0 RW RH X hb hN.good hr hl hX hY hp, fun X hb => ?_⟩
  have h3 := rshift_any B r W H v L rc by0 s X hb hS hr hs
  rw [← shift_eq hS hW hH hl hX hY hp (blankT s) by0] at h3
  exact h3
set_option maxRecDepth 100000 in
set_option maxHeartbeats 4000000 in
theorem pst_fill (q : PR) (L : List CV) (w : World) (h : PB q L L w) (hS : Strong q.W q.H L) (hm : q.m = q.n) (x y : Int) (t : ByteArray) (s : SV) (r : RT) (v11 : Value) (by0 : Int) (hs : s.wf) (hr : r.wf) :
    Calls Tryz.prog 6 #[.pointer (some ⟨q.pb, 0, none⟩), .agg #[.int .i64 2, .int .i64 x, .int .i64 y, .string t, .int .i32 s.fg, .int .i32 s.bg, .int .u8 s.att, .int .i64 r.x, .int .i64 r.y, .int .i64 r.w, .int .i64 r.h, v11, .int .i64 by0]] w fun e w' => e = .returned (.bool true) ∧ After q w w' := by
  obtain ⟨L1, hs1, hP, hR⟩ := fill_both (b := q.b) (g := q.g) (r := q.r) (B := q.r + 1) (v := q.vr) hS h.buf.wide h.buf.high r s hr hs
  have HP := run.hid hP
  have HR := run.hid hR
  have HS1 := run.hid hs1
  clear hP hR hs1 hr hs hS
  obtain ⟨sf, sb, sa⟩ := s
  obtain ⟨r1, r2, r3, r4⟩ := r
  have hC := CX.start h #[.int .i64 2, .int .i64 x, .int .i64 y, .string t, .int .i32 sf, .int .i32 sb, .int .u8 sa, .int .i64 r1, .int .i64 r2, .int .i64 r3, .int .i64 r4, v11, .int .i64 by0]
  dsimp only at *
  change Hid (∀ X, _ → Calls _ _ #[_, .agg #[.int .i64 r1, .int .i64 r2, .int .i64 r3, .int .i64 r4], .agg #[.int .i32 sf, .int .i32 sb, .int .u8 sa]] _ _) at HP
  change Hid (∀ X, _ → Calls _ _ #[_, .agg #[.int .i64 r1, .int .i64 r2, .int .i64 r3, .int .i64 r4], .agg #[.int .i32 sf, .int .i32 sb, .int .u8 sa]] _ _) at HR
  clear h
  have HK := run.hid (fun L' R' X (hc : CX q w.heap.size #[.int .i64 2, .int .i64 x, .int .i64 y, .string t, .int .i32 sf, .int .i32 sb, .int .u8 sa, .int .i64 r1, .int .i64 r2, .int .i64 r3, .int .i64 r4, v11, .int .i64 by0] L' R' w X) =>
    (⟨hc.p0, hc.p1, hc.c 4, hc.c 5, hc.c 6, hc.c 7, hc.c 8, hc.c 9, hc.c 10⟩ : X.cell? ⟨q.pb, 0, none⟩ = some (.pointer (some ⟨q.b, 0, none⟩)) ∧ X.cell? ⟨q.pb, 1, none⟩ = some (.pointer (some ⟨q.r, 0, none⟩)) ∧ X.cell? ⟨w.heap.size, 4, none⟩ = some (.int .i32 sf) ∧ X.cell? ⟨w.heap.size, 5, none⟩ = some (.int .i32 sb) ∧ X.cell? ⟨w.heap.size, 6, none⟩ = some (.int .u8 sa) ∧ X.cell? ⟨w.heap.size, 7, none⟩ = some (.int .i64 r1) ∧ X.cell? ⟨w.heap.size, 8, none⟩ = some (.int .i64 r2) ∧ X.cell? ⟨w.heap.size, 9, none⟩ = some (.int .i64 r3) ∧ X.cell? ⟨w.heap.size, 10, none⟩ = some (.int .i64 r4)))
  have s0 := hC.c 0
  go_enter Tryz.func6, Tryz.ntmps6
  go_upto_region 1 with fail
  generalize w.alloc (.cells #[.int .i64 2, .int .i64 x, .int .i64 y, .string t, .int .i32 sf, .int .i32 sb, .int .u8 sa, .int .i64 r1, .int .i64 r2, .int .i64 r3, .int .i64 r4, v11, .int .i64 by0] 37) = w1 at *
  generalize hn : w.heap.size = n at *
  change w1.cell? _ = some (.int .i64 2) at s0
  go_upto_region 5 with fail
  clear s0
  go_region_held3 (fun X => X.cell? ⟨q.pb, 0, none⟩ = some (.pointer (some ⟨q.b, 0, none⟩)) ∧ X.cell? ⟨q.pb, 1, none⟩ = some (.pointer (some ⟨q.r, 0, none⟩)) ∧ X.cell? ⟨n, 4, none⟩ = some (.int .i32 sf) ∧ X.cell? ⟨n, 5, none⟩ = some (.int .i32 sb) ∧ X.cell? ⟨n, 6, none⟩ = some (.int .u8 sa) ∧ X.cell? ⟨n, 7, none⟩ = some (.int .i64 r1) ∧ X.cell? ⟨n, 8, none⟩ = some (.int .i64 r2) ∧ X.cell? ⟨n, 9, none⟩ = some (.int .i64 r3) ∧ X.cell? ⟨n, 10, none⟩ = some (.int .i64 r4))
    (first
      | assumption
      | exact HK.out _ _ _ (hC.below (Below.refl _ _).drew)
      | exact HK.out _ _ _ hC7
      | exact HK.out _ _ _ (hC7.below (Below.refl _ _).drew)
      | exact HK.out _ _ _ hC8
      | exact HK.out _ _ _ hC
      | (trace_state; fail))
    (first
      | (go_at_call 14; refine (HP.out _ (hC.below (Below.refl _ _).drew).pb.buf).mono ?_; rintro e w7 ⟨rfl, hb7, hg7⟩; have hC7 := (hC.below (Below.refl _ _).drew).prog hb7 hg7))
  clear hC
  go_upto_region 6 with fail
  go_region_held3 (fun X => X.cell? ⟨q.pb, 0, none⟩ = some (.pointer (some ⟨q.b, 0, none⟩)) ∧ X.cell? ⟨q.pb, 1, none⟩ = some (.pointer (some ⟨q.r, 0, none⟩)) ∧ X.cell? ⟨n, 4, none⟩ = some (.int .i32 sf) ∧ X.cell? ⟨n, 5, none⟩ = some (.int .i32 sb) ∧ X.cell? ⟨n, 6, none⟩ = some (.int .u8 sa) ∧ X.cell? ⟨n, 7, none⟩ = some (.int .i64 r1) ∧ X.cell? ⟨n, 8, none⟩ = some (.int .i64 r2) ∧ X.cell? ⟨n, 9, none⟩ = some (.int .i64 r3) ∧ X.cell? ⟨n, 10, none⟩ = some (.int .i64 r4))
    (first
      | assumption
      | exact HK.out _ _ _ (hC.below (Below.refl _ _).drew)
      | exact HK.out _ _ _ hC7
      | exact HK.out _ _ _ (hC7.below (Below.refl _ _).drew)
      | exact HK.out _ _ _ hC8
      | exact HK.out _ _ _ hC
      | (trace_state; fail))
    (first
      | (go_at_call 15; refine (HR.out _ (hC7.below (Below.refl _ _).drew).pb.rb).mono ?_; rintro e w8 ⟨rfl, hb8, hg8⟩; have hC8 := (hC7.below (Below.refl _ _).drew).ref hb8 hg8))
  have HF := run.hid (hC8.after HS1.out hm)
  clear hC7 hC8 HK HP HR hb7 hg7 hb8 hg8
  go_wp2
  go_ret
  exact ⟨rfl, HF.out⟩
set_option maxRecDepth 100000 in
set_option maxHeartbeats 4000000 in
theorem pst_shift (q : PR) (L : List CV) (w : World) (h : PB q L L w) (hS : Strong q.W q.H L) (hm : q.m = q.n) (x y : Int) (t : ByteArray) (s : SV) (r : RT) (v11 : Value) (by0 : Int) (hs : s.wf) (hr : r.wf) :
    Calls Tryz.prog 6 #[.pointer (some ⟨q.pb, 0, none⟩), .agg #[.int .i64 4, .int .i64 x, .int .i64 y, .string t, .int .i32 s.fg, .int .i32 s.bg, .int .u8 s.att, .int .i64 r.x, .int .i64 r.y, .int .i64 r.w, .int .i64 r.h, v11, .int .i64 by0]] w fun e w' => e = .returned (.bool true) ∧ After q w w' := by
  obtain ⟨L1, hs1, hP, hR⟩ := shift_both (b := q.b) (g := q.g) (r := q.r) (B := q.r + 1) (v := q.vr) hS h.buf.wide h.buf.high r by0 s hr hs
  have HP := run.hid hP
  have HR := run.hid hR
  have HS1 := run.hid hs1
  clear hP hR hs1 hr hs hS
  obtain ⟨sf, sb, sa⟩ := s
  obtain ⟨r1, r2, r3, r4⟩ := r
  have hC := CX.start h #[.int .i64 4, .int .i64 x, .int .i64 y, .string t, .int .i32 sf, .int .i32 sb, .int .u8 sa, .int .i64 r1, .int .i64 r2, .int .i64 r3, .int .i64 r4, v11, .int .i64 by0]
  dsimp only at *
  change Hid (∀ X, _ → Calls _ _ #[_, .agg #[.int .i64 r1, .int .i64 r2, .int .i64 r3, .int .i64 r4], .int .i64 by0, .agg #[.int .i32 sf, .int .i32 sb, .int .u8 sa]] _ _) at HP
  change Hid (∀ X, _ → Calls _ _ #[_, .agg #[.int .i64 r1, .int .i64 r2, .int .i64 r3, .int .i64 r4], .int .i64 by0, .agg #[.int .i32 sf, .int .i32 sb, .int .u8 sa]] _ _) at HR
  clear h
  have HK := run.hid (fun L' R' X (hc : CX q w.heap.size #[.int .i64 4, .int .i64 x, .int .i64 y, .string t, .int .i32 sf, .int .i32 sb, .int .u8 sa, .int .i64 r1, .int .i64 r2, .int .i64 r3, .int .i64 r4, v11, .int .i64 by0] L' R' w X) =>
    (⟨hc.p0, hc.p1, hc.c 4, hc.c 5, hc.c 6, hc.c 7, hc.c 8, hc.c 9, hc.c 10, hc.c 12⟩ : X.cell? ⟨q.pb, 0, none⟩ = some (.pointer (some ⟨q.b, 0, none⟩)) ∧ X.cell? ⟨q.pb, 1, none⟩ = some (.pointer (some ⟨q.r, 0, none⟩)) ∧ X.cell? ⟨w.heap.size, 4, none⟩ = some (.int .i32 sf) ∧ X.cell? ⟨w.heap.size, 5, none⟩ = some (.int .i32 sb) ∧ X.cell? ⟨w.heap.size, 6, none⟩ = some (.int .u8 sa) ∧ X.cell? ⟨w.heap.size, 7, none⟩ = some (.int .i64 r1) ∧ X.cell? ⟨w.heap.size, 8, none⟩ = some (.int .i64 r2) ∧ X.cell? ⟨w.heap.size, 9, none⟩ = some (.int .i64 r3) ∧ X.cell? ⟨w.heap.size, 10, none⟩ = some (.int .i64 r4) ∧ X.cell? ⟨w.heap.size, 12, none⟩ = some (.int .i64 by0)))
  have s0 := hC.c 0
  go_enter Tryz.func6, Tryz.ntmps6
  go_upto_region 1 with fail
  generalize w.alloc (.cells #[.int .i64 4, .int .i64 x, .int .i64 y, .string t, .int .i32 sf, .int .i32 sb, .int .u8 sa, .int .i64 r1, .int .i64 r2, .int .i64 r3, .int .i64 r4, v11, .int .i64 by0] 37) = w1 at *
  generalize hn : w.heap.size = n at *
  change w1.cell? _ = some (.int .i64 4) at s0
  go_upto_region 18 with fail
  clear s0
  go_region_held3 (fun X => X.cell? ⟨q.pb, 0, none⟩ = some (.pointer (some ⟨q.b, 0, none⟩)) ∧ X.cell? ⟨q.pb, 1, none⟩ = some (.pointer (some ⟨q.r, 0, none⟩)) ∧ X.cell? ⟨n, 4, none⟩ = some (.int .i32 sf) ∧ X.cell? ⟨n, 5, none⟩ = some (.int .i32 sb) ∧ X.cell? ⟨n, 6, none⟩ = some (.int .u8 sa) ∧ X.cell? ⟨n, 7, none⟩ = some (.int .i64 r1) ∧ X.cell? ⟨n, 8, none⟩ = some (.int .i64 r2) ∧ X.cell? ⟨n, 9, none⟩ = some (.int .i64 r3) ∧ X.cell? ⟨n, 10, none⟩ = some (.int .i64 r4) ∧ X.cell? ⟨n, 12, none⟩ = some (.int .i64 by0))
    (first
      | assumption
      | exact HK.out _ _ _ (hC.below (Below.refl _ _).drew)
      | exact HK.out _ _ _ hC7
      | exact HK.out _ _ _ (hC7.below (Below.refl _ _).drew)
      | exact HK.out _ _ _ hC8
      | exact HK.out _ _ _ hC
      | (trace_state; fail))
    (first
      | (go_at_call 20; refine (HP.out _ (hC.below (Below.refl _ _).drew).pb.buf).mono ?_; rintro e w7 ⟨rfl, hb7, hg7⟩; have hC7 := (hC.below (Below.refl _ _).drew).prog hb7 hg7))
  clear hC
  go_upto_region 19 with fail
  go_region_held3 (fun X => X.cell? ⟨q.pb, 0, none⟩ = some (.pointer (some ⟨q.b, 0, none⟩)) ∧ X.cell? ⟨q.pb, 1, none⟩ = some (.pointer (some ⟨q.r, 0, none⟩)) ∧ X.cell? ⟨n, 4, none⟩ = some (.int .i32 sf) ∧ X.cell? ⟨n, 5, none⟩ = some (.int .i32 sb) ∧ X.cell? ⟨n, 6, none⟩ = some (.int .u8 sa) ∧ X.cell? ⟨n, 7, none⟩ = some (.int .i64 r1) ∧ X.cell? ⟨n, 8, none⟩ = some (.int .i64 r2) ∧ X.cell? ⟨n, 9, none⟩ = some (.int .i64 r3) ∧ X.cell? ⟨n, 10, none⟩ = some (.int .i64 r4) ∧ X.cell? ⟨n, 12, none⟩ = some (.int .i64 by0))
    (first
      | assumption
      | exact HK.out _ _ _ (hC.below (Below.refl _ _).drew)
      | exact HK.out _ _ _ hC7
      | exact HK.out _ _ _ (hC7.below (Below.refl _ _).drew)
      | exact HK.out _ _ _ hC8
      | exact HK.out _ _ _ hC
      | (trace_state; fail))
    (first
      | (go_at_call 21; refine (HR.out _ (hC7.below (Below.refl _ _).drew).pb.rb).mono ?_; rintro e w8 ⟨rfl, hb8, hg8⟩; have hC8 := (hC7.below (Below.refl _ _).drew).ref hb8 hg8))
  have HF := run.hid (hC8.after HS1.out hm)
  clear hC7 hC8 HK HP HR hb7 hg7 hb8 hg8
  go_wp2
  go_ret
  exact ⟨rfl, HF.out⟩
end Go.Proofs.YtdgcfmfjgidbjaaGreat.cel
end
section
namespace Go.Proofs.YtdgcfmfjgidbjaaGreat.run
open Go.RowKit Go.Proofs

theorem alone {P : Program} {c : Code} {R J K' : Act → World → Prop} {Q0 : Exit → Act → World → Prop} {a : Act} {w : World} (hJ : ∀ a w, Met J a w → K' a w) (hR : ∀ a w, R a w → J a w)
    (h : ∀ J K : Act → World → Prop, (∀ a w, R a w → J a w) → (∀ a w, Met J a w → K a w) → c.wp P (Exit.then K (fun _ _ _ => False)) a w) : c.wp P (Exit.then K' Q0) a w := by
  refine wp_mono (h J K' hR hJ) ?_
  intro e a' w' hq
  cases e with
  | normal => exact hq
  | exit id => exact hq.elim
  | goto l => exact hq.elim
  | ret => exact hq.elim
  | panic ch => exact hq.elim
  | outgrown => exact hq.elim
end Go.Proofs.YtdgcfmfjgidbjaaGreat.run
end
section
namespace Go.Proofs.YtdgcfmfjgidbjaaGreat.cel
open Go Go.RowKit Go.Proofs
set_option linter.unusedVariables false
set_option maxRecDepth 100000 in
set_option maxHeartbeats 4000000 in
theorem pst_other (q : PR) (L : List CV) (w : World) (h : PB q L L w) (hS : Strong q.W q.H L) (hm : q.m = q.n) (d : Int) (hd : ¬ (1 ≤ d ∧ d ≤ 7)) (v1 v2 v3 v4 v5 v6 v7 v8 v9 v10 v11 v12 : Value) :
    Calls Tryz.prog 6 #[.pointer (some ⟨q.pb, 0, none⟩), .agg #[.int .i64 d, v1, v2, v3, v4, v5, v6, v7, v8, v9, v10, v11, v12]] w fun e w' => e = .returned (.bool true) ∧ After q w w' := by
  have hC := CX.start h #[.int .i64 d, v1, v2, v3, v4, v5, v6, v7, v8, v9, v10, v11, v12]
  have s0 := hC.c 0
  have HF := run.hid (hC.after hS hm)
  have d1 : d ≠ 1 := by omega
  have d2 : d ≠ 2 := by omega
  have d3 : d ≠ 3 := by omega
  have d4 : d ≠ 4 := by omega
  have d5 : d ≠ 5 := by omega
  have d6 : d ≠ 6 := by omega
  have d7 : d ≠ 7 := by omega
  clear hd h hS hC
  go_enter Tryz.func6, Tryz.ntmps6
  go_upto_region 1 with fail
  generalize w.alloc (.cells #[.int .i64 d, v1, v2, v3, v4, v5, v6, v7, v8, v9, v10, v11, v12] 37) = w1 at *
  generalize hn : w.heap.size = n at *
  change w1.cell? _ = some (.int .i64 d) at s0
  go_wp2
  go_ret
  exact ⟨rfl, HF.out⟩
set_option maxRecDepth 100000 in
set_option maxHeartbeats 4000000 in
theorem pst_size (q : PR) (L : List CV) (w : World) (h : PB q L L w) (hS : Strong q.W q.H L) (hm : q.m = q.n) (v1 v2 v3 v4 v5 v6 v7 v8 v9 v10 v11 v12 : Value) :
    Calls Tryz.prog 6 #[.pointer (some ⟨q.pb, 0, none⟩), .agg #[.int .i64 7, v1, v2, v3, v4, v5, v6, v7, v8, v9, v10, v11, v12]] w fun e w' => e = .returned (.bool true) ∧ After q w w' := by
  have hC := CX.start h #[.int .i64 7, v1, v2, v3, v4, v5, v6, v7, v8, v9, v10, v11, v12]
  have s0 := hC.c 0
  have HP := run.hid (fun X (hc : CX q w.heap.size #[.int .i64 7, v1, v2, v3, v4, v5, v6, v7, v8, v9, v10, v11, v12] L L w X) => size_any q.b q.g q.W q.H L X hc.pb.buf)
  have HK := run.hid (fun X (hc : CX q w.heap.size #[.int .i64 7, v1, v2, v3, v4, v5, v6, v7, v8, v9, v10, v11, v12] L L w X) =>
    (⟨hc.p0, hc.p1, (blk3 hc.pb.rb.box).1.1, (blk3 hc.pb.rb.box).1.2.1⟩ : X.cell? ⟨q.pb, 0, none⟩ = some (.pointer (some ⟨q.b, 0, none⟩)) ∧ X.cell? ⟨q.pb, 1, none⟩ = some (.pointer (some ⟨q.r, 0, none⟩)) ∧ X.cell? ⟨q.r, 0, none⟩ = some (.int .i64 q.W) ∧ X.cell? ⟨q.r, 1, none⟩ = some (.int .i64 q.H)))
  have HSS := run.hid hS
  clear h hS
  generalize hWW : ((q.W : Nat) : Int) = WW at *
  generalize hHH : ((q.H : Nat) : Int) = HH at *
  go_enter Tryz.func6, Tryz.ntmps6
  go_upto_region 1 with fail
  generalize w.alloc (.cells #[.int .i64 7, v1, v2, v3, v4, v5, v6, v7, v8, v9, v10, v11, v12] 37) = w1 at *
  generalize hn : w.heap.size = n at *
  change w1.cell? _ = some (.int .i64 7) at s0
  go_upto_region 31 with fail
  clear s0 hWW hHH
  go_region_held3 (fun X => X.cell? ⟨q.pb, 0, none⟩ = some (.pointer (some ⟨q.b, 0, none⟩)) ∧ X.cell? ⟨q.pb, 1, none⟩ = some (.pointer (some ⟨q.r, 0, none⟩)) ∧ X.cell? ⟨q.r, 0, none⟩ = some (.int .i64 WW) ∧ X.cell? ⟨q.r, 1, none⟩ = some (.int .i64 HH))
    (first
      | assumption
      | exact HK.out _ (hC.below (Below.refl _ _).drew)
      | exact HK.out _ hC7
      | exact HK.out _ hC
      | (trace_state; fail))
    (first
      | (go_at_call 27; refine (HP.out _ (hC.below (Below.refl _ _).drew)).mono ?_; rintro e w7 ⟨rfl, hb7⟩; have hC7 := (hC.below (Below.refl _ _).drew).below hb7))
  all_goals
    have HF := run.hid (hC7.after HSS.out hm)
    clear hC hC7 HK HP hb7
    go_wp2
    go_ret
    exact ⟨rfl, HF.out⟩
/-- what both tell of a place -/
theorem cell_both {b g r W H B : Nat} {v : Value} {L : List CV} (x y : Int) : ∃ (c : CV) (ok : Bool), (∀ X, Buf X b g W H L → Calls Tryz.prog 22 #[.pointer (some ⟨b, 0, none⟩), .int .i64 x, .int .i64 y] X fun e w' => e = .returned (.tuple #[c.val, .bool ok]) ∧ Below X.heap.size X w') ∧
    (∀ X, RB X B r v W H L → Calls Tryz.prog 23 #[.pointer (some ⟨r, 0, none⟩), .int .i64 x, .int .i64 y] X fun e w' => e = .returned (.tuple #[c.val, .bool ok]) ∧ Below X.heap.size X w') := by
  by_cases hi : 0 ≤ x ∧ x < W ∧ 0 ≤ y ∧ y < H
  · obtain ⟨x', rfl⟩ : ∃ n : Nat, x = n := ⟨x.toNat, by omega⟩
    obtain ⟨y', rfl⟩ : ∃ n : Nat, y = n := ⟨y.toNat, by omega⟩
    exact ⟨_, true, fun X h => cell_in b g W H L x' y' X h (by omega) (by omega), fun X h => rcell_in B r W H v L x' y' X h (by omega) (by omega)⟩
  · exact ⟨z0, false, fun X h => cell_out b g W H L x y X h hi, fun X h => rcell_out B r W H v L x y X h hi⟩
end Go.Proofs.YtdgcfmfjgidbjaaGreat.cel
end
