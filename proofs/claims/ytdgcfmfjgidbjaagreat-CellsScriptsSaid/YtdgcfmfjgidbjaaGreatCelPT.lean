/-
  A pair of buffers: a row more is told.
-/
import Derived.Test.YtdgcfmfjgidbjaaGreatCelPall
namespace Go.Proofs.YtdgcfmfjgidbjaaGreat.cel
open Go Go.RowKit Go.Proofs
set_option linter.unusedVariables false
section
variable {q : PR} {L R : List CV} {w w' : World}
theorem own_keptC {S : Nat → Prop} {B e sz n : Nat} {v : Value} {xs : List Value} (h : w.ownsRow B e sz v n xs) (hk : KeptC S w w') (hv : ∀ k, v.ownBlock = some k → ¬ S k) : w'.ownsRow B e sz v n xs := by
  refine ⟨h.1, ?_⟩
  rcases h.2 with h0 | ⟨g, cap, cur, e1, e2, e3, e4⟩
  · exact .inl h0
  · exact .inr ⟨g, cap, cur, e1, e2, (hk.block g (Array.getElem?_eq_some_iff.1 e3).1 (hv g (by rw [e1]; rfl))).trans e3, e4⟩
/-- what stays where the pair's box and one of its lists are turned -/
structure Parts (q : PR) (L R : List CV) (w : World) : Prop where
  buf : Buf w q.b q.g q.W q.H L
  rb : RB w (q.r + 1) q.r q.vr q.W q.H R
  tr : ∀ j, j < q.n → w.ownsRow q.B 59 5 (q.V j) (q.W * q.H) (cells5 (q.Ls j))
  ur : ∀ j, j < q.m → w.ownsRow q.B 59 5 (q.U j) (q.W * q.H) (cells5 (q.Ls j))
theorem PB.parts {S : Nat → Prop} (h : PB q L R w) (hk : KeptC S w w') {vl : Value} {nl : Nat} {xl : List Value} (hl : w.ownsRow q.B 35 1 vl nl xl) (hS : ∀ k, S k → k = q.pb ∨ vl.ownBlock = some k) : Parts q L R w' := by
  have h1 := h.gr
  have h2 := h.br
  have h3 := h.rp
  have h4 := h.pB
  have hlo : ∀ k, k < q.pb → ¬ S k := fun k hk hs => by
    rcases hS k hs with e | e
    · omega
    · have := (hl.lt k e).1
      omega
  have hcell : ∀ {n : Nat} {v : Value} {xs : List Value}, w.ownsRow q.B 59 5 v n xs → ∀ k, v.ownBlock = some k → ¬ S k := fun ho k hk hs => by
    rcases hS k hs with e | e
    · have := (ho.lt k hk).1
      omega
    · exact run.own_apart ho hl (by decide) k hk e
  have hbl : ∀ k, k < q.pb → w'.heap[k]? = w.heap[k]? := fun k hlt => hk.block k (Nat.lt_trans hlt (h.lt (.inl rfl))) (hlo k hlt)
  exact ⟨h.buf.of_blocks (hbl _ (by omega)) (hbl _ (by omega)), ⟨(hbl _ (by omega)).trans h.rb.box, own_keptC h.rb.row hk (fun k hk => hlo k (h.vp k hk)), h.rb.len, h.rb.ne, h.rb.wide, h.rb.high, h.rb.size⟩, fun j hj => own_keptC (h.tr j hj) hk (hcell (h.tr j hj)), fun j hj => own_keptC (h.ur j hj) hk (hcell (h.ur j hj))⟩
def PR.tellV (q : PR) (v vt : Value) (Lc : List CV) : PR := { q with vt := vt, n := q.n + 1, V := fun j => if j = q.n then v else q.V j, Ls := fun j => if j = q.n then Lc else q.Ls j }
def PR.tellW (q : PR) (u vw : Value) : PR := { q with vw := vw, m := q.m + 1, U := fun j => if j = q.m then u else q.U j }
/-- the program's row is told -/
theorem PB.tellV (h : PB q L R w) (hm : q.m = q.n) {S : Nat → Prop} {v vt : Value} {Lc : List CV} (hk : KeptC S w w') (hS : ∀ k, S k → k = q.pb ∨ q.vt.ownBlock = some k)
    (hbox : w'.heap[q.pb]? = some (.cells #[.pointer (some ⟨q.b, 0, none⟩), .pointer (some ⟨q.r, 0, none⟩), vt, q.vw] 51 (0, 0)))
    (hvt : w'.ownsRow q.B 35 1 vt (q.n + 1) (vals q.V q.n ++ [v])) (hst : run.Step w q.vt q.n vt (q.n + 1)) (hv : w.ownsRow q.B 59 5 v (q.W * q.H) (cells5 Lc)) (hvn : ∀ k, v.ownBlock = some k → ¬ q.blk k) (hlc : Lc.length = q.W * q.H) : PB (q.tellV v vt Lc) L R w' := by
  have hp := h.parts hk h.told hS
  have h4 := h.pB
  have hvt2 : ∀ k, vt.ownBlock = some k → q.vt.ownBlock = some k ∨ w.heap.size ≤ k := fun k e => by
    rcases hst with ⟨g, cap, e1, e2⟩ | h2
    · rw [e2] at e
      rw [e1]
      exact .inl e
    · exact .inr (h2 k e)
  refine ⟨hbox, hp.buf, hp.rb, ?_, own_keptC h.want hk (fun k e hs => ?_), fun j hj => ?_, fun j hj => ?_, fun j hj => ?_, fun i j hi hj hne k e1 e2 => ?_, fun k e1 e2 => ?_, h.gr, h.br, h.rp, h.vp, h.pB, Nat.le_trans h.Bw hk.size⟩
  · show w'.ownsRow q.B _ 1 vt (q.n + 1) (vals (fun j => if j = q.n then v else q.V j) (q.n + 1))
    rw [vals_next]
    exact hvt
  · rcases hS k hs with e2 | e2
    · have := (h.want.lt k e).1
      omega
    · exact h.tw k e2 e
  · show w'.ownsRow q.B _ 5 (if j = q.n then v else q.V j) _ (cells5 (if j = q.n then Lc else q.Ls j))
    by_cases hj2 : j = q.n
    · rw [if_pos hj2, if_pos hj2]
      refine own_keptC hv hk (fun k e hs => ?_)
      rcases hS k hs with e2 | e2
      · have := (hv.lt k e).1
        omega
      · exact run.own_apart hv h.told (by decide) k e e2
    · rw [if_neg hj2, if_neg hj2]
      have : j < q.n + 1 := hj
      exact hp.tr j (by omega)
  · show w'.ownsRow q.B _ 5 (q.U j) _ (cells5 (if j = q.n then Lc else q.Ls j))
    have : j < q.m := hj
    rw [if_neg (by omega)]
    exact hp.ur j hj
  · show (if j = q.n then Lc else q.Ls j).length = q.W * q.H
    have : j < q.n + 1 ∨ j < q.m := hj
    split
    · exact hlc
    · exact h.ll j (by omega)
  · have hi2 : i < q.n + 1 := hi
    have hj2 : j < q.n + 1 := hj
    replace e1 : (if i = q.n then v else q.V i).ownBlock = some k := e1
    replace e2 : (if j = q.n then v else q.V j).ownBlock = some k := e2
    by_cases hi3 : i = q.n
    · rw [if_pos hi3] at e1
      rw [if_neg (by omega)] at e2
      exact hvn k e1 (.inr (.inr (.inr (.inr (.inr (.inr (.inr (.inl ⟨j, by omega, e2⟩))))))))
    · rw [if_neg hi3] at e1
      by_cases hj3 : j = q.n
      · rw [if_pos hj3] at e2
        exact hvn k e2 (.inr (.inr (.inr (.inr (.inr (.inr (.inr (.inl ⟨i, by omega, e1⟩))))))))
      · rw [if_neg hj3] at e2
        exact h.ap i j (by omega) (by omega) hne k e1 e2
  · rcases hvt2 k e1 with e3 | e3
    · exact h.tw k e3 e2
    · have := (h.want.lt k e2).2
      omega
/-- the document's row is told -/
theorem PB.tellW (h : PB q L R w) (hm : q.n = q.m + 1) {S : Nat → Prop} {u vw : Value} (hk : KeptC S w w') (hS : ∀ k, S k → k = q.pb ∨ q.vw.ownBlock = some k)
    (hbox : w'.heap[q.pb]? = some (.cells #[.pointer (some ⟨q.b, 0, none⟩), .pointer (some ⟨q.r, 0, none⟩), q.vt, vw] 51 (0, 0)))
    (hvw : w'.ownsRow q.B 35 1 vw (q.m + 1) (vals q.U q.m ++ [u])) (hst : run.Step w q.vw q.m vw (q.m + 1)) (hu : w.ownsRow q.B 59 5 u (q.W * q.H) (cells5 (q.Ls q.m))) : PB (q.tellW u vw) L R w' := by
  have hp := h.parts hk h.want hS
  have h4 := h.pB
  have hvw2 : ∀ k, vw.ownBlock = some k → q.vw.ownBlock = some k ∨ w.heap.size ≤ k := fun k e => by
    rcases hst with ⟨g, cap, e1, e2⟩ | h2
    · rw [e2] at e
      rw [e1]
      exact .inl e
    · exact .inr (h2 k e)
  refine ⟨hbox, hp.buf, hp.rb, own_keptC h.told hk (fun k e hs => ?_), ?_, hp.tr, fun j hj => ?_, fun j hj => ?_, h.ap, fun k e1 e2 => ?_, h.gr, h.br, h.rp, h.vp, h.pB, Nat.le_trans h.Bw hk.size⟩
  · rcases hS k hs with e2 | e2
    · have := (h.told.lt k e).1
      omega
    · exact h.tw k e e2
  · show w'.ownsRow q.B _ 1 vw (q.m + 1) (vals (fun j => if j = q.m then u else q.U j) (q.m + 1))
    rw [vals_next]
    exact hvw
  · show w'.ownsRow q.B _ 5 (if j = q.m then u else q.U j) _ (cells5 (q.Ls j))
    by_cases hj2 : j = q.m
    · rw [if_pos hj2, hj2]
      refine own_keptC hu hk (fun k e hs => ?_)
      rcases hS k hs with e2 | e2
      · have := (hu.lt k e).1
        omega
      · exact run.own_apart hu h.want (by decide) k e e2
    · rw [if_neg hj2]
      have : j < q.m + 1 := hj
      exact hp.ur j (by omega)
  · have : j < q.n ∨ j < q.m + 1 := hj
    exact h.ll j (by omega)
  · rcases hvw2 k e2 with e3 | e3
    · exact h.tw k e1 e3
    · have := (h.told.lt k e1).2
      omega
end
/-- two screens of the same cells -/
def scrA (W H : Nat) (v : Value) : Array Value := #[.int .i64 W, .int .i64 H, v, .int .i64 0, .int .i64 0, .bool false]
set_option maxRecDepth 100000 in
set_option maxHeartbeats 4000000 in
theorem samescr_any (W H : Nat) (a1 a2 : Option Addr) (c1 c2 : Nat) (L : List CV) (w : World) (h1 : Reads5 w (.slice a1 L.length c1) L) (h2 : Reads5 w (.slice a2 L.length c2) L) (hN : L.length ≤ 140737488355328) :
    Calls Tryz.prog 26 #[.agg (scrA W H (.slice a1 L.length c1)), .agg (scrA W H (.slice a2 L.length c2))] w fun e w' => e = .returned (.bool true) ∧ Below w.heap.size w w' := by
  have hb := run.below_two w (.cells (scrA W H (.slice a1 L.length c1)) 64) (.cells (scrA W H (.slice a2 L.length c2)) 64)
  have k1 := heap_alloc2_old w (.cells (scrA W H (.slice a1 L.length c1)) 64) (.cells (scrA W H (.slice a2 L.length c2)) 64)
  have k2 := heap_alloc2_new w (.cells (scrA W H (.slice a1 L.length c1)) 64) (.cells (scrA W H (.slice a2 L.length c2)) 64)
  have HS := run.hid (same_any a1 a2 c1 c2 L L _ (h1.below hb) (h2.below hb) hN)
  rw [decide_eq_true rfl] at HS
  clear h1 h2
  unfold scrA at *
  generalize L.length = N at *
  have HB := run.hid hb
  obtain ⟨⟨d0, d1, d2, d3, d4, d5⟩, -⟩ := blk6 k1
  obtain ⟨⟨e0, e1, e2, e3, e4, e5⟩, -⟩ := blk6 k2
  clear k1 k2 hb
  go_enter Tryz.func26, Tryz.ntmps26
  go_upto_region 1 with fail
  generalize (w.alloc (.cells #[.int .i64 W, .int .i64 H, .slice a1 N c1, .int .i64 0, .int .i64 0, .bool false] 64)).alloc (.cells #[.int .i64 W, .int .i64 H, .slice a2 N c2, .int .i64 0, .int .i64 0, .bool false] 64) = w1 at *
  go_wp2_with fail
  refine HS.out.mono ?_
  rintro e w2 ⟨rfl, hb2⟩
  have HE := run.hid (HB.out.trans (hb2.mono HB.out.size))
  clear hb2 HS HB d0 d1 d2 d3 d4 d5 e0 e1 e2 e3 e4 e5
  go_wp2
  go_ret
  exact ⟨rfl, HE.out⟩
end Go.Proofs.YtdgcfmfjgidbjaaGreat.cel
