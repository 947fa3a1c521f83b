/-
  CanvasPlays: its arguments opened; the walk of the law.
-/
import Derived.Test.YtbfheehaagcmeaaDoorCanOpen
import Derived.Deep.Slices
import Derived.JoinedCond
import Derived.Test.YtbfheehaagcmeaaDoorCanPlayB
import Derived.Test.YtbfheehaagcmeaaDoorCanRefB
namespace Go.Proofs.YtbfheehaagcmeaaDoor.can
open Go.ChangeShapes Go.WideShapes Go.ChangeAt Go.RowKit Go.Proofs Go.Joins
set_option linter.unusedVariables false

/-- all weights are within reach -/
def Within {H : Type} (P : Program) (t : TypeId) (d : DataW H) : Prop := ∀ n ∈ d.weights P t, n ≤ reachBytes
section
variable {H : Type} {enc : TypeId × Value → H} {P : Program} {w : World} {base : Nat} {spare : Nat → Bool} {held : Bool}

theorem weights_all {e : TypeId} {n : Nat} : ∀ {l : List (DataW H)} {d : DataW H}, d ∈ l → n ∈ d.weights P e → n ∈ DataW.weightsAll P e l
  | c :: l, d, h, hn => by
    rw [DataW.weightsAll, List.mem_append]
    rcases List.mem_cons.1 h with rfl | h
    · exact .inl hn
    · exact .inr (weights_all h hn)
theorem fields_within {t : TypeId} {fs : Array Field} {fuel : Nat} {cs : List Value} {x : DataW H × List MemPlace} (ht : P.underlying t = some (.struct fs)) (hw : Within P t x.1) (h : DataW.trod enc P w base spare held fuel t cs = some x) :
    cs.length = P.cellsOf t ∧ ∃ n, ∀ (i : Nat) (f : Field), fs[i]? = some f → ∃ y, DataW.trod enc P w base spare held n f.type ((cs.drop f.offset).take (P.cellsOf f.type)) = some y ∧ Within P f.type y.1 := by
  obtain ⟨xs, n, -, rfl, hl, hx, hf⟩ := DataW.trod_struct ht h
  refine ⟨hl, n, fun i f hi => ?_⟩
  have hlt := (Array.getElem?_eq_some_iff.1 hi).1
  have hxi : xs[i]? = some xs[i] := List.getElem?_eq_getElem (by omega)
  rw [hf i f hi]
  refine ⟨xs[i], hxi, fun m hm => hw m ?_⟩
  simp only [DataW.weights, ht]
  exact DataW.weights_mem_each (j := i) (t := f.type) (d := xs[i].1) (ts := fs.toList.map (·.type)) (by rw [List.getElem?_map, Array.getElem?_toList, hi]; rfl) (by rw [List.getElem?_map, hxi]; rfl) m hm
theorem slice_within {t e : TypeId} {fuel : Nat} {cs : List Value} {x : DataW H × List MemPlace} (ht : P.underlying t = some (.slice e)) (hw : Within P t x.1) (h : DataW.trod enc P w base (fun _ => true) held fuel t cs = some x) :
    (cs = [.slice none 0 0]) ∨
    ∃ (a : Addr) (len cap n : Nat), cs = [.slice (some a) len cap] ∧ base ≤ a.block ∧ len ≤ cap ∧ cap ≤ maxLen ∧ cap * P.bytesOf e ≤ reachBytes ∧
      ∀ i, i < cap → ∃ cs' y, w.cells? base (a.add (i * P.cellsOf e)) (P.cellsOf e) = some cs' ∧ DataW.trod enc P w base (fun _ => true) held n e cs' = some y ∧ Within P e y.1 := by
  rcases Go.Deep.open_slice ht h with ⟨rfl, -⟩ | ⟨a, len, cap, m, n, D, Pl, rfl, hb, hl, hm, hmm, rfl, hi⟩
  · exact .inl rfl
  · simp only [if_true] at hmm
    obtain rfl : cap = m := hmm.symm
    simp only [Within, DataW.weights, ht] at hw
    refine .inr ⟨a, len, cap, n, rfl, hb, hl, hm, ?_, fun i hic => ?_⟩
    · have := hw _ (List.mem_cons_self)
      simp only [List.length_map, List.length_range] at this
      rwa [show len + (cap - len) = cap by omega] at this
    · obtain ⟨cs', h1, h2⟩ := hi i hic
      refine ⟨cs', _, h1, h2, fun k hk => hw k (List.mem_cons_of_mem _ ?_)⟩
      rw [List.mem_append]
      by_cases hil : i < len
      · exact .inl (weights_all (List.mem_map.2 ⟨i, by simpa using hil, rfl⟩) hk)
      · exact .inr (weights_all (List.mem_map.2 ⟨i - len, by simp; omega, by rw [show len + (i - len) = i by omega]⟩) hk)
end
section
variable {H : Type} {enc : TypeId × Value → H} {W : World} {base : Nat}
set_option maxRecDepth 100000 in
theorem points_within {fuel : Nat} {cs : List Value} {z : DataW H × List MemPlace} (hs : Within Tryd.prog 33 z.1) (hf : DataW.trod enc Tryd.prog W base (fun _ => true) true fuel 33 cs = some z) :
    ∃ (a : Option Addr) (cap : Nat) (l : List (Nat × Nat)), cs = [.slice a l.length cap] ∧ run.ReadsN 2 W (.slice a l.length cap) l.length (cellsP l) ∧ l.length * 16 ≤ 140737488351232 := by
  rcases Go.Deep.open_slice_pairs Tryd.underlying33 Tryd.underlying82 (by kernel_rfl) rfl rfl (by kernel_rfl) (by kernel_rfl) hf with ⟨hcs, hx⟩ | ⟨x, len, cap, m, n, V0, V1, D0, D1, P0, P1, hcs, -, hl, hm, hmm, hx, hi⟩
  · subst hcs
    exact ⟨none, 0, [], rfl, ⟨by simp [cellsP], none, 0, rfl, fun h => absurd rfl h, fun _ => rfl⟩, by simp⟩
  · simp only [if_true] at hmm
    obtain rfl : cap = m := hmm.symm
    subst hcs
    obtain ⟨f0, hf0⟩ := choose_nat fun i (h : i < cap) => trod_float Tryd.underlying45 (hi i h).2.2.1
    obtain ⟨f1, hf1⟩ := choose_nat fun i (h : i < cap) => trod_float Tryd.underlying45 (hi i h).2.2.2
    have hd : z.1 = _ := congrArg Prod.fst hx
    have hw : cap * 16 ≤ 140737488351232 := by
      refine Nat.le_trans (hs _ ?_) (Nat.le_of_eq rfl)
      rw [hd]
      simp only [DataW.weights, Tryd.underlying33]
      apply List.mem_cons.2
      left
      have hb : Tryd.prog.bytesOf 82 = 16 := by kernel_rfl
      rw [hb]
      simp only [List.length_map, List.length_range]
      congr 1; omega
    let ls : List (Nat × Nat) := (List.range len).map fun i => (f0 i, f1 i)
    have hls : ls.length = len := by simp [ls]
    refine ⟨some x, cap, ls, by rw [hls], ⟨cellsP_len ls, some x, cap, by rw [hls], fun hne => ?_, fun h => by cases h⟩, by rw [hls]; have := Nat.mul_le_mul_right 16 hl; omega⟩
    have h0 : 0 < len := by
      rcases Nat.eq_zero_or_pos len with e | e
      · exfalso; apply hne; have : ls = [] := by simp [ls, e]
        rw [this]; rfl
      · exact e
    obtain ⟨b, off, spot⟩ := x
    have h00 := (hi 0 (by omega)).1
    have hspot : spot = none := by simpa [Addr.add] using World.cell?_spot h00
    subst hspot
    refine ⟨b, off, rfl, ?_, fun i u hu => ?_⟩
    · rw [run.add_none] at h00
      exact run.lt_of_cell h00
    · have hil : i < ls.length * 2 := by
        rw [← cellsP_len]
        rcases Nat.lt_or_ge i (cellsP ls).length with h | h
        · exact h
        · rw [List.getElem?_eq_none h] at hu; cases hu
      have hk : i / 2 < ls.length := by omega
      have hat := cellsP_at ls (i / 2) hk
      have hget : ls.getD (i / 2) (0, 0) = (f0 (i / 2), f1 (i / 2)) := by simp [ls, List.getD_eq_getElem?_getD, show i / 2 < len by omega]
      rw [hget] at hat
      obtain ⟨g1, g2, -, -⟩ := hi (i / 2) (by omega)
      rw [run.add_none] at g1 g2
      rw [hf0 (i / 2) (by omega)] at g1
      rw [hf1 (i / 2) (by omega)] at g2
      rcases (show i = i / 2 * 2 ∨ i = i / 2 * 2 + 1 by omega) with e | e
      · rw [e] at hu ⊢
        rw [hat.1] at hu
        rw [g1, ← hu]
      · rw [e] at hu ⊢
        rw [hat.2] at hu
        rw [← Nat.add_assoc, ← hu]
        rw [← Nat.add_assoc] at g2
        exact g2


/-- a step of a script -/
structure PV where
  d : Int
  k : Int
  x : Int
  y : Int
  u : Int
  v : Int
  a : Option Addr
  l : List (Nat × Nat)
  c : Nat
def pv0 : PV := ⟨0, 0, 0, 0, 0, 0, none, [], 0⟩
def PV.cells (q : PV) : Array Value := #[.int .i64 q.d, .int .i64 q.k, .int .i64 q.x, .int .i64 q.y, .int .i64 q.u, .int .i64 q.v, .slice q.a q.l.length q.c]
def PV.fine (w : World) (q : PV) : Prop := (-9223372036854775808 ≤ q.k ∧ q.k ≤ 9223372036854775807) ∧ run.ReadsN 2 w (.slice q.a q.l.length q.c) q.l.length (cellsP q.l) ∧ q.l.length * 16 ≤ 140737488351232
/-- a step as it lies in memory -/
def Cell7 (w : World) (b o : Nat) (q : PV) : Prop :=
  w.cell? ⟨b, o, none⟩ = some (.int .i64 q.d) ∧ w.cell? ⟨b, o + 1, none⟩ = some (.int .i64 q.k) ∧ w.cell? ⟨b, o + 2, none⟩ = some (.int .i64 q.x) ∧ w.cell? ⟨b, o + 3, none⟩ = some (.int .i64 q.y) ∧ w.cell? ⟨b, o + 4, none⟩ = some (.int .i64 q.u) ∧ w.cell? ⟨b, o + 5, none⟩ = some (.int .i64 q.v) ∧ w.cell? ⟨b, o + 6, none⟩ = some (.slice q.a q.l.length q.c)
theorem Cell7.of {w w' : World} {b o : Nat} {q : PV} (h : Cell7 w b o q) (hb : w'.heap[b]? = w.heap[b]?) : Cell7 w' b o q := by
  have e : ∀ k, w'.cell? ⟨b, k, none⟩ = w.cell? ⟨b, k, none⟩ := fun k => World.cell?_of_block (a := ⟨b, k, none⟩) hb
  unfold Cell7 at *
  simp only [e]
  exact h
def Script (w : World) (a : Option Addr) (SL : List PV) : Prop := ∀ i, i < SL.length → ∃ b off, a = some ⟨b, off, none⟩ ∧ b < w.heap.size ∧ Cell7 w b (off + i * 7) (SL.getD i pv0) ∧ (SL.getD i pv0).fine w
theorem Script.below {w w' : World} {a : Option Addr} {SL : List PV} (h : Script w a SL) (hb : Below w.heap.size w w') : Script w' a SL := by
  intro i hi
  obtain ⟨b, off, e, hlt, hc, h1, h2, h3⟩ := h i hi
  exact ⟨b, off, e, Nat.lt_of_lt_of_le hlt hb.size, hc.of (hb.block b hlt), h1, h2.below hb, h3⟩

set_option maxRecDepth 100000 in
theorem step_within {fuel : Nat} {cs : List Value} {z : DataW H × List MemPlace} (hs : Within Tryd.prog 35 z.1) (hf : DataW.trod enc Tryd.prog W base (fun _ => true) true fuel 35 cs = some z) :
    ∃ q : PV, cs = q.cells.toList ∧ q.fine W := by
  obtain ⟨hl, n, hf⟩ := fields_within Tryd.underlying35 hs hf
  rw [show Tryd.prog.cellsOf 35 = 7 by kernel_rfl] at hl
  match cs, hl with
  | [c0, c1, c2, c3, c4, c5, c6], _ =>
    obtain ⟨y0, h0, -⟩ := hf 0 _ rfl
    obtain ⟨y1, h1, -⟩ := hf 1 _ rfl
    obtain ⟨y2, h2, -⟩ := hf 2 _ rfl
    obtain ⟨y3, h3, -⟩ := hf 3 _ rfl
    obtain ⟨y4, h4, -⟩ := hf 4 _ rfl
    obtain ⟨y5, h5, -⟩ := hf 5 _ rfl
    obtain ⟨y6, h6, g6⟩ := hf 6 _ rfl
    obtain ⟨n0, e0, -, w0⟩ := DataW.trod_int Tryd.underlying3 h0
    obtain ⟨n1, e1, -, w1⟩ := DataW.trod_int Tryd.underlying3 h1
    obtain ⟨n2, e2, -, w2⟩ := DataW.trod_int Tryd.underlying3 h2
    obtain ⟨n3, e3, -, w3⟩ := DataW.trod_int Tryd.underlying3 h3
    obtain ⟨n4, e4, -, w4⟩ := DataW.trod_int Tryd.underlying3 h4
    obtain ⟨n5, e5, -, w5⟩ := DataW.trod_int Tryd.underlying3 h5
    obtain ⟨a6, cap6, l6, e6, r6, m6⟩ := points_within g6 h6
    change [c0] = _ at e0
    change [c1] = _ at e1
    change [c2] = _ at e2
    change [c3] = _ at e3
    change [c4] = _ at e4
    change [c5] = _ at e5
    change [c6] = _ at e6
    simp only [List.cons.injEq, and_true] at e0 e1 e2 e3 e4 e5 e6
    subst e0 e1 e2 e3 e4 e5 e6
    exact ⟨⟨n0, n1, n2, n3, n4, n5, a6, l6, cap6⟩, rfl, by simpa [Lit.wf, show IntKind.i64.min = -9223372036854775808 from rfl] using w1, r6, m6⟩

set_option maxRecDepth 100000 in
theorem open_plays {v : Value} {d : DataW H} {p : List MemPlace} (hw : Within Tryd.prog 24 d) (hv : Value.okWide Tryd.prog W .any base 24 v) (h : DataW.Trod enc Tryd.prog W 0 (fun _ => true) true 24 v d p) :
    ∃ (a : Option Addr) (cap : Nat) (SL : List PV), v = .slice a SL.length cap ∧ Script W a SL ∧ SL.length < 9223372036854775808 := by
  obtain ⟨a0, len0, cap0, rfl⟩ := okWide_slice Tryd.underlying24 hv
  obtain ⟨fuel, hf⟩ := h
  rcases slice_within Tryd.underlying24 hw hf with hcs | ⟨a, len, cap, n, hcs, -, hl, hm, -, hi⟩
  · simp only [Value.cells, List.cons.injEq, and_true, Value.slice.injEq] at hcs
    obtain ⟨rfl, rfl, rfl⟩ := hcs
    exact ⟨none, 0, [], rfl, fun i hi => by simp at hi, by simp⟩
  · simp [Value.cells] at hcs
    obtain ⟨rfl, rfl, rfl⟩ := hcs
    have hc7 : Tryd.prog.cellsOf 35 = 7 := by kernel_rfl
    rw [hc7] at hi
    have hcell : ∀ i, i < cap0 → ∃ q : PV, q.fine W ∧ ∀ j, j < 7 → W.cell? ((a.add (i * 7)).add j) = q.cells.toList[j]? := by
      intro i hic
      obtain ⟨cs', y, h1, h2, h3⟩ := hi i hic
      obtain ⟨q, rfl, hok⟩ := step_within h3 h2
      obtain ⟨-, -, hc⟩ := World.cells?_some h1
      exact ⟨q, hok, fun j hj => hc j hj⟩
    haveI : Inhabited PV := ⟨pv0⟩
    obtain ⟨f, hf⟩ := Go.Deep.choose_lt (α := PV) hcell
    have hls : ((List.range len0).map f).length = len0 := by simp
    refine ⟨some a, cap0, (List.range len0).map f, by rw [hls], fun i hi' => ?_, by rw [hls]; have : maxLen = 9223372036854775807 := rfl; omega⟩
    rw [hls] at hi'
    obtain ⟨hfine, hg⟩ := hf i (by omega)
    obtain ⟨b, off, spot⟩ := a
    have z0 := (hf 0 (by omega)).2 0 (by omega)
    have hspot : spot = none := by simpa [Addr.add] using World.cell?_spot (z0.trans rfl)
    subst hspot
    simp only [run.add_none] at hg
    have k0 := hg 0 (by omega)
    have hget : ((List.range len0).map f).getD i pv0 = f i := by simp [List.getD_eq_getElem?_getD, hi']
    rw [hget]
    exact ⟨b, off, rfl, run.lt_of_cell (k0.trans rfl), ⟨hg 0 (by omega), hg 1 (by omega), hg 2 (by omega), hg 3 (by omega), hg 4 (by omega), hg 5 (by omega), hg 6 (by omega)⟩, hfine⟩

/-- an array by value, in the wide sense -/
theorem okWide_arr {P : Program} {w : World} {r : Reach} {t e : TypeId} {n : Nat} {v : Value} (ht : P.underlying t = some (.array n e)) (h : Value.okWide P w r base t v) : ∃ cs, v = .agg cs := by
  simp only [Value.okWide, ht] at h
  obtain ⟨cs, h1, h2, _⟩ := h
  exact ⟨cs, h1⟩
set_option maxRecDepth 100000 in
theorem open_sizes {v : Value} {d : DataW H} {p : List MemPlace} (hv : Value.okWide Tryd.prog W .any base 23 v) (h : DataW.Trod enc Tryd.prog W 0 (fun _ => true) true 23 v d p) :
    ∃ a b c e : Int, v = .agg #[.int .i64 a, .int .i64 b, .int .i64 c, .int .i64 e] ∧ ∀ z ∈ [a, b, c, e], -9223372036854775808 ≤ z ∧ z ≤ 9223372036854775807 := by
  obtain ⟨cs, rfl⟩ := okWide_arr Tryd.underlying23 hv
  obtain ⟨fuel, hf⟩ := h
  obtain ⟨xs, m, -, -, hl, hx, hi⟩ := DataW.trod_array Tryd.underlying23 hf
  rw [show Tryd.prog.cellsOf 23 = 4 by kernel_rfl] at hl
  rw [show Tryd.prog.cellsOf 22 = 2 by kernel_rfl] at hi
  have hi0 := hi 0 (by omega)
  have hi1 := hi 1 (by omega)
  rw [List.getElem?_eq_getElem (show 0 < xs.length by omega)] at hi0
  rw [List.getElem?_eq_getElem (show 1 < xs.length by omega)] at hi1
  obtain ⟨ys0, m0, -, -, hl0, hy0, hj0⟩ := DataW.trod_array Tryd.underlying22 hi0
  obtain ⟨ys1, m1, -, -, hl1, hy1, hj1⟩ := DataW.trod_array Tryd.underlying22 hi1
  rw [show Tryd.prog.cellsOf 3 = 1 by kernel_rfl] at hj0 hj1
  have a0 := hj0 0 (by omega)
  have a1 := hj0 1 (by omega)
  have b0 := hj1 0 (by omega)
  have b1 := hj1 1 (by omega)
  rw [List.getElem?_eq_getElem (show 0 < ys0.length by omega)] at a0
  rw [List.getElem?_eq_getElem (show 1 < ys0.length by omega)] at a1
  rw [List.getElem?_eq_getElem (show 0 < ys1.length by omega)] at b0
  rw [List.getElem?_eq_getElem (show 1 < ys1.length by omega)] at b1
  obtain ⟨n0, e0, -, w0⟩ := DataW.trod_int Tryd.underlying3 a0
  obtain ⟨n1, e1, -, w1⟩ := DataW.trod_int Tryd.underlying3 a1
  obtain ⟨n2, e2, -, w2⟩ := DataW.trod_int Tryd.underlying3 b0
  obtain ⟨n3, e3, -, w3⟩ := DataW.trod_int Tryd.underlying3 b1
  obtain ⟨L⟩ := cs
  change L.length = 4 at hl
  match L, hl with
  | [c0, c1, c2, c3], _ =>
    change [c0] = _ at e0
    change [c1] = _ at e1
    change [c2] = _ at e2
    change [c3] = _ at e3
    simp only [List.cons.injEq, and_true] at e0 e1 e2 e3
    subst e0 e1 e2 e3
    refine ⟨n0, n1, n2, n3, rfl, ?_⟩
    intro z hz
    have hw : ∀ z : Int, (Lit.int .i64 z).wf = true → -9223372036854775808 ≤ z ∧ z ≤ 9223372036854775807 := fun z h => by simpa [Lit.wf, show IntKind.i64.min = -9223372036854775808 from rfl] using h
    simp only [List.mem_cons, List.not_mem_nil, or_false] at hz
    rcases hz with rfl | rfl | rfl | rfl
    · exact hw _ w0
    · exact hw _ w1
    · exact hw _ w2
    · exact hw _ w3
end
end Go.Proofs.YtbfheehaagcmeaaDoor.can
namespace Go.Proofs.YtbfheehaagcmeaaDoor.can
open Go.RowKit Go.Proofs
set_option linter.unusedVariables false

theorem i64_and1 (n : Int) : bits .and .i64 n 1 = n % 2 := by
  have h1 : (BitVec.ofInt 64 1).toNat = 2 ^ 1 - 1 := by decide
  have key : (BitVec.ofInt 64 n &&& BitVec.ofInt 64 1).toNat = (n % ((2 ^ 64 : Nat) : Int)).toNat % 2 ^ 1 := by
    rw [BitVec.toNat_and, BitVec.toNat_ofInt, h1, Nat.and_two_pow_sub_one_eq_mod]
  show IntKind.i64.wrap ((BitVec.ofInt 64 n &&& BitVec.ofInt 64 1).toNat : Nat) = n % 2
  rw [key, IntKind.wrap_i64]
  omega
/-- both pairs in a row -/
structure Row4 (q : Nat) (c0 r0 c1 r1 : Option Addr) (w : World) : Prop where
  k0 : w.cell? ⟨q, 0, none⟩ = some (.pointer c0)
  k1 : w.cell? ⟨q, 1, none⟩ = some (.pointer r0)
  k2 : w.cell? ⟨q, 2, none⟩ = some (.pointer c1)
  k3 : w.cell? ⟨q, 3, none⟩ = some (.pointer r1)
theorem Row4.two {n g1 g2 q : Nat} {c0 r0 c1 r1 : Option Addr} {w w' : World} (h : Row4 q c0 r0 c1 r1 w) (ht : Two n g1 g2 w w') (h1 : q ≠ g1) (h2 : q ≠ g2) : Row4 q c0 r0 c1 r1 w' :=
  ⟨ht.cell h.k0 h1 h2, ht.cell h.k1 h1 h2, ht.cell h.k2 h1 h2, ht.cell h.k3 h1 h2⟩
theorem Row4.below {q : Nat} {c0 r0 c1 r1 : Option Addr} {w w' : World} (h : Row4 q c0 r0 c1 r1 w) (hb : Below w.heap.size w w') : Row4 q c0 r0 c1 r1 w' := by
  have hq := run.lt_of_cell h.k0
  exact ⟨(hb.cell (p := ⟨q, 0, none⟩) hq).trans h.k0, (hb.cell (p := ⟨q, 1, none⟩) hq).trans h.k1, (hb.cell (p := ⟨q, 2, none⟩) hq).trans h.k2, (hb.cell (p := ⟨q, 3, none⟩) hq).trans h.k3⟩

set_option maxRecDepth 100000 in
set_option maxHeartbeats 8000000 in
theorem lawPlays_any (s0 s1 s2 s3 : Int) (a : Option Addr) (cap : Nat) (SL : List PV) (w : World) (hs : ∀ z ∈ [s0, s1, s2, s3], -9223372036854775808 ≤ z ∧ z ≤ 9223372036854775807) (hS : Script w a SL) (hlen : SL.length < 9223372036854775808) (hD : Dots w) :
    Calls Tryd.prog 3 #[.agg #[.int .i64 s0, .int .i64 s1, .int .i64 s2, .int .i64 s3], .slice a SL.length cap] w fun e w' => e = .returned (.bool true) ∧ Below w.heap.size w w' := by
  have hlt := hD.lt
  have z0 := hs s0 (by simp)
  have z1 := hs s1 (by simp)
  have z2 := hs s2 (by simp)
  have z3 := hs s3 (by simp)
  clear hs
  have HM1 := run.hid (fun w' (hb : Below w.heap.size w w') => made_any w.heap.size s0 s1 w' z0 z1 (hD.below hb hlt) hlt hb.size)
  have HM2 := run.hid (fun w' (hb : Below w.heap.size w w') => made_any w.heap.size s2 s3 w' z2 z3 (hD.below hb hlt) hlt hb.size)
  have HAL := run.hid (fun w' (hb : Below w.heap.size w w') => alive_any w' (hD.below hb hlt))
  have HSC : Hid (∀ w', Below w.heap.size w w' → ∀ i, i < SL.length → ∃ b off, a = some ⟨b, off, none⟩ ∧ b < w.heap.size ∧ Cell7 w' b (off + i * 7) (SL.getD i pv0) ∧ (SL.getD i pv0).fine w') := by
    intro w' hb i hi
    obtain ⟨b, off, e, hlt, hc, h1, h2, h3⟩ := hS i hi
    exact ⟨b, off, e, hlt, hc.of (hb.block b hlt), h1, h2.below hb, h3⟩
  obtain ⟨N, hN⟩ : ∃ N, N = SL.length := ⟨_, rfl⟩
  rw [← hN] at hlen HSC ⊢
  have HN := run.hid hN
  clear hN hS hD
  have hb0 := run.below_one w (.cells #[.int .i64 s0, .int .i64 s1, .int .i64 s2, .int .i64 s3] 23)
  have hz0 : (w.alloc (.cells #[.int .i64 s0, .int .i64 s1, .int .i64 s2, .int .i64 s3] 23)).heap.size = w.heap.size + 1 := by simp
  have k0 : (w.alloc (.cells #[.int .i64 s0, .int .i64 s1, .int .i64 s2, .int .i64 s3] 23)).cell? ⟨w.heap.size, 0, none⟩ = some (.int .i64 s0) := World.cell?_alloc_at _ _ _ _ rfl
  have k1 : (w.alloc (.cells #[.int .i64 s0, .int .i64 s1, .int .i64 s2, .int .i64 s3] 23)).cell? ⟨w.heap.size, 1, none⟩ = some (.int .i64 s1) := World.cell?_alloc_at _ _ _ _ rfl
  have k2 : (w.alloc (.cells #[.int .i64 s0, .int .i64 s1, .int .i64 s2, .int .i64 s3] 23)).cell? ⟨w.heap.size, 2, none⟩ = some (.int .i64 s2) := World.cell?_alloc_at _ _ _ _ rfl
  have k3 : (w.alloc (.cells #[.int .i64 s0, .int .i64 s1, .int .i64 s2, .int .i64 s3] 23)).cell? ⟨w.heap.size, 3, none⟩ = some (.int .i64 s3) := World.cell?_alloc_at _ _ _ _ rfl
  generalize hn : w.heap.size = n at *
  go_enter Tryd.func3, Tryd.ntmps3
  go_upto_region 1 with fail
  generalize w.alloc (.cells #[.int .i64 s0, .int .i64 s1, .int .i64 s2, .int .i64 s3] 23) = w1 at *
  have K2 := run.hid k2
  have K3 := run.hid k3
  have HB0 := run.hid hb0
  clear k2 k3 hb0
  go_wp2_with fail
  refine (HM1.out _ HB0.out).mono ?_
  rintro e w2 ⟨c0, r0, rfl, hP0, hb2⟩
  have HP0 := run.hid hP0
  have HB2 : Hid (Below n w w2) := HB0.out.trans (hb2.mono (by omega))
  have hs2 := hb2.size
  have k2 := (hb2.cell (p := ⟨n, 2, none⟩) (by simp; omega)).trans K2.out
  have k3 := (hb2.cell (p := ⟨n, 3, none⟩) (by simp; omega)).trans K3.out
  clear hP0 hb2 k0 k1 K2 K3
  go_upto_region 2 with fail
  have hbA := run.below_one w2 (.cells #[.pointer c0, .pointer r0] 28)
  have p0 : (w2.alloc (.cells #[.pointer c0, .pointer r0] 28)).cell? ⟨w2.heap.size, 0, none⟩ = some (.pointer c0) := World.cell?_alloc_at _ _ _ _ rfl
  have p1 : (w2.alloc (.cells #[.pointer c0, .pointer r0] 28)).cell? ⟨w2.heap.size, 1, none⟩ = some (.pointer r0) := World.cell?_alloc_at _ _ _ _ rfl
  have hsA : (w2.alloc (.cells #[.pointer c0, .pointer r0] 28)).heap.size = w2.heap.size + 1 := by simp
  generalize w2.alloc (.cells #[.pointer c0, .pointer r0] 28) = w3 at *
  have HP03 := run.hid (HP0.out.below hbA)
  have HB3 : Hid (Below n w w3) := HB2.out.trans (hbA.mono (by omega))
  have q2 := (hbA.cell (p := ⟨n, 2, none⟩) (by simp; omega)).trans k2
  have q3 := (hbA.cell (p := ⟨n, 3, none⟩) (by simp; omega)).trans k3
  have HPa := run.hid p0
  have HPb := run.hid p1
  clear k2 k3 hbA HB2 HP0 p0 p1
  go_wp2_with fail
  refine (HM2.out _ HB3.out).mono ?_
  rintro e w4 ⟨c1, r1, rfl, hP1, hb4⟩
  have HP1 := run.hid hP1
  have HP04 := run.hid (HP03.out.below hb4)
  have HB4 : Hid (Below n w w4) := HB3.out.trans (hb4.mono (by omega))
  have hs4 := hb4.size
  have HPa4 := run.hid ((hb4.cell (p := ⟨w2.heap.size, 0, none⟩) (by simp; omega)).trans HPa.out)
  have HPb4 := run.hid ((hb4.cell (p := ⟨w2.heap.size, 1, none⟩) (by simp; omega)).trans HPb.out)
  clear hP1 hb4 q2 q3 HP03 HB3 HPa HPb
  go_upto_region 3 with fail
  have hbA := run.below_one w4 (.cells #[.pointer c1, .pointer r1] 28)
  have p0 : (w4.alloc (.cells #[.pointer c1, .pointer r1] 28)).cell? ⟨w4.heap.size, 0, none⟩ = some (.pointer c1) := World.cell?_alloc_at _ _ _ _ rfl
  have p1 : (w4.alloc (.cells #[.pointer c1, .pointer r1] 28)).cell? ⟨w4.heap.size, 1, none⟩ = some (.pointer r1) := World.cell?_alloc_at _ _ _ _ rfl
  have hsB : (w4.alloc (.cells #[.pointer c1, .pointer r1] 28)).heap.size = w4.heap.size + 1 := by simp
  generalize w4.alloc (.cells #[.pointer c1, .pointer r1] 28) = w5 at *
  have HP05 := run.hid (HP04.out.below hbA)
  have HP15 := run.hid (HP1.out.below hbA)
  have HB5 : Hid (Below n w w5) := HB4.out.trans (hbA.mono (by omega))
  have HPa5 := run.hid ((hbA.cell (p := ⟨w2.heap.size, 0, none⟩) (by simp; omega)).trans HPa4.out)
  have HPb5 := run.hid ((hbA.cell (p := ⟨w2.heap.size, 1, none⟩) (by simp; omega)).trans HPb4.out)
  have HPc := run.hid p0
  have HPd := run.hid p1
  clear hbA HB4 HP04 HP1 p0 p1 HPa4 HPb4
  go_wp2_with fail
  refine (HAL.out _ HB5.out).mono ?_
  rintro e w6 ⟨rfl, hb6⟩
  have hs6 := hb6.size
  have HP06 := run.hid (HP05.out.below hb6)
  have HP16 := run.hid (HP15.out.below hb6)
  have HB6 : Hid (Below n w w6) := HB5.out.trans (hb6.mono (by omega))
  have k0 := (hb6.cell (p := ⟨w2.heap.size, 0, none⟩) (by simp; omega)).trans HPa5.out
  have k1 := (hb6.cell (p := ⟨w2.heap.size, 1, none⟩) (by simp; omega)).trans HPb5.out
  have k2 := (hb6.cell (p := ⟨w4.heap.size, 0, none⟩) (by simp; omega)).trans HPc.out
  have k3 := (hb6.cell (p := ⟨w4.heap.size, 1, none⟩) (by simp; omega)).trans HPd.out
  clear hb6 HP05 HP15 HB5 HPa5 HPb5 HPc HPd HAL HM1 HM2
  generalize w2.heap.size = n2 at *
  generalize w4.heap.size = n4 at *
  --LOOPS
  go_upto_region 6 with fail
  have hbA := run.below_one w6 (.cells #[.pointer c0, .pointer r0, .pointer c1, .pointer r1] 28)
  have HR4 : Hid (Row4 w6.heap.size c0 r0 c1 r1 (w6.alloc (.cells #[.pointer c0, .pointer r0, .pointer c1, .pointer r1] 28))) := ⟨World.cell?_alloc_at _ _ _ _ rfl, World.cell?_alloc_at _ _ _ _ rfl, World.cell?_alloc_at _ _ _ _ rfl, World.cell?_alloc_at _ _ _ _ rfl⟩
  generalize w6.alloc (.cells #[.pointer c0, .pointer r0, .pointer c1, .pointer r1] 28) = w7 at *
  have HP07 := run.hid (HP06.out.below hbA)
  have HP17 := run.hid (HP16.out.below hbA)
  have HB7 : Hid (Below n w w7) := HB6.out.trans (hbA.mono (by omega))
  clear hbA HP06 HP16 HB6 k0 k1 k2 k3
  generalize hq : w6.heap.size = q at *
  clear hq
  rw [hz0] at HP07
  rw [hsA] at HP17
  have hn2 : n ≤ n2 := by omega
  have hn4 : n2 < n4 := by omega
  have hqn : n4 < q := by omega
  clear hsA hsB hs6 hs4 hs2 hz0
  go_wp2
  go_loopw [10] (fun kv wr => ∃ i : Nat, i ≤ N ∧ kv = .int .i64 i ∧ Hid (PairIn n (n + 1) n2 c0 r0 wr) ∧ Hid (PairIn n (n2 + 1) n4 c1 r1 wr) ∧ Hid (Below n w wr) ∧ Hid (Row4 q c0 r0 c1 r1 wr)) (fun kv _ => (N - intOf kv).toNat)
  case atStart => exact ⟨0, by omega, rfl, HP07, HP17, HB7, HR4⟩
  case round =>
    obtain ⟨i, hi, rfl, HP0r, HP1r, HBr, HRr⟩ := hrel
    by_cases hil : i < N
    · obtain ⟨bd, od, rfl, hbd, hcell, hkk, hR, hl⟩ := HSC.out wr HBr.out i hil
      have HFN := run.hid (fun w' hb => (HSC.out w' hb i hil))
      generalize SL.getD i pv0 = qs at *
      obtain ⟨sd, sk, sx, sy, su, sv, sa, sl, sc⟩ := qs
      obtain ⟨x0, x1, x2, x3, x4, x5, x6⟩ := hcell
      simp only at x0 x1 x2 x3 x4 x5 x6 hkk hR hl
      have HRD := run.hid hR
      have HL := run.hid hl
      clear hR hl hkk HFN
      have hm : bits .and .i64 sk 1 = 0 ∨ bits .and .i64 sk 1 = 1 := by rw [i64_and1]; omega
      have r0' := HRr.out.k0
      have r1' := HRr.out.k1
      have r2' := HRr.out.k2
      have r3' := HRr.out.k3
      have hqr := run.lt_of_cell r0'
      have hbr : Below n w wr := HBr.out
      have hnr := hbr.size
      rw [hn] at hnr
      clear hbr
      rcases hm with hm | hm
      · have hsz : (wr.alloc (.cells #[.pointer c0, .pointer r0] 28)).heap.size = wr.heap.size + 1 := by simp
        have p0 : (wr.alloc (.cells #[.pointer c0, .pointer r0] 28)).cell? ⟨wr.heap.size, 0, none⟩ = some (.pointer c0) := World.cell?_alloc_at _ _ _ _ rfl
        have p1 : (wr.alloc (.cells #[.pointer c0, .pointer r0] 28)).cell? ⟨wr.heap.size, 1, none⟩ = some (.pointer r0) := World.cell?_alloc_at _ _ _ _ rfl
        have hbA := run.below_one wr (.cells #[.pointer c0, .pointer r0] 28)
        go_upto_region 10 with fail
        generalize wr.alloc (.cells #[.pointer c0, .pointer r0] 28) = w8 at *
        have y0 := (hbA.cell (p := ⟨bd, od + i * 7, none⟩) (by simp; omega)).trans x0
        have y1 := (hbA.cell (p := ⟨bd, od + i * 7 + 1, none⟩) (by simp; omega)).trans x1
        have y2 := (hbA.cell (p := ⟨bd, od + i * 7 + 2, none⟩) (by simp; omega)).trans x2
        have y3 := (hbA.cell (p := ⟨bd, od + i * 7 + 3, none⟩) (by simp; omega)).trans x3
        have y4 := (hbA.cell (p := ⟨bd, od + i * 7 + 4, none⟩) (by simp; omega)).trans x4
        have y5 := (hbA.cell (p := ⟨bd, od + i * 7 + 5, none⟩) (by simp; omega)).trans x5
        have y6 := (hbA.cell (p := ⟨bd, od + i * 7 + 6, none⟩) (by simp; omega)).trans x6
        have HP08 := run.hid (HP0r.out.below hbA)
        have HP18 := run.hid (HP1r.out.below hbA)
        have HB8 : Hid (Below n w w8) := HBr.out.trans (hbA.mono hnr)
        have HR8 := run.hid (HRr.out.below hbA)
        have HRD8 := run.hid (HRD.out.below hbA)
        clear x0 x1 x2 x3 x4 x5 x6 HP0r HP1r HBr HRr HRD hbA r0' r1' r2' r3' hm
        generalize hBw : wr.heap.size = B at *
        rcases HP08.out with ⟨rfl, rfl⟩ | ⟨b, g, b2, g2, W, H, S, rfl, rfl, hA, hb1, hb2, hb3, hb4⟩
        · go_quiet (fail)
          have HP09 := run.hid (HP08.out.below (drewN_below _ w8 nq))
          have HP19 := run.hid (HP18.out.below (drewN_below _ w8 nq))
          have HB9 : Hid (Below n w (w8.drewN nq)) := HB8.out.trans (drewN_below _ w8 nq)
          have HR9 := run.hid (HR8.out.below (drewN_below _ w8 nq))
          clear y0 y1 y2 y3 y4 y5 y6 p0 p1 HP08 HP18 HB8 HR8 HRD8
          go_wp2
          go_roundw
          case rel => exact ⟨i + 1, by omega, by go_num, HP09, HP19, HB9, HR9⟩
          case measure => simp [intOf]; omega
        · have HST := run.hid (steps_any n b g b2 g2 W H S sd sk sx sy su sv sl sa sc w8.drew (hA.drew).from (HRD8.out.below ((Below.refl _ _).drew)) HL.out)
          have hg1 := hA.c.2.1
          have hg2 := hA.r.2.1
          have KS : Hid (∀ w', Two n g g2 w8.drew w' → w'.cell? ⟨B, 0, none⟩ = some (.pointer (some ⟨b, 0, none⟩)) ∧ w'.cell? ⟨B, 1, none⟩ = some (.pointer (some ⟨b2, 0, none⟩)) ∧ w'.cell? ⟨bd, od + i * 7, none⟩ = some (.int .i64 sd) ∧ w'.cell? ⟨bd, od + i * 7 + 1, none⟩ = some (.int .i64 sk) ∧ w'.cell? ⟨bd, od + i * 7 + 2, none⟩ = some (.int .i64 sx) ∧ w'.cell? ⟨bd, od + i * 7 + 3, none⟩ = some (.int .i64 sy) ∧ w'.cell? ⟨bd, od + i * 7 + 4, none⟩ = some (.int .i64 su) ∧ w'.cell? ⟨bd, od + i * 7 + 5, none⟩ = some (.int .i64 sv) ∧ w'.cell? ⟨bd, od + i * 7 + 6, none⟩ = some (.slice sa sl.length sc)) := by
            intro w' ht
            have i1 : B ≠ g := by omega
            have i2 : B ≠ g2 := by omega
            have i3 : bd ≠ g := by omega
            have i4 : bd ≠ g2 := by omega
            exact ⟨ht.cell (a := ⟨B, 0, none⟩) p0 i1 i2, ht.cell (a := ⟨B, 1, none⟩) p1 i1 i2, ht.cell (a := ⟨bd, od + i * 7, none⟩) y0 i3 i4, ht.cell (a := ⟨bd, od + i * 7 + 1, none⟩) y1 i3 i4, ht.cell (a := ⟨bd, od + i * 7 + 2, none⟩) y2 i3 i4, ht.cell (a := ⟨bd, od + i * 7 + 3, none⟩) y3 i3 i4, ht.cell (a := ⟨bd, od + i * 7 + 4, none⟩) y4 i3 i4, ht.cell (a := ⟨bd, od + i * 7 + 5, none⟩) y5 i3 i4, ht.cell (a := ⟨bd, od + i * 7 + 6, none⟩) y6 i3 i4⟩
          clear y0 y1 y2 y3 y4 y5 y6 p0 p1
          go_region_held3 (fun w' => w'.cell? ⟨B, 0, none⟩ = some (.pointer (some ⟨b, 0, none⟩)) ∧ w'.cell? ⟨B, 1, none⟩ = some (.pointer (some ⟨b2, 0, none⟩)) ∧ w'.cell? ⟨bd, od + i * 7, none⟩ = some (.int .i64 sd) ∧ w'.cell? ⟨bd, od + i * 7 + 1, none⟩ = some (.int .i64 sk) ∧ w'.cell? ⟨bd, od + i * 7 + 2, none⟩ = some (.int .i64 sx) ∧ w'.cell? ⟨bd, od + i * 7 + 3, none⟩ = some (.int .i64 sy) ∧ w'.cell? ⟨bd, od + i * 7 + 4, none⟩ = some (.int .i64 su) ∧ w'.cell? ⟨bd, od + i * 7 + 5, none⟩ = some (.int .i64 sv) ∧ w'.cell? ⟨bd, od + i * 7 + 6, none⟩ = some (.slice sa sl.length sc))
            (first
              | assumption
              | exact KS.out _ (Two.refl _ _ _ _)
              | exact KS.out _ hA9.two
              | go_keep
              | (trace_state; fail))
            (first
              | (go_at_call 8; refine HST.out.mono ?_; rintro e w9 ⟨rfl, S', hA9⟩))
          all_goals
            have ht9 := hA9.two
            have HP09 : Hid (PairIn n (n + 1) n2 (some ⟨b, 0, none⟩) (some ⟨b2, 0, none⟩) w9) := .inr ⟨b, g, b2, g2, W, H, S', rfl, rfl, hA9.from, hb1, hb2, hb3, hb4⟩
            have HP19 := run.hid ((HP18.out.below ((Below.refl _ _).drew)).other ht9 (by omega) (by omega))
            have HB9 : Hid (Below n w w9) := (HB8.out.drew).trans ht9.below
            have HR9 := run.hid ((HR8.out.below ((Below.refl _ _).drew)).two ht9 (by omega) (by omega))
            clear HST KS HP08 HP18 HB8 HR8 HRD8 hA ht9 hA9
            go_wp2
            go_roundw
            case rel => exact ⟨i + 1, by omega, by go_num, HP09, HP19, HB9, HR9⟩
            case measure => simp [intOf]; omega
      · have hsz : (wr.alloc (.cells #[.pointer c1, .pointer r1] 28)).heap.size = wr.heap.size + 1 := by simp
        have p0 : (wr.alloc (.cells #[.pointer c1, .pointer r1] 28)).cell? ⟨wr.heap.size, 0, none⟩ = some (.pointer c1) := World.cell?_alloc_at _ _ _ _ rfl
        have p1 : (wr.alloc (.cells #[.pointer c1, .pointer r1] 28)).cell? ⟨wr.heap.size, 1, none⟩ = some (.pointer r1) := World.cell?_alloc_at _ _ _ _ rfl
        have hbA := run.below_one wr (.cells #[.pointer c1, .pointer r1] 28)
        go_upto_region 10 with fail
        generalize wr.alloc (.cells #[.pointer c1, .pointer r1] 28) = w8 at *
        have y0 := (hbA.cell (p := ⟨bd, od + i * 7, none⟩) (by simp; omega)).trans x0
        have y1 := (hbA.cell (p := ⟨bd, od + i * 7 + 1, none⟩) (by simp; omega)).trans x1
        have y2 := (hbA.cell (p := ⟨bd, od + i * 7 + 2, none⟩) (by simp; omega)).trans x2
        have y3 := (hbA.cell (p := ⟨bd, od + i * 7 + 3, none⟩) (by simp; omega)).trans x3
        have y4 := (hbA.cell (p := ⟨bd, od + i * 7 + 4, none⟩) (by simp; omega)).trans x4
        have y5 := (hbA.cell (p := ⟨bd, od + i * 7 + 5, none⟩) (by simp; omega)).trans x5
        have y6 := (hbA.cell (p := ⟨bd, od + i * 7 + 6, none⟩) (by simp; omega)).trans x6
        have HP08 := run.hid (HP0r.out.below hbA)
        have HP18 := run.hid (HP1r.out.below hbA)
        have HB8 : Hid (Below n w w8) := HBr.out.trans (hbA.mono hnr)
        have HR8 := run.hid (HRr.out.below hbA)
        have HRD8 := run.hid (HRD.out.below hbA)
        clear x0 x1 x2 x3 x4 x5 x6 HP0r HP1r HBr HRr HRD hbA r0' r1' r2' r3' hm
        generalize hBw : wr.heap.size = B at *
        rcases HP18.out with ⟨rfl, rfl⟩ | ⟨b, g, b2, g2, W, H, S, rfl, rfl, hA, hb1, hb2, hb3, hb4⟩
        · go_quiet (fail)
          have HP09 := run.hid (HP08.out.below (drewN_below _ w8 nq))
          have HP19 := run.hid (HP18.out.below (drewN_below _ w8 nq))
          have HB9 : Hid (Below n w (w8.drewN nq)) := HB8.out.trans (drewN_below _ w8 nq)
          have HR9 := run.hid (HR8.out.below (drewN_below _ w8 nq))
          clear y0 y1 y2 y3 y4 y5 y6 p0 p1 HP08 HP18 HB8 HR8 HRD8
          go_wp2
          go_roundw
          case rel => exact ⟨i + 1, by omega, by go_num, HP09, HP19, HB9, HR9⟩
          case measure => simp [intOf]; omega
        · have HST := run.hid (steps_any n b g b2 g2 W H S sd sk sx sy su sv sl sa sc w8.drew (hA.drew).from (HRD8.out.below ((Below.refl _ _).drew)) HL.out)
          have hg1 := hA.c.2.1
          have hg2 := hA.r.2.1
          have KS : Hid (∀ w', Two n g g2 w8.drew w' → w'.cell? ⟨B, 0, none⟩ = some (.pointer (some ⟨b, 0, none⟩)) ∧ w'.cell? ⟨B, 1, none⟩ = some (.pointer (some ⟨b2, 0, none⟩)) ∧ w'.cell? ⟨bd, od + i * 7, none⟩ = some (.int .i64 sd) ∧ w'.cell? ⟨bd, od + i * 7 + 1, none⟩ = some (.int .i64 sk) ∧ w'.cell? ⟨bd, od + i * 7 + 2, none⟩ = some (.int .i64 sx) ∧ w'.cell? ⟨bd, od + i * 7 + 3, none⟩ = some (.int .i64 sy) ∧ w'.cell? ⟨bd, od + i * 7 + 4, none⟩ = some (.int .i64 su) ∧ w'.cell? ⟨bd, od + i * 7 + 5, none⟩ = some (.int .i64 sv) ∧ w'.cell? ⟨bd, od + i * 7 + 6, none⟩ = some (.slice sa sl.length sc)) := by
            intro w' ht
            have i1 : B ≠ g := by omega
            have i2 : B ≠ g2 := by omega
            have i3 : bd ≠ g := by omega
            have i4 : bd ≠ g2 := by omega
            exact ⟨ht.cell (a := ⟨B, 0, none⟩) p0 i1 i2, ht.cell (a := ⟨B, 1, none⟩) p1 i1 i2, ht.cell (a := ⟨bd, od + i * 7, none⟩) y0 i3 i4, ht.cell (a := ⟨bd, od + i * 7 + 1, none⟩) y1 i3 i4, ht.cell (a := ⟨bd, od + i * 7 + 2, none⟩) y2 i3 i4, ht.cell (a := ⟨bd, od + i * 7 + 3, none⟩) y3 i3 i4, ht.cell (a := ⟨bd, od + i * 7 + 4, none⟩) y4 i3 i4, ht.cell (a := ⟨bd, od + i * 7 + 5, none⟩) y5 i3 i4, ht.cell (a := ⟨bd, od + i * 7 + 6, none⟩) y6 i3 i4⟩
          clear y0 y1 y2 y3 y4 y5 y6 p0 p1
          go_region_held3 (fun w' => w'.cell? ⟨B, 0, none⟩ = some (.pointer (some ⟨b, 0, none⟩)) ∧ w'.cell? ⟨B, 1, none⟩ = some (.pointer (some ⟨b2, 0, none⟩)) ∧ w'.cell? ⟨bd, od + i * 7, none⟩ = some (.int .i64 sd) ∧ w'.cell? ⟨bd, od + i * 7 + 1, none⟩ = some (.int .i64 sk) ∧ w'.cell? ⟨bd, od + i * 7 + 2, none⟩ = some (.int .i64 sx) ∧ w'.cell? ⟨bd, od + i * 7 + 3, none⟩ = some (.int .i64 sy) ∧ w'.cell? ⟨bd, od + i * 7 + 4, none⟩ = some (.int .i64 su) ∧ w'.cell? ⟨bd, od + i * 7 + 5, none⟩ = some (.int .i64 sv) ∧ w'.cell? ⟨bd, od + i * 7 + 6, none⟩ = some (.slice sa sl.length sc))
            (first
              | assumption
              | exact KS.out _ (Two.refl _ _ _ _)
              | exact KS.out _ hA9.two
              | go_keep
              | (trace_state; fail))
            (first
              | (go_at_call 8; refine HST.out.mono ?_; rintro e w9 ⟨rfl, S', hA9⟩))
          all_goals
            have ht9 := hA9.two
            have HP19 : Hid (PairIn n (n2 + 1) n4 (some ⟨b, 0, none⟩) (some ⟨b2, 0, none⟩) w9) := .inr ⟨b, g, b2, g2, W, H, S', rfl, rfl, hA9.from, hb1, hb2, hb3, hb4⟩
            have HP09 := run.hid ((HP08.out.below ((Below.refl _ _).drew)).other ht9 (by omega) (by omega))
            have HB9 : Hid (Below n w w9) := (HB8.out.drew).trans ht9.below
            have HR9 := run.hid ((HR8.out.below ((Below.refl _ _).drew)).two ht9 (by omega) (by omega))
            clear HST KS HP08 HP18 HB8 HR8 HRD8 hA ht9 hA9
            go_wp2
            go_roundw
            case rel => exact ⟨i + 1, by omega, by go_num, HP09, HP19, HB9, HR9⟩
            case measure => simp [intOf]; omega
    · obtain rfl : i = N := by omega
      clear hil HP07 HP17 HB7 HR4
      generalize wr = wz at *
      go_wp2
      go_loopw [13] (fun kv wr => ∃ j : Nat, j ≤ 2 ∧ kv = .int .i64 j ∧ Hid (PairIn n (n + 1) n2 c0 r0 wr) ∧ Hid (PairIn n (n2 + 1) n4 c1 r1 wr) ∧ Hid (Below n w wr) ∧ Hid (Row4 q c0 r0 c1 r1 wr)) (fun kv _ => (2 - intOf kv).toNat)
      case atStart => exact ⟨0, by omega, rfl, HP0r, HP1r, HBr, HRr⟩
      case round =>
        clear HP0r HP1r HBr HRr
        obtain ⟨j, hj, rfl, HP0r, HP1r, HBr, HRr⟩ := hrel
        have r0' := HRr.out.k0
        have r1' := HRr.out.k1
        have r2' := HRr.out.k2
        have r3' := HRr.out.k3
        rcases (show j = 0 ∨ j = 1 ∨ j = 2 by omega) with rfl | rfl | rfl
        · rcases HP0r.out with ⟨rfl, rfl⟩ | ⟨b, g, b2, g2, W, H, S, rfl, rfl, hA, hb1, hb2, hb3, hb4⟩
          · go_wp2
            go_roundw
            case rel => exact ⟨1, by omega, by go_num, HP0r, HP1r, HBr, HRr⟩
            case measure => simp [intOf]
          · have HA := run.hid hA
            clear hA r2' r3'
            go_wp2_with fail
            refine (size_any _ _ _ _ _ _ _ HA.out.c).mono ?_
            rintro e wa ⟨rfl, hba⟩
            have HAa := run.hid (HA.out.next hba)
            have HRa := run.hid (HRr.out.below hba)
            have HP0a := run.hid (HP0r.out.below hba)
            have HP1a := run.hid (HP1r.out.below hba)
            have HBa : Hid (Below n w wa) := HBr.out.trans (hba.mono (by have := HBr.out.size; omega))
            have r0' := HRa.out.k0
            have r1' := HRa.out.k1
            clear hba HA HRr HP0r HP1r HBr
            go_wp2_with fail
            refine (rsize_any _ _ _ _ _ _ _ HAa.out.r).mono ?_
            rintro e wb ⟨rfl, hbb⟩
            have HAb := run.hid (HAa.out.next hbb)
            have HRb := run.hid (HRa.out.below hbb)
            have HP0b := run.hid (HP0a.out.below hbb)
            have HP1b := run.hid (HP1a.out.below hbb)
            have HBb : Hid (Below n w wb) := HBa.out.trans (hbb.mono (by have := HBa.out.size; omega))
            have r0' := HRb.out.k0
            have r1' := HRb.out.k1
            clear hbb HAa HRa HP0a HP1a HBa
            go_wp2_with fail
            refine (lawRows_any _ _ _ _ _ _ _ _ _ HAb.out.c HAb.out.r).mono ?_
            rintro e wc ⟨rfl, hbc⟩
            have HRc := run.hid (HRb.out.below hbc)
            have HP0c := run.hid (HP0b.out.below hbc)
            have HP1c := run.hid (HP1b.out.below hbc)
            have HBc : Hid (Below n w wc) := HBb.out.trans (hbc.mono (by have := HBb.out.size; omega))
            clear hbc HAb HRb HP0b HP1b HBb
            go_wp2
            go_roundw
            case rel => exact ⟨1, by omega, by go_num, HP0c, HP1c, HBc, HRc⟩
            case measure => simp [intOf]
        · rcases HP1r.out with ⟨rfl, rfl⟩ | ⟨b, g, b2, g2, W, H, S, rfl, rfl, hA, hb1, hb2, hb3, hb4⟩
          · go_wp2
            go_roundw
            case rel => exact ⟨2, by omega, by go_num, HP0r, HP1r, HBr, HRr⟩
            case measure => simp [intOf]
          · have HA := run.hid hA
            clear hA r0' r1'
            go_wp2_with fail
            refine (size_any _ _ _ _ _ _ _ HA.out.c).mono ?_
            rintro e wa ⟨rfl, hba⟩
            have HAa := run.hid (HA.out.next hba)
            have HRa := run.hid (HRr.out.below hba)
            have HP0a := run.hid (HP0r.out.below hba)
            have HP1a := run.hid (HP1r.out.below hba)
            have HBa : Hid (Below n w wa) := HBr.out.trans (hba.mono (by have := HBr.out.size; omega))
            have r2' := HRa.out.k2
            have r3' := HRa.out.k3
            clear hba HA HRr HP0r HP1r HBr
            go_wp2_with fail
            refine (rsize_any _ _ _ _ _ _ _ HAa.out.r).mono ?_
            rintro e wb ⟨rfl, hbb⟩
            have HAb := run.hid (HAa.out.next hbb)
            have HRb := run.hid (HRa.out.below hbb)
            have HP0b := run.hid (HP0a.out.below hbb)
            have HP1b := run.hid (HP1a.out.below hbb)
            have HBb : Hid (Below n w wb) := HBa.out.trans (hbb.mono (by have := HBa.out.size; omega))
            have r2' := HRb.out.k2
            have r3' := HRb.out.k3
            clear hbb HAa HRa HP0a HP1a HBa
            go_wp2_with fail
            refine (lawRows_any _ _ _ _ _ _ _ _ _ HAb.out.c HAb.out.r).mono ?_
            rintro e wc ⟨rfl, hbc⟩
            have HRc := run.hid (HRb.out.below hbc)
            have HP0c := run.hid (HP0b.out.below hbc)
            have HP1c := run.hid (HP1b.out.below hbc)
            have HBc : Hid (Below n w wc) := HBb.out.trans (hbc.mono (by have := HBb.out.size; omega))
            clear hbc HAb HRb HP0b HP1b HBb
            go_wp2
            go_roundw
            case rel => exact ⟨2, by omega, by go_num, HP0c, HP1c, HBc, HRc⟩
            case measure => simp [intOf]
        · rw [show ((2 : Nat) : Int) = 2 from rfl]
          go_wp2
          go_ret
          exact ⟨rfl, HBr.out⟩
end Go.Proofs.YtbfheehaagcmeaaDoor.can
