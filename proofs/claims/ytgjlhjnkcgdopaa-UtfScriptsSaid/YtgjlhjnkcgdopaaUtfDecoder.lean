/-
  The walks of the layer utf: a decoder that is fed in pieces.
-/
import Derived.Test.YtgjlhjnkcgdopaaUtfBytes
import Derived.Test.YtgjlhjnkcgdopaaRegions
import Derived.Deep.RegionHeld3
import Derived.Deep.Cut
import Derived.Deep.DeepCutAuto
namespace Go.Proofs.Ytgjlhjnkcgdopaa.utf
open Go.RowKit Go.Proofs
set_option linter.unusedVariables false

/-- a decoder at block d holds these bytes -/
def HasDec (w : World) (d : Nat) (held : List Nat) : Prop :=
  ∃ cs : List Value, cs.length = 4 ∧ (∀ v ∈ cs, v.oneCell' = true) ∧ w.heap[d]? = some (.cells (cs ++ [Value.int .i64 held.length]).toArray 60 (0, 0)) ∧ held.length ≤ 3 ∧ (∀ c ∈ held, c < 256) ∧ cs.take held.length = bv held

theorem dec_n {w : World} {d : Nat} {held : List Nat} (h : HasDec w d held) : w.cell? ⟨d, 4, none⟩ = some (.int .i64 held.length) ∧ w.frozen? ⟨d, 4, none⟩ = false := by
  obtain ⟨cs, hl, _, hh, _⟩ := h
  constructor
  · simp only [World.cell?]; rw [hh]; simp [hl]
  · simp [World.frozen?, hh]
theorem dec_reads {w : World} {d : Nat} {held : List Nat} (h : HasDec w d held) : run.ReadsN 1 w (.slice (some ⟨d, 0, none⟩) held.length 4) held.length (bv held) := by
  obtain ⟨cs, hl, _, hh, h3, _, ht⟩ := h
  refine ⟨by simp [bv], _, _, rfl, fun _ => ⟨d, 0, rfl, ?_, ?_⟩, fun h => by cases h⟩
  · rcases Nat.lt_or_ge d w.heap.size with h5 | h5
    · exact h5
    · simp [Array.getElem?_eq_none h5] at hh
  · intro i u hi
    have hi2 : i < held.length := by
      rcases Nat.lt_or_ge i held.length with h1 | h1
      · exact h1
      · rw [List.getElem?_eq_none (by rw [bv_length]; exact h1)] at hi; cases hi
    rw [← ht, List.getElem?_take_of_lt hi2] at hi
    simp only [World.cell?, Nat.zero_add]; rw [hh]
    simp only [Option.isSome_none, Bool.false_eq_true, if_false, List.getElem?_toArray]
    rw [List.getElem?_append_left (by omega)]; exact hi
theorem HasDec.kept {w w' : World} {d : Nat} {held : List Nat} (h : HasDec w d held) (hb : w'.heap[d]? = w.heap[d]?) : HasDec w' d held := by
  obtain ⟨cs, h1, h2, hh, h3⟩ := h
  exact ⟨cs, h1, h2, hb.trans hh, h3⟩

theorem own_empty {W : World} {B X : Nat} (h : W.heap[X]? = some (.cells #[] 5 (0, 0))) (hB : B ≤ X) : W.ownsRow B 5 1 (.slice (some ⟨X, 0, none⟩) 0 0) 0 [] :=
  ⟨rfl, .inr ⟨X, 0, #[], rfl, hB, h, Nat.le_refl _, by unfold maxLen; omega, rfl, rfl⟩⟩
def E0 : Obj := .cells #[] 5
def V0 : Obj := .cells #[.slice none 0 0] 47
theorem heap_first (w : World) (o p : Obj) : ((w.alloc o).alloc p).heap[w.heap.size]? = some o := (run.heap_old _ _ (by simp)).trans (run.heap_new w o)
theorem heap_second (w : World) (o p : Obj) : ((w.alloc o).alloc p).heap[w.heap.size + 1]? = some p := by
  have := run.heap_new (w.alloc o) p
  rwa [World.size_alloc] at this
theorem below_grown {B : Nat} {w w1 w2 : World} {row : Option Nat} (h : Below B w w1) (hg : w1.grownBy w2 row) (hB : B ≤ w1.heap.size) (hr : ∀ k, row = some k → B ≤ k) : Below B w w2 := h.grown hg hB hr
theorem cell_grown {w w' : World} {row : Option Nat} (hg : w.grownBy w' row) {b i : Nat} {u : Value} (h : w.cell? ⟨b, i, none⟩ = some u) (hne : some b ≠ row) : w'.cell? ⟨b, i, none⟩ = some u := hg.cell h hne
theorem frozen_grown {w w' : World} {row : Option Nat} (hg : w.grownBy w' row) {b i : Nat} (hlt : b < w.heap.size) (hne : some b ≠ row) : w'.frozen? ⟨b, i, none⟩ = w.frozen? ⟨b, i, none⟩ := World.frozen?_of_block (hg.block b hlt hne)

/-- what stands when the held bytes have been copied into memory of the call's own, and its variable laid -/
def Started (w : World) (held : List Nat) (p : Value) (wx : World) : Prop :=
  ∃ V av, p = .pointer (some ⟨V, 0, none⟩) ∧ w.heap.size ≤ V ∧ wx.heap[V]? = some (.cells #[av] 47 (0, 0)) ∧ wx.ownsRow w.heap.size 5 1 av held.length (bv held) ∧ av.ownBlock ≠ some V ∧ Below w.heap.size w wx

theorem started_A {w W w1 : World} {held : List Nat} {a1 : Option Addr} {c1 : Nat} (hb : Below w.heap.size w W) (hX : W.ownsRow w.heap.size 5 1 (.slice (some ⟨w.heap.size, 0, none⟩) 0 0) 0 [])
    (hown : w1.ownsRow w.heap.size 5 1 (.slice a1 held.length c1) held.length (bv held)) (hg : W.grownBy w1 (some w.heap.size)) :
    Started w held (.pointer (some ⟨w1.heap.size, 0, none⟩)) (w1.alloc (.cells #[.slice a1 held.length c1] 47)) := by
  have hb1 : Below w.heap.size w w1 := hb.grown hg hb.size (fun k hk => by simp at hk; omega)
  refine ⟨w1.heap.size, _, rfl, hb1.size, run.heap_new _ _, hown.alloc _, ?_, hb1.alloc hb1.size _⟩
  intro e
  have := (hown.lt _ e).2
  omega
theorem started_B {w W w1 : World} {held : List Nat} {a1 : Option Addr} {c1 X V : Nat} (hb : Below w.heap.size w W) (hX : w.heap.size ≤ X) (hV : w.heap.size ≤ V) (hVX : V ≠ X) (hVW : V < W.heap.size)
    (hown : w1.ownsRow w.heap.size 5 1 (.slice a1 held.length c1) held.length (bv held)) (hg : W.grownBy w1 (some X)) (hs : run.Step W (.slice (some ⟨X, 0, none⟩) 0 0) 0 (.slice a1 held.length c1) held.length)
    (hv : W.heap[V]? = some (.cells #[.slice none 0 0] 47 (0, 0))) :
    Started w held (.pointer (some ⟨V, 0, none⟩)) (w1.setCell ⟨V, 0, none⟩ (.slice a1 held.length c1)) := by
  have hb1 : Below w.heap.size w w1 := hb.grown hg hb.size (fun k hk => by simp at hk; omega)
  have hv1 : w1.heap[V]? = some (.cells #[.slice none 0 0] 47 (0, 0)) := (hg.block V hVW (by simp [hVX])).trans hv
  have hne : (Value.slice a1 held.length c1).ownBlock ≠ some V := by
    rcases hs with ⟨g, cap, h1, h2⟩ | h
    · simp only [Value.slice.injEq, Option.some.injEq, Addr.mk.injEq] at h1 h2
      obtain ⟨⟨rfl, _⟩, _⟩ := h1
      obtain ⟨rfl, _⟩ := h2
      simp [Value.ownBlock]; omega
    · intro e
      have := h V e
      omega
  exact ⟨V, _, rfl, hV, one_setCell hv1, ownsRow_setCell_other hown hne _, hne, hb1.setCell hV _⟩

/-- where the loop of Feed stands -/
def FeedSt (d V B : Nat) (cs : List Value) (tot : List Nat) (w wr : World) (lv : Value) (k : Nat) (xs : List Int) : Prop :=
  ∃ av, wr.heap[V]? = some (.cells #[av] 47 (0, 0)) ∧ run.Reads wr av (bv (tot.drop k)) ∧ (∀ g, av.ownBlock = some g → g < B ∧ g ≠ V ∧ g ≠ d) ∧ (∀ a n c, av = .slice a n c → n ≤ c) ∧ wr.ownsRow B 21 1 lv xs.length (rv xs) ∧
    wr.heap[d]? = some (.cells (cs ++ [Value.int .i64 0]).toArray 60 (0, 0)) ∧ w.grownBy wr (some d) ∧ B ≤ wr.heap.size ∧ k ≤ tot.length ∧ xs.length ≤ k ∧ feed tot = (xs ++ (feed (tot.drop k)).1, (feed (tot.drop k)).2)

theorem own_block {a : Option Addr} {g off n c : Nat} : (Value.slice (some ⟨g, off, none⟩) n c).ownBlock = some g := rfl

theorem FeedSt.begin {d V : Nat} {cs : List Value} {tot : List Nat} {w w2 : World} {v2 : Value} (hdw : d < w.heap.size) (hVw : w.heap.size ≤ V) (hVh : ∃ u, w2.heap[V]? = some (.cells #[u] 47 (0, 0)))
    (hb : Below w.heap.size w w2) (hown : w2.ownsRow w.heap.size 5 1 v2 tot.length (bv tot)) (hne : v2.ownBlock ≠ some V) {n : Int} (hl : cs.length = 4) (hd : w2.heap[d]? = some (.cells (cs ++ [Value.int .i64 n]).toArray 60 (0, 0))) :
    FeedSt d V w2.heap.size cs tot w ((w2.setCell ⟨V, 0, none⟩ v2).setCell ⟨d, 4, none⟩ (.int .i64 0)) (.slice none 0 0) 0 [] := by
  obtain ⟨u, hVh⟩ := hVh
  have hVd : V ≠ d := by omega
  have hdV : d ≠ V := by omega
  have h1 : (w2.setCell ⟨V, 0, none⟩ v2).heap[V]? = some (.cells #[v2] 47 (0, 0)) := one_setCell hVh
  have h2 : (w2.setCell ⟨V, 0, none⟩ v2).heap[d]? = some (.cells (cs ++ [Value.int .i64 n]).toArray 60 (0, 0)) := (Below.heap_setCell _ _ _ _ hdV).trans hd
  have hne2 : v2.ownBlock ≠ some d := by
    intro e; have := (hown.lt _ e).1; omega
  have hown3 := ownsRow_setCell_other (ownsRow_setCell_other hown (a := ⟨V, 0, none⟩) hne v2) (a := ⟨d, 4, none⟩) hne2 (.int .i64 0)
  refine ⟨v2, ?_, ?_, ?_, ?_, World.ownsRow_nil _ _ _ _, ?_, ?_, ?_, Nat.zero_le _, Nat.zero_le _, by simp⟩
  · rw [Below.heap_setCell _ _ _ _ hVd]; exact h1
  · rw [List.drop_zero]; exact run.reads_own hown3
  · intro g hg
    have := hown.lt g hg
    exact ⟨this.2, by intro e; subst e; exact hne hg, by omega⟩
  · intro a n' c e
    rcases hown.2 with ⟨h, _⟩ | ⟨g, cap, cur, h, _, _, h5, _⟩
    · rw [e] at h; simp only [Value.slice.injEq] at h; omega
    · rw [e] at h; simp only [Value.slice.injEq] at h; omega
  · have hlt : d < (w2.setCell ⟨V, 0, none⟩ v2).heap.size := lt_of_block h2
    simp only [World.setCell, Array.getElem?_modify] at h2 ⊢
    simp only [if_neg hVd, hd]
    simp [hl]
  · refine ⟨hb.os, hb.tape, hb.output, by simp [World.setCell]; exact hb.size, ?_⟩
    intro k hk hkd
    rw [Below.heap_setCell _ _ _ _ (by intro e; exact hkd (by rw [e])), Below.heap_setCell _ _ _ _ (by show k ≠ V; omega)]
    exact hb.block k hk
  · simp [World.setCell]

/-- how many bytes the variable leads to -/
def lenAt (V : Nat) (w : World) : Nat := match w.cell? ⟨V, 0, none⟩ with | some (.slice _ n _) => n | _ => 0
theorem FeedSt.len {d V B : Nat} {cs : List Value} {tot : List Nat} {w wr : World} {lv : Value} {k : Nat} {xs : List Int} (h : FeedSt d V B cs tot w wr lv k xs) : lenAt V wr = tot.length - k := by
  obtain ⟨av, hV, ⟨a, cap, rfl, _⟩, _⟩ := h
  unfold lenAt
  rw [cell_of_one hV]
  simp [bv_length]

/-- the decoder's block behind the copy, and behind the count's store -/
theorem dec_copied {w : World} {d : Nat} {cs xs : List Value} (hl : cs.length = 4) (hx : xs.length ≤ 4) {n m : Int} (h : w.heap[d]? = some (.cells ((cs ++ [Value.int .i64 n]).take 0 ++ xs ++ (cs ++ [Value.int .i64 n]).drop (0 + xs.length)).toArray 60 (0, 0))) :
    w.cell? ⟨d, 4, none⟩ = some (.int .i64 n) ∧ w.frozen? ⟨d, 4, none⟩ = false ∧ (w.setCell ⟨d, 4, none⟩ (.int .i64 m)).heap[d]? = some (.cells (xs ++ cs.drop xs.length ++ [Value.int .i64 m]).toArray 60 (0, 0)) := by
  have e : (cs ++ [Value.int .i64 n]).take 0 ++ xs ++ (cs ++ [Value.int .i64 n]).drop (0 + xs.length) = xs ++ cs.drop xs.length ++ [Value.int .i64 n] := by
    rw [List.take_zero, List.nil_append, Nat.zero_add, List.drop_append_of_le_length (by omega), List.append_assoc]
  rw [e] at h
  have hlen : (xs ++ cs.drop xs.length).length = 4 := by rw [List.length_append, List.length_drop]; omega
  refine ⟨?_, by simp [World.frozen?, h], ?_⟩
  · simp only [World.cell?]; rw [h]
    simp only [Option.isSome_none, Bool.false_eq_true, if_false, List.getElem?_toArray]
    rw [List.getElem?_append_right (by omega), hlen]; rfl
  · simp only [World.setCell, Array.getElem?_modify, if_true, h, Option.map_some, Option.some.injEq, Obj.cells.injEq, and_true]
    simp only [List.setIfInBounds_toArray]
    generalize xs ++ cs.drop xs.length = ys at *
    match ys, hlen with
    | [a, b, c, d], _ => rfl

theorem reads_tail {w w4 : World} {g off L n c : Nat} {rem : List Nat} (hcell : ∀ i u, (bv rem)[i]? = some u → w.cell? ⟨g, off + i, none⟩ = some u) (hg : w4.heap[g]? = w.heap[g]?) (hlt : g < w4.heap.size) (hL : L = rem.length) :
    run.Reads w4 (.slice (some ⟨g, off + n, none⟩) (L - n) c) (bv (rem.drop n)) := by
  have hlen : (bv (rem.drop n)).length = L - n := by rw [bv_length, List.length_drop, hL]
  rw [← hlen]
  refine ⟨_, c, rfl, fun _ => ⟨g, off + n, rfl, hlt, ?_⟩, fun h => by cases h⟩
  intro i u hi
  have e : (bv (rem.drop n))[i]? = (bv rem)[n + i]? := by simp [bv, List.getElem?_drop]
  rw [e] at hi
  have := hcell _ _ hi
  rw [← Nat.add_assoc] at this
  exact (World.cell?_of_block (w := w) (a := ⟨g, off + n + i, none⟩) hg).trans this

/-- WHAT FEED DOES: what it tells lies in memory of its own; the decoder holds the rest; nothing else that was there has turned -/
def Fed (d : Nat) (held l : List Nat) (w : World) (e : Ending) (w' : World) : Prop :=
  ∃ v, e = .returned v ∧ w'.ownsRow w.heap.size 21 1 v (feed (held ++ l)).1.length (rv (feed (held ++ l)).1) ∧ HasDec w' d (feed (held ++ l)).2 ∧ w.grownBy w' (some d)

/-- the loop is done: all has been told -/
theorem FeedSt.all {d V B : Nat} {cs : List Value} {held l tot : List Nat} {w wr : World} {lv : Value} {k : Nat} {xs : List Int} (h : FeedSt d V B cs tot w wr lv k xs) (hB : w.heap.size ≤ B) (hl : cs.length = 4) (h1 : ∀ v ∈ cs, v.oneCell' = true) (hr : tot.drop k = []) (ht : tot = held ++ l) :
    Fed d held l w (.returned lv) wr := by
  obtain ⟨av, _, _, _, _, ho, hd, hg, _, _, _, hf⟩ := h
  rw [hr, feed_nil, List.append_nil] at hf
  subst ht
  refine ⟨lv, rfl, ?_, ?_, hg⟩
  · rw [hf]; exact run.own_mono ho hB
  · rw [hf]; exact ⟨cs, hl, h1, hd, by simp, by simp, by simp [bv]⟩
/-- the rest is a beginning that is open: it is held -/
theorem FeedSt.opened {d V B : Nat} {cs : List Value} {held l tot rem : List Nat} {w wr w2 w' : World} {lv : Value} {k : Nat} {xs : List Int} (h : FeedSt d V B cs tot w wr lv k xs) (hB : w.heap.size ≤ B) (hl : cs.length = 4) (h1 : ∀ v ∈ cs, v.oneCell' = true) (hr : rem = tot.drop k) (ht : tot = held ++ l)
    (ho : (first rem).2.2 = true) (hbyte : ∀ c ∈ rem, c < 256) (hb : Below wr.heap.size wr w2) (hg : w2.grownBy w' (some d)) (hdB : d < B) (hbB : ∀ k, lv.ownBlock = some k → B ≤ k)
    (hd : w'.heap[d]? = some (.cells (bv rem ++ cs.drop rem.length ++ [Value.int .i64 rem.length]).toArray 60 (0, 0))) :
    Fed d held l w (.returned lv) w' := by
  obtain ⟨av, _, _, _, _, hown, _, hgr, hBr, _, _, hf⟩ := h
  rw [← hr, feed_open _ ho, List.append_nil] at hf
  subst ht
  have hop := first_open _ ho
  have hown2 := run.own_below hown hb
  have hown3 := hown2.kept hg (by
    cases e : lv.ownBlock with
    | none => exact .inl rfl
    | some k => right; intro e2; simp only [Option.some.injEq] at e2; have := hbB k e; omega)
  refine ⟨lv, rfl, ?_, ?_, ?_⟩
  · rw [hf]; exact run.own_mono hown3 hB
  · rw [hf]
    refine ⟨bv rem ++ cs.drop rem.length, by rw [List.length_append, bv_length, List.length_drop]; omega, ?_, hd, by simp only; omega, hbyte, ?_⟩
    · intro v hv
      rcases List.mem_append.1 hv with hv | hv
      · exact bv_one _ v hv
      · exact h1 v (List.mem_of_mem_drop hv)
    · simp only
      rw [List.take_append_of_le_length (by rw [bv_length]; exact Nat.le_refl _), List.take_of_length_le (by rw [bv_length]; exact Nat.le_refl _)]
  · exact run.grown_trans hgr (r' := some d) ⟨hg.os.trans hb.os, hg.tape.trans hb.tape, hg.output.trans hb.output, Nat.le_trans hb.size hg.size, fun j hj hne => (hg.block j (Nat.lt_of_lt_of_le hj hb.size) hne).trans (hb.block j hj)⟩ (.inl rfl)
/-- one character more -/
theorem FeedSt.next {d V B : Nat} {cs : List Value} {tot rem : List Nat} {w wr w2 w3 : World} {lv lv2 : Value} {k n : Nat} {xs : List Int} {r : Int} {av2 : Value} (h : FeedSt d V B cs tot w wr lv k xs) (hB : w.heap.size ≤ B) (hVB : V < B) (hdB : d < B) (hdV : d ≠ V) (hdw : d < w.heap.size) (hVw : w.heap.size ≤ V)
    (hr : rem = tot.drop k) (hne : rem ≠ []) (ho : (first rem).2.2 = false) (hr1 : ((first rem).1 : Int) = r) (hn : (first rem).2.1 = n) (hb : Below wr.heap.size wr w2)
    (hown : w3.ownsRow B 21 1 lv2 (xs.length + 1) (rv xs ++ [.int .i32 r])) (hg : w2.grownBy w3 lv.ownBlock) (hbB : ∀ k, lv.ownBlock = some k → B ≤ k)
    (hav : ∀ w4 : World, (∀ g, g < B → g ≠ V → w4.heap[g]? = w3.heap[g]?) → w3.heap.size ≤ w4.heap.size → run.Reads w4 av2 (bv (tot.drop (k + n)))) (hav2 : ∀ g, av2.ownBlock = some g → g < B ∧ g ≠ V ∧ g ≠ d) (hav3 : ∀ a n c, av2 = .slice a n c → n ≤ c) :
    FeedSt d V B cs tot w (w3.setCell ⟨V, 0, none⟩ av2) lv2 (k + n) (xs ++ [r]) := by
  obtain ⟨av, hV, _, _, _, _, hd, hgr, hBr, hk, hxk, hf⟩ := h
  have hc := first_count rem hne
  have hlen : rem.length = tot.length - k := by rw [hr, List.length_drop]
  have hV2 : w2.heap[V]? = wr.heap[V]? := hb.block V (by omega)
  have hsz := hb.size
  have hV3 : w3.heap[V]? = w2.heap[V]? := hg.block V (by omega) (fun e => by have := hbB V e.symm; omega)
  have hd2 : w2.heap[d]? = wr.heap[d]? := hb.block d (by omega)
  have hd3 : w3.heap[d]? = w2.heap[d]? := hg.block d (by omega) (fun e => by have := hbB d e.symm; omega)
  have hlvV : lv2.ownBlock ≠ some V := by intro e; have := (hown.lt V e).1; omega
  refine ⟨av2, one_setCell (hV3.trans (hV2.trans hV)), hav _ (fun g hg1 hg2 => Below.heap_setCell _ _ _ _ hg2) (by simp [World.setCell]), hav2, hav3, ?_, ?_, ?_, ?_, by omega, by simp; omega, ?_⟩
  · rw [List.length_append, ← rv_snoc]; exact ownsRow_setCell_other hown hlvV _
  · rw [Below.heap_setCell _ _ _ _ hdV]; exact hd3.trans (hd2.trans hd)
  · refine ⟨hg.os.trans (hb.os.trans hgr.os), hg.tape.trans (hb.tape.trans hgr.tape), hg.output.trans (hb.output.trans hgr.output), ?_, ?_⟩
    · have h1 := hg.size; have h2 := hgr.size; simp only [World.setCell, Array.size_modify]; omega
    · intro j hj hjd
      have hjr := Nat.lt_of_lt_of_le hj hgr.size
      have e0 : (w3.setCell ⟨V, 0, none⟩ av2).heap[j]? = w3.heap[j]? := Below.heap_setCell _ _ _ _ (by show j ≠ V; omega)
      rw [e0, hg.block j (by omega) (fun e => by have := hbB j e.symm; omega), hb.block j hjr, hgr.block j hj hjd]
  · have := hg.size; simp only [World.setCell, Array.size_modify]; omega
  · rw [hf, ← hr, feed_step rem hne ho, hr1, hn, hr, List.drop_drop]
    simp

set_option maxRecDepth 100000 in
set_option maxHeartbeats 4000000 in
theorem feed_any (d : Nat) (held : List Nat) (bv0 : Value) (l : List Nat) (w : World) (hd : HasDec w d held) (hb : run.Reads w bv0 (bv l)) (hl : l.length ≤ 35184372088000) (hlb : ∀ c ∈ l, c < 256) : Calls Try.prog 26 #[.pointer (some ⟨d, 0, none⟩), bv0] w (Fed d held l w) := by
  have HB := run.hid hb
  clear hb
  obtain ⟨i0, hi, hz0, hz1, hz2⟩ := info_parts info_byte
  have hn := (dec_n hd).1
  have h3 : held.length ≤ 3 := by obtain ⟨cs, _, _, _, h3, _⟩ := hd; exact h3
  have HR := run.hid (dec_reads hd)
  have hlt := run.lt_of_cell hn
  have HD := run.hid hd
  clear hd
  obtain ⟨ir, hir, hrz0, hrz1, hrz2⟩ := info_parts info_rune
  have hm0 : (0 : Int) ≤ (held.length : Int) := by omega
  have hne1 : d ≠ w.heap.size + 1 := by omega
  have hne2 : d ≠ w.heap.size := by omega
  have hne3 : w.heap.size + 1 ≠ d := by omega
  have hne4 : w.heap.size ≠ d := by omega
  have hm1 : (held.length : Int) ≤ 4 := by omega
  have bA : Hid (Below w.heap.size w (w.alloc E0).drew) := ((Below.refl _ _).alloc (Nat.le_refl _) _).drew
  have bB : Hid (Below w.heap.size w ((w.alloc E0).alloc V0).drew) := (run.below_two w E0 V0).drew
  have bC : Hid (Below w.heap.size w ((w.alloc V0).alloc E0).drew) := (run.below_two w V0 E0).drew
  have oA : Hid ((w.alloc E0).drew.ownsRow w.heap.size 5 1 (.slice (some ⟨w.heap.size, 0, none⟩) 0 0) 0 []) := own_empty (run.heap_new w E0) (Nat.le_refl _)
  have oB : Hid (((w.alloc E0).alloc V0).drew.ownsRow w.heap.size 5 1 (.slice (some ⟨w.heap.size, 0, none⟩) 0 0) 0 []) := own_empty (heap_first w E0 V0) (Nat.le_refl _)
  have oC : Hid (((w.alloc V0).alloc E0).drew.ownsRow w.heap.size 5 1 (.slice (some ⟨w.heap.size + 1, 0, none⟩) 0 0) 0 []) := own_empty (heap_second w V0 E0) (Nat.le_succ _)
  have vB : Hid (((w.alloc E0).alloc V0).drew.heap[w.heap.size + 1]? = some (.cells #[.slice none 0 0] 47 (0, 0))) := heap_second w E0 V0
  have vC : Hid (((w.alloc V0).alloc E0).drew.heap[w.heap.size]? = some (.cells #[.slice none 0 0] 47 (0, 0))) := heap_first w V0 E0
  go_enter Try.func26, Try.ntmps26
  go_upto_region 3 with fail
  go_cut [5] (fun p wx => Started w held p wx)
  case first =>
    go_region_held3 (fun w' => w'.cell? ⟨d, 4, none⟩ = some (.int .i64 held.length)) (go_keep)
      (first
        | (refine run.step_append_any (by rfl) _ _ 47 (by rfl) w.heap.size 5 i0 (.int .u8 0) 1 1 Try.underlying47 hi hz0 hz1 hz2 rfl (by decide) _ 0 [] (by rfl) oA.out _ held.length (bv held) (by rfl) (HR.out.below bA.out) (bv_one _) (by unfold maxLen; omega) (by omega) (by simp) ?_; intro v1 w1 hown1 hgrow1 _ hstep1; obtain ⟨a1, c1, rfl⟩ := run.own_value hown1; have hs1 := cell_grown hgrow1 ((bA.out.cell (p := ⟨d, 4, none⟩) hlt).trans hn) (by simp [Value.ownBlock]; omega))
        | (refine run.step_append_any (by rfl) _ _ 47 (by rfl) w.heap.size 5 i0 (.int .u8 0) 1 1 Try.underlying47 hi hz0 hz1 hz2 rfl (by decide) _ 0 [] (by rfl) oB.out _ held.length (bv held) (by rfl) (HR.out.below bB.out) (bv_one _) (by unfold maxLen; omega) (by omega) (by simp; omega) ?_; intro v1 w1 hown1 hgrow1 _ hstep1; obtain ⟨a1, c1, rfl⟩ := run.own_value hown1; have hs1 := cell_grown hgrow1 ((bB.out.cell (p := ⟨d, 4, none⟩) hlt).trans hn) (by simp [Value.ownBlock]; omega); have hv1 := cell_grown hgrow1 (cell_of_one vB.out) (by simp [Value.ownBlock]); have hv2 := (frozen_grown hgrow1 (lt_of_block vB.out) (i := 0) (by simp [Value.ownBlock])).trans (free_of_one vB.out))
        | (refine run.step_append_any (by rfl) _ _ 47 (by rfl) w.heap.size 5 i0 (.int .u8 0) 1 1 Try.underlying47 hi hz0 hz1 hz2 rfl (by decide) _ 0 [] (by rfl) oC.out _ held.length (bv held) (by rfl) (HR.out.below bC.out) (bv_one _) (by unfold maxLen; omega) (by omega) (by simp; omega) ?_; intro v1 w1 hown1 hgrow1 _ hstep1; obtain ⟨a1, c1, rfl⟩ := run.own_value hown1; have hs1 := cell_grown hgrow1 ((bC.out.cell (p := ⟨d, 4, none⟩) hlt).trans hn) (by simp [Value.ownBlock]; omega); have hv1 := cell_grown hgrow1 (cell_of_one vC.out) (by simp [Value.ownBlock]); have hv2 := (frozen_grown hgrow1 (lt_of_block vC.out) (i := 0) (by simp [Value.ownBlock])).trans (free_of_one vC.out)))
    · go_wp2_with fail
      go_meet
      simp only [Nat.zero_add, List.nil_append] at hown1
      exact started_A bA.out oA.out hown1 hgrow1
    · go_wp2_with fail
      go_meet
      simp only [Nat.zero_add, List.nil_append] at hown1 hstep1
      exact started_B (X := w.heap.size) bB.out (Nat.le_refl _) (Nat.le_succ _) (by omega) (lt_of_block vB.out) hown1 hgrow1 hstep1 vB.out
    · go_wp2_with fail
      go_meet
      simp only [Nat.zero_add, List.nil_append] at hown1 hstep1
      exact started_B (X := w.heap.size + 1) bC.out (Nat.le_succ _) (Nat.le_refl _) (by omega) (lt_of_block vC.out) hown1 hgrow1 hstep1 vC.out
  case rest =>
    clear bA bB bC oA oB oC vB vC hm0 hm1 hne1 hne2 hne3 hne4 hn
    obtain ⟨V, av, rfl, hVw, hVh, hown, hVne, hbel⟩ := hcut
    have hcV := cell_of_one hVh
    have hfV := free_of_one hVh
    have hwz := hbel.size
    have HRB := run.hid ((HB.out.below hbel).n)
    rw [bv_length] at HRB
    obtain ⟨aa, ca, rfl⟩ := run.own_value hown
    go_wp2_with (at_builtin; refine run.wpList_append_any _ rfl _ _ 47 rfl w.heap.size 5 i0 (.int .u8 0) 1 1 Try.underlying47 hi hz0 hz1 hz2 rfl (by decide) _ held.length (bv held) rfl hown _ l.length (bv l) rfl HRB.out (bv_one _) (by unfold maxLen; omega) (by omega) hwz ?_)
    intro v2 w2 hown2 hgrow2 _ hstep2
    rw [bv_append] at hown2
    have hVlt := lt_of_block hVh
    have hV2 := run.hid ((hgrow2.block V hVlt (fun e => hVne e.symm)).trans hVh)
    have hcV2 := cell_of_one hV2.out
    have hfV2 := free_of_one hV2.out
    have hbel2 := hbel.grown hgrow2 hwz (fun k hk => (hown.lt k hk).1)
    have hD2 := HD.out.kept (hbel2.block d hlt)
    have hcn := (dec_n hD2).1
    have hfn := (dec_n hD2).2
    obtain ⟨cs, hcl, hc1, hch, -, -, -⟩ := hD2
    have hne2 : v2.ownBlock ≠ some V := by
      rcases hstep2 with ⟨g, cap, h1, h2⟩ | h
      · intro e; apply hVne; rw [h1]; rw [h2] at e; exact e
      · intro e; have := h V e; omega
    have hST := run.hid (FeedSt.begin (tot := held ++ l) hlt hVw ⟨_, hV2.out⟩ hbel2 (by rw [List.length_append]; exact hown2) hne2 hcl hch)
    obtain ⟨a2, c2, rfl⟩ := run.own_value hown2
    have hB2 : w.heap.size ≤ w2.heap.size := hbel2.size
    have hVB : V < w2.heap.size := lt_of_block hV2.out
    obtain ⟨B, hBe⟩ : ∃ B, B = w2.heap.size := ⟨_, rfl⟩
    rw [← hBe] at hST hB2 hVB
    clear hBe hown2 hgrow2 hstep2 hV2 hbel2 hch hne2 hVlt hown hVne hbel hVh hcV hfV hwz HRB HB
    have hneVd : V ≠ d := by omega
    have hnedV : d ≠ V := by omega
    go_wp2
    clear hcV2 hfV2 hcn hfn
    obtain ⟨tot, htot⟩ : ∃ tot, tot = held ++ l := ⟨_, rfl⟩
    have htl : tot.length ≤ 35184372088003 := by rw [htot, List.length_append]; omega
    rw [← htot] at hST
    have HTB : Hid (∀ c ∈ tot, c < 256) := by
      obtain ⟨_, _, _, _, _, hcb, _⟩ := HD.out
      intro c hc
      rw [htot] at hc
      rcases List.mem_append.1 hc with hc | hc
      · exact hcb c hc
      · exact hlb c hc
    have HTOT := run.hid htot
    clear htot hlb HD HR
    go_loopw [6] (fun lv wr => ∃ k : Nat, ∃ xs : List Int, Hid (FeedSt d V B cs tot w wr lv k xs)) (fun _ wr => lenAt V wr)
    case atStart => exact ⟨0, [], hST⟩
    case round =>
      clear hST
      obtain ⟨k, xs, HS⟩ := hrel
      have hlen := run.hid HS.out.len
      obtain ⟨rem, hrem⟩ : ∃ rem, rem = tot.drop k := ⟨_, rfl⟩
      obtain ⟨av, hVh, hrd, hab, hcap, hown, hdh, hgr, hBr, hkt, hxk, hf⟩ := HS.out
      rw [← hrem] at hrd
      have hrl : rem.length = tot.length - k := by rw [hrem, List.length_drop]
      have hcV := cell_of_one hVh
      have hRD := run.hid hrd
      obtain ⟨a, cap, rfl, hcc, -⟩ := hrd
      rw [bv_length] at hcV hRD hVh hab hcap
      have hcap2 := hcap _ _ _ rfl
      clear hcap
      clear hf hgr
      have hCEL : Hid ((bv rem) ≠ [] → ∀ g off, a = some ⟨g, off, none⟩ → ∀ i u, (bv rem)[i]? = some u → wr.cell? ⟨g, off + i, none⟩ = some u) := by
        intro hne g off ha i u hi
        obtain ⟨b', o', e, _, h⟩ := hcc hne
        rw [ha] at e
        simp only [Option.some.injEq, Addr.mk.injEq] at e
        obtain ⟨rfl, rfl, _⟩ := e
        exact h i u hi
      cases rem with
      | nil =>
        have hfin := run.hid (HS.out.all hB2 hcl hc1 hrem.symm HTOT.out)
        clear hVh hRD hab hown hdh hrem hrl hlen hcc
        go_wp2
        go_ret
        exact hfin.out
      | cons b0 t0 =>
        obtain ⟨g, off, rfl, hglt, hcell⟩ := hcc (by simp [bv])
        have hVr : V < wr.heap.size := by omega
        have htl0 : (b0 :: t0).length ≤ 35184372088003 := by omega
        have hby : Hid (∀ c ∈ (b0 :: t0), c < 256) := by
          intro c hc
          rw [hrem] at hc
          exact HTB.out c (List.mem_of_mem_drop hc)
        have hTL := run.hid (tells_bytes (b0 :: t0) V _ wr hVr hcV hRD.out (by omega))
        have hFB := run.hid (first_bytes _ b0 t0 wr (by have : (b0 :: t0).length = t0.length + 1 := rfl; omega) hby.out hTL.out)
        have hfc := first_count (b0 :: t0) (by simp)
        have HREM := run.hid hrem
        have hOP := run.hid (fun w2 w' ho hb hg hdB hbB hd => HS.out.opened (w2 := w2) (w' := w') hB2 hcl hc1 HREM.out HTOT.out ho hby.out hb hg hdB hbB hd)
        have hNX := run.hid (fun w2 w3 lv2 n r av2 ho hr1 hn hb ho2 hg hbB hav hav2 hav3 => HS.out.next (w2 := w2) (w3 := w3) (lv2 := lv2) (n := n) (r := r) (av2 := av2) hB2 hVB (by omega) hnedV hlt hVw HREM.out (by simp) ho hr1 hn hb ho2 hg hbB hav hav2 hav3)
        have hBL := run.hid (fun k hk => (hown.lt k hk).1)
        clear hrem hTL hcell hdh
        generalize hq : first (b0 :: t0) = q at *
        obtain ⟨r, n, o⟩ := q
        simp only at hfc
        obtain ⟨hn1, hn4, hnl⟩ := hfc
        have HQ := run.hid hq
        clear hq
        obtain ⟨L, hL⟩ : ∃ L, L = (b0 :: t0).length := ⟨_, rfl⟩
        rw [← hL] at hFB hcV hVh hRD hrl htl0 hnl hcap2
        have HL := run.hid hL
        have hrl1 : L + k ≤ tot.length := by omega
        have hrl2 : tot.length ≤ L + k := by omega
        clear hL hrl
        have HCC := run.hid hcc
        clear hcc
        go_wp2_with fail
        refine (hFB.out).mono ?_
        rintro e w2 ⟨rfl, hb2⟩
        have hcV2 := (hb2.cell (p := ⟨V, 0, none⟩) hVr).trans hcV
        have HB2W := run.hid hb2
        clear hFB hcV
        cases o with
        | true =>
          have hdl : d < wr.heap.size := by omega
          have hd2 : Hid (w2.heap[d]? = some (.cells (cs ++ [Value.int .i64 0]).toArray 60 (0, 0))) := (hb2.block d hdl).trans (by obtain ⟨_, _, _, _, _, _, h5, _⟩ := HS.out; exact h5)
          have hL3 : L ≤ 3 := by have := first_open (b0 :: t0) (by rw [HQ.out]); rw [← HL.out] at this; omega
          have hrd2 := run.hid (hRD.out.below hb2)
          have hsrc : Hid (∀ j v, (bv (b0 :: t0))[j]? = some v → w2.drew.cell? ((⟨g, off, none⟩ : Addr).add j) = some v) := by
            intro j v hj
            obtain ⟨a', c', e1, h1, _⟩ := hrd2.out
            simp only [Value.slice.injEq] at e1
            obtain ⟨rfl, _, _⟩ := e1
            obtain ⟨b', off', e2, _, h2⟩ := h1 (by simp [bv])
            simp only [Option.some.injEq, Addr.mk.injEq] at e2
            obtain ⟨rfl, rfl, _⟩ := e2
            rw [run.add_none]
            exact h2 j v hj
          clear hb2 hab hown hBr hn1 hn4 hnl
          go_upto_region 10 with fail
          go_region_held3 (fun w' => w'.cell? ⟨V, 0, none⟩ = some (.slice (some ⟨g, off, none⟩) L cap)) (go_keep)
            (first
              | (refine run.step_copy_row (by rfl) _ _ 47 47 (by rfl) 5 Try.underlying47 (by rw [hi]; simp [hz1]) d 0 4 4 ⟨g, off, none⟩ L cap (by rfl) (by rfl) _ _ hd2.out (bv (b0 :: t0)) (by rw [bv_length, ← HL.out]; exact (Nat.min_eq_left (by omega)).symm) hsrc.out (by simp [bv_length, ← HL.out, hcl]; omega) (bv_one _) ?_; intro w5 hd5 hg5; have hdd := dec_copied hcl (by rw [bv_length, ← HL.out]; omega) (m := ((bv (b0 :: t0)).length : Int)) hd5; have k1 := hdd.1; have k2 := hdd.2.1; have k3 := cell_grown hg5 (show w2.drew.cell? ⟨V, 0, none⟩ = _ from hcV2) (by simpa using hneVd)))
          have hg6 : Hid (w2.grownBy (w5.setCell ⟨d, 4, none⟩ (.int .i64 ((bv (b0 :: t0)).length : Int))) (some d)) := run.grown_trans (w1 := w5) (r' := some d) ⟨hg5.os, hg5.tape, hg5.output, hg5.size, hg5.block⟩ ⟨rfl, rfl, rfl, by simp [World.setCell], fun j hj hne => Below.heap_setCell _ _ _ _ (by intro e; exact hne (by rw [e]))⟩ (.inl rfl)
          have hd6 := hdd.2.2
          have hfin := run.hid (hOP.out w2 _ (by first | rfl | trivial) HB2W.out hg6.out (by omega) hBL.out (by have h := hd6; rw [bv_length] at h ⊢; exact h))
          clear hd6 hdd k1 k2 k3 hd5 hg5
          go_wp2
          go_ret
          exact hfin.out
        | false =>
          have hown2 := run.own_below hown hb2
          have hBr2 : B ≤ w2.heap.size := Nat.le_trans hBr hb2.size
          go_wp2_with (at_builtin; refine run.wpList_append_any _ rfl _ _ 22 rfl B 21 ir (.int .i32 0) 1 4 Try.underlying22 hir hrz0 hrz1 hrz2 rfl (by decide) _ xs.length (rv xs) rfl (hown2.alloc _) _ 1 [.int .i32 r] rfl (run.readsN_new w2 [.int .i32 r] 1 1 _ rfl) (by intro u hu; simp at hu; subst hu; rfl) (by unfold maxLen; omega) (by omega) (by simp; omega) ?_)
          intro v3 w3 hown3 hgrow3 _ _
          have hglB := hab g rfl
          have hBL2 := hBL.out
          have hVL : (some V : Option Nat) ≠ u6.ownBlock := by intro e; have := hBL2 V e.symm; omega
          have hcV3 := cell_grown hgrow3 (run.cell_old w2 (.cells #[.int .i32 r] 21) hcV2) hVL
          have hfV3 : w3.frozen? ⟨V, 0, none⟩ = false := by
            rw [frozen_grown hgrow3 (by simp; omega) hVL]
            have h1 : (w2.alloc (.cells #[.int .i32 r] 21)).heap[V]? = wr.heap[V]? := (run.heap_old _ _ (by omega)).trans (HB2W.out.block V hVr)
            rw [World.frozen?_of_block (w := wr) (a := ⟨V, 0, none⟩) h1]
            exact free_of_one hVh
          have hbx : Hid (Below wr.heap.size wr (w2.alloc (.cells #[.int .i32 r] 21))) := HB2W.out.alloc HB2W.out.size _
          have hg3 : Hid (∀ w4 : World, (∀ g, g < B → g ≠ V → w4.heap[g]? = w3.heap[g]?) → w4.heap[g]? = wr.heap[g]?) := by
            intro w4 h
            have e2 : w3.heap[g]? = (w2.alloc (.cells #[.int .i32 r] 21)).heap[g]? := hgrow3.block g (by simp; omega) (fun e => by have := hBL2 g e.symm; omega)
            exact (h g hglB.1 hglB.2.1).trans (e2.trans (hbx.out.block g (by omega)))
          have hnew := run.hid (fun av2 hav hav2 hav3 => hNX.out (w2.alloc (.cells #[.int .i32 r] 21)) w3 v3 n (r : Int) av2 (by first | rfl | trivial) (by first | rfl | trivial) (by first | rfl | trivial) hbx.out hown3 hgrow3 hBL2 hav hav2 hav3)
          have hdrop : Hid (tot.drop (k + n) = (b0 :: t0).drop n) := by
            have h := congrArg (List.drop n) HREM.out
            rw [List.drop_drop] at h; exact h.symm
          have hw3 : B ≤ w3.heap.size := Nat.le_trans hBr2 (by have := hgrow3.size; simp at this; omega)
          clear hown3 hgrow3 hown2 hown hVL
          by_cases hnc : n = cap
          · have hLn : L = n := by omega
            have hX := run.hid (hnew.out (.slice (some ⟨g, off, none⟩) (L - n) 0) (fun w4 h1 h2 => by
              have e0 : (b0 :: t0).drop n = [] := List.drop_eq_nil_of_le (by have := HL.out; omega)
              rw [hdrop.out, e0, show L - n = 0 by omega]
              exact ⟨_, 0, rfl, fun h => absurd rfl h, fun h => by cases h⟩) (fun g' hg' => by simp [Value.ownBlock] at hg'; subst hg'; exact hglB) (fun a n' c e => by simp only [Value.slice.injEq] at e; omega))
            have hlen2 := run.hid hX.out.len
            have hXX : Hid (FeedSt d V B cs tot w (w3.setCell ⟨V, 0, none⟩ (.slice (some ⟨g, off, none⟩) 0 0)) v3 (k + n) (xs ++ [(r : Int)])) := by have h := hX.out; rw [show L - n = 0 by omega] at h; exact h
            subst hLn
            have hn0 : (0 : Int) ≤ (L : Int) := by omega
            clear hX hlen2 hVh hab hn4 hnew
            subst hnc
            go_wp2
            go_roundw
            case rel => exact ⟨_, _, hXX⟩
            case measure => show lenAt V _ < lenAt V wr; rw [hXX.out.len, hlen.out]; omega
          · have hlt2 : n < cap := by omega
            have hX := run.hid (hnew.out (.slice (some ⟨g, off + n, none⟩) (L - n) (cap - n)) (fun w4 h1 h2 => by
              rw [hdrop.out]
              exact reads_tail (hCEL.out (by simp [bv]) g off rfl) (hg3.out w4 h1) (by omega) HL.out) (fun g' hg' => by simp [Value.ownBlock] at hg'; subst hg'; exact hglB) (fun a n' c e => by simp only [Value.slice.injEq] at e; omega))
            clear hVh hab hn4 hnew
            go_wp2
            go_roundw
            case rel => exact ⟨_, _, hX⟩
            case measure => show lenAt V _ < lenAt V wr; rw [hX.out.len, hlen.out]; omega
end Go.Proofs.Ytgjlhjnkcgdopaa.utf
