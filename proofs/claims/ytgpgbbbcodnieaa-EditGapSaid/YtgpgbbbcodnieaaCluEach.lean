/-
  The iterator over the clusters of a text: what All hands back, and its contract.
-/
import Derived.Test.YtgpgbbbcodnieaaCluWalks
import Derived.Test.YtgpgbbbcodnieaaUtfUse
import Derived.RangeFuncNested
import Derived.RangeFuncBound
import Derived.RangeFuncCalls
import Derived.RangeFuncLeaves
import Derived.Shelf.Abstract
import Derived.Shelf.RegionOpen
import Derived.WalkKit
import Derived.OwnWalkIn
import Derived.TacticsInMore
import Derived.LoopNIn
import Derived.LoopIn
import Derived.Maps.AppendAt
namespace Go.Proofs.Ytgpgbbbcodnieaa.clu
open Go.RowKit Go.Proofs Go.Shelf
open Go.Proofs.Ytgpgbbbcodnieaa.wid Go.Proofs.Ytgpgbbbcodnieaa.utf
set_option linter.unusedVariables false
attribute [local go_sem] Oper.semAt_some

/-- a cluster as a value: its text, its width -/
def cv (p : List Int) : Value := .agg #[.string (str (text p)), .int .i64 (wide p)]
/-- clusters with the places where they begin -/
def placed : Nat → List (List Int) → List (Nat × List Int)
  | _, [] => []
  | a, p :: t => (a, p) :: placed (a + (text p).length) t
def encs (x : Nat × List Int) : Array Value := #[.int .i64 (x.1 : Nat), cv x.2]

/-- characters to be read in block b alone, with room for a cut -/
def RowIn (b : Nat) (w : World) (v : Value) (l : List Int) : Prop :=
  ∃ a cap, v = .slice a l.length cap ∧ l.length ≤ cap ∧ (l ≠ [] → ∃ off, a = some ⟨b, off, none⟩ ∧ b < w.heap.size ∧ ∀ i, i < l.length → w.cell? ⟨b, off + i, none⟩ = some (.int .i32 (l.getD i 0)))

/-- what a round keeps: block b -/
def KeepsB (b : Nat) (W W' : World) : Prop := W.heap.size ≤ W'.heap.size ∧ W'.heap[b]? = W.heap[b]?
theorem KeepsB.trans {b : Nat} {A B C : World} (h : KeepsB b A B) (k : KeepsB b B C) : KeepsB b A C := ⟨Nat.le_trans h.1 k.1, k.2.trans h.2⟩
theorem KeepsB.refl {b : Nat} (W : World) : KeepsB b W W := ⟨Nat.le_refl _, rfl⟩
theorem KeepsB.below {b : Nat} {W W' : World} (h : Below W.heap.size W W') (hb : b < W.heap.size) : KeepsB b W W' := ⟨h.size, h.block b hb⟩
theorem keepsB_b {b : Nat} {w : World} (hb : b < w.heap.size) (W : World) (l : Nat) (o o' : Obj) (hl : w.heap.size ≤ l) (_ : W.heap[l]? = some o) (_ : o.isCells = false) (_ : o.isWalk = false) : KeepsB b W (W.putObj l o') :=
  ⟨by simp, World.putObj_heap_other (by omega)⟩
theorem KeepsB.cell {b i : Nat} {W W' : World} (h : KeepsB b W W') : W'.cell? ⟨b, i, none⟩ = W.cell? ⟨b, i, none⟩ := by simp only [World.cell?, h.2]
theorem RowIn.keeps {b : Nat} {W W' : World} {v : Value} {l : List Int} (h : RowIn b W v l) (hk : KeepsB b W W') : RowIn b W' v l := by
  obtain ⟨a, cap, rfl, hc, h⟩ := h
  refine ⟨a, cap, rfl, hc, fun hl => ?_⟩
  obtain ⟨off, ha, hb, hcell⟩ := h hl
  exact ⟨off, ha, Nat.lt_of_lt_of_le hb hk.1, fun i hi => hk.cell.trans (hcell i hi)⟩
theorem RowIn.reads {b off : Nat} {W : World} {l m : List Int} {n c : Nat} (hb : b < W.heap.size) (hcell : ∀ i, i < l.length → W.cell? ⟨b, off + i, none⟩ = some (.int .i32 (l.getD i 0))) (hm : m.length = n)
    (hp : ∀ i, i < n → i < l.length ∧ m.getD i 0 = l.getD i 0) : run.Reads W (.slice (some ⟨b, off, none⟩) n c) (rv m) := by
  refine ⟨_, c, by rw [rv_length, hm], fun _ => ⟨b, off, rfl, hb, ?_⟩, fun h => by cases h⟩
  intro i u hi
  have hi2 : i < m.length := by
    rcases Nat.lt_or_ge i m.length with h | h
    · exact h
    · rw [List.getElem?_eq_none (by rw [rv_length]; exact h)] at hi; cases hi
  obtain ⟨h1, h2⟩ := hp i (by omega)
  rw [rv_get hi2, h2] at hi
  rw [hcell i h1]; exact hi

theorem rowIn_drop {b off cap N k : Nat} {W W' : World} {R : List Int} (hb : b < W.heap.size) (hcell : ∀ i, i < N → W.cell? ⟨b, off + i, none⟩ = some (.int .i32 (R.getD i 0))) (hk : KeepsB b W W') (hN : R.length = N) (hkN : k ≤ N) (hcap : N ≤ cap) :
    RowIn b W' (.slice (if cap = k then some ⟨b, off, none⟩ else some ⟨b, off + k, none⟩) (N - k) (cap - k)) (R.drop k) := by
  refine ⟨_, _, by rw [List.length_drop, hN], by rw [List.length_drop, hN]; omega, fun hne => ?_⟩
  have h := List.length_pos_iff.2 hne
  rw [List.length_drop, hN] at h
  refine ⟨off + k, by rw [if_neg (by omega)], Nat.lt_of_lt_of_le hb hk.1, fun i hi => ?_⟩
  rw [List.length_drop, hN] at hi
  rw [Nat.add_assoc, hk.cell, hcell (k + i) (by omega)]
  simp [List.getD_eq_getElem?_getD, List.getElem?_drop]

theorem abides_below {β : Type} {B : Nat} {J : β → World → Prop} (hJ : AbidesFrom B J) {s : β} {W W' : World} (h : J s W) (hb : Below W.heap.size W W') : J s W' :=
  hJ s W W' none h ⟨hb.os, hb.tape, hb.output, hb.size, fun k hk _ => hb.block k hk⟩ (fun r e => by cases e)

def lenOf : Value → Nat
  | .slice _ k _ => k
  | _ => 0

theorem text_piece (l : List Int) : (text (l.take (count l))).length ≤ (text l).length := by
  have := text_append (l.take (count l)) (l.drop (count l))
  rw [List.take_append_drop] at this
  rw [this, List.length_append]; omega
theorem text_split (l : List Int) (k : Nat) : (text (l.take k)).length + (text (l.drop k)).length = (text l).length := by
  have := text_append (l.take k) (l.drop k)
  rw [List.take_append_drop] at this
  rw [this, List.length_append]

set_option maxRecDepth 100000 in
set_option maxHeartbeats 4000000 in
theorem each_in (n : Nat) (hn : 1 ≤ n) (l B b : Nat) (L : List Int) (v : Value) (hL : L.length ≤ 1099511627776) (J Jx : List (Nat × List Int) → World → Prop) (W : World) (hJ : AbidesFrom W.heap.size J) (hBn : W.cell? ⟨B, 0, none⟩ = some v) (hR : RowIn b W v L) (hbW : b < W.heap.size)
    (hY : ∀ pre x W1, J pre W1 → pre ++ [x] <+: placed 0 (cl L) → YieldAt Fence.wide (n - 1) Try.prog l (encs x) W1 fun e W' =>
      (e = .returned (.bool true) ∧ J (pre ++ [x]) W' ∧ KeepsB b W1 W') ∨ (e = .returned (.bool false) ∧ Jx (pre ++ [x]) W')) (h0 : J [] W) :
    CallsIn Fence.wide n Try.prog 75 #[.func (.yield l) #[] #[], .pointer (some ⟨B, 0, none⟩)] W fun e W' => (∃ v, e = .returned v) ∧
      ((∃ ys, ys = placed 0 (cl L) ∧ J ys W') ∨ (∃ pre, pre <+: placed 0 (cl L) ∧ Jx pre W')) := by
  refine callsIn_of_wp Try.func75 rfl trivial ?_ rfl
  simp only [Try.ntmps75, List.size_toArray, List.length_cons, List.length_nil, Nat.reduceAdd, Nat.reduceSub, Array.replicate_succ, Array.replicate_zero, List.push_toArray, List.append_toArray, List.nil_append, List.cons_append]
  gi_wp2
  gi_loopw [3, 4] (fun vp vl wr => ∃ (R : List Int) (pre : List (Nat × List Int)) (at_ : Nat), vp = .int .i64 at_ ∧ RowIn b wr vl R ∧ b < wr.heap.size ∧ R.length ≤ 1099511627776 ∧ at_ + (text R).length ≤ 4398046511104 ∧ Hid (pre ++ placed at_ (cl R) = placed 0 (cl L)) ∧ J pre wr)
    (fun _ vl _ => lenOf vl)
  case atStart =>
    have := (text_length L).2
    exact ⟨L, [], 0, rfl, hR, hbW, hL, by omega, run.hid rfl, h0⟩
  case round =>
    obtain ⟨R, pre, at_, rfl, hrow, hbr, hRl, hat, HP, hJs⟩ := hrel
    by_cases hne : R = []
    · subst hne
      obtain ⟨a, cap, rfl, hcap, -⟩ := hrow
      rw [List.length_nil]
      gi_wp2
      go_end0
      exact ⟨⟨_, rfl⟩, .inl ⟨pre, by have := HP.out; rw [cl_nil] at this; simpa [placed] using this, hJs⟩⟩
    · have hpos := List.length_pos_iff.2 hne
      obtain ⟨hk1, hk2, hk3⟩ := count_bounds R hne
      have HST := run.hid (cl_step R hne)
      have HWD := run.hid (wide_of_piece hne)
      have hts := text_split R (count R)
      obtain ⟨a, cap, rfl, hcap, hrest⟩ := hrow
      obtain ⟨off, rfl, hb, hcell⟩ := hrest hne
      have HC := run.hid hcell
      clear hcell hrest
      have HLEN := run.hid (length_any _ R wr hne (by omega) (RowIn.reads (n := R.length) (c := cap) hb HC.out rfl (fun i hi => ⟨hi, rfl⟩)))
      have HTAKE := run.hid (fun (W1 : World) (hb1 : Below wr.heap.size wr W1) => text_any (.slice (some ⟨b, off, none⟩) (count R) cap) (R.take (count R)) W1
        ((RowIn.reads (n := count R) (c := cap) hb HC.out (by rw [List.length_take]; omega) (fun i hi => ⟨by omega, getD_take R _ i hi⟩)).below hb1) (by rw [List.length_take]; omega))
      unfold Len at HLEN
      generalize hNR : R.length = N at *
      have HNR := run.hid hNR
      clear hNR
      generalize hk : count R = k at *
      gi_wp2_with (refine ⟨trivial, ?_⟩; gi_at_call 76; refine (callsIn_wide.2 HLEN.out).mono ?_; rintro e w1 ⟨rfl, hb1⟩)
      have hJ1 := abides_below hJ hJs hb1
      have HT1 := run.hid (HTAKE.out w1 hb1)
      clear HTAKE HLEN hJs
      gi_wp2_with (refine ⟨trivial, ?_⟩; gi_at_call 43; refine (callsIn_wide.2 HT1.out).mono ?_; rintro e w2 ⟨rfl, hb2⟩)
      clear HT1
      have hB2 := hb1.trans (hb2.mono hb1.size)
      have hJ2 := abides_below hJ hJ1 hb2
      have HP2 : Hid (pre ++ [(at_, R.take k)] ++ placed (at_ + (text (R.take k)).length) (cl (R.drop k)) = placed 0 (cl L)) := run.hid (by rw [← HP.out, HST.out]; simp [placed])
      have HPX : Hid (pre ++ [(at_, R.take k)] <+: placed 0 (cl L)) := run.hid ⟨_, HP2.out⟩
      obtain ⟨fn, tmps, assign, body, hy, hR⟩ := hY pre (at_, R.take k) w2 hJ2 HPX.out
      dsimp only [encs, cv] at hy
      rw [HWD.out] at hy
      have hsz := str_size (text (R.take k))
      clear hY hJ1 hJ2 HST HP hb1 hb2
      generalize str (text (R.take k)) = st at *
      generalize (text (R.take k)).length = m at *
      generalize wide R = wd at *
      rw [hy]
      gi_wp2
      refine hR.mono ?_
      clear hR
      rintro e w3 (⟨rfl, hJ3, hk3'⟩ | ⟨rfl, hJx3⟩)
      · have hKB : KeepsB b wr w3 := (KeepsB.below hB2 hb).trans hk3'
        gi_wp2
        refine ⟨⟨R.drop k, _, at_ + m, by go_num, rowIn_drop hb HC.out hKB HNR.out hk3 hcap, Nat.lt_of_lt_of_le hb hKB.1, by rw [List.length_drop, HNR.out]; omega, by omega, HP2, hJ3⟩, ?_⟩
        show N - k < N
        omega
      · gi_wp2
        refine bodyPost_ret (results_none rfl _ _ _) rfl ?_
        exact ⟨⟨_, rfl⟩, .inr ⟨_, HPX.out, hJx3⟩⟩

end Go.Proofs.Ytgpgbbbcodnieaa.clu
