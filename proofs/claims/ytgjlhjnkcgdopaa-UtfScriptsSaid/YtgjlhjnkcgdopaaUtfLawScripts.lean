/-
  The law UtfScripts: two decoders, any calls on each in turns.
-/
import Derived.Test.YtgjlhjnkcgdopaaUtfFresh
import Derived.Test.YtgjlhjnkcgdopaaOpenRows
import Derived.Test.YtgjlhjnkcgdopaaWithin
import Derived.StillTail
import Derived.StillTactics
import Derived.Test.YtgjlhjnkcgdopaaUtfWakes
namespace Go.Proofs.Ytgjlhjnkcgdopaa.utf
open Go.RowKit Go.Proofs Go.ChangeShapes Go.WideShapes Go.ChangeAt
open Go.Proofs.Ytgjlhjnkcgdopaa.wth
set_option linter.unusedVariables false

/-- a step as it came in -/
structure StU where
  d : Int
  a : Option Addr
  c : Nat
  l : List Nat
def su0 : StU := ⟨0, none, 0, []⟩
def StU.val (q : StU) : Value := .agg #[.int .i64 q.d, .slice q.a q.l.length q.c]
structure StU.ok (q : StU) (w : World) : Prop where
  reads : run.Reads w (.slice q.a q.l.length q.c) (bv q.l)
  byte : ∀ c ∈ q.l, c < 256
  len : q.l.length ≤ 140737488355328
def ScriptAt (w : World) (a : Option Addr) (SL : List StU) : Prop := ∀ i, i < SL.length → ∃ b off, a = some ⟨b, off, none⟩ ∧ b < w.heap.size ∧ w.cell? ⟨b, off + i * 2, none⟩ = some (.int .i64 (SL.getD i su0).d) ∧ w.cell? ⟨b, off + i * 2 + 1, none⟩ = some (.slice (SL.getD i su0).a (SL.getD i su0).l.length (SL.getD i su0).c) ∧ (SL.getD i su0).ok w

section
variable {H : Type} {enc : TypeId × Value → H} {w : World} {base : Nat} {held : Bool}
set_option maxRecDepth 100000 in
theorem bytes_within {fuel : Nat} {cs : List Value} {x : DataW H × List MemPlace} (hw : Within Try.prog 47 x.1) (h : DataW.trod enc Try.prog w base (fun _ => true) held fuel 47 cs = some x) :
    ∃ (a : Option Addr) (cap : Nat) (l : List Nat), cs = [.slice a l.length cap] ∧ run.Reads w (.slice a l.length cap) (bv l) ∧ (∀ c ∈ l, c < 256) ∧ l.length ≤ 140737488355328 := by
  rcases slice_within Try.underlying47 hw h with rfl | ⟨a, len, cap, n, rfl, -, hl, hm, hby, hi⟩
  · exact ⟨none, 0, [], rfl, ⟨none, 0, by simp [bv], fun h => absurd rfl h, fun _ => rfl⟩, by simp, by simp⟩
  · have hc1 : Try.prog.cellsOf 5 = 1 := by kernel_rfl
    have hb1 : Try.prog.bytesOf 5 = 1 := by kernel_rfl
    rw [hc1] at hi
    rw [hb1] at hby
    have hr : reachBytes = 140737488351232 := rfl
    have hcell : ∀ i, i < cap → ∃ c : Nat, c < 256 ∧ w.cell? ((a.add (i * 1)).add 0) = some (.int .u8 c) := by
      intro i hic
      obtain ⟨cs', y, h1, h2, h3⟩ := hi i hic
      obtain ⟨z, e, -, wz⟩ := DataW.trod_int Try.underlying5 h2
      obtain ⟨-, -, hc⟩ := World.cells?_some h1
      have hb : 0 ≤ z ∧ z ≤ 255 := by simpa [Lit.wf, IntKind.min, IntKind.max, IntKind.signed, IntKind.bits] using wz
      refine ⟨z.toNat, by omega, ?_⟩
      rw [hc 0 (by omega), e, Int.toNat_of_nonneg hb.1]
      rfl
    obtain ⟨f, hf⟩ := Go.Deep.choose_lt (α := Nat) hcell
    have hls : ((List.range len).map f).length = len := by simp
    refine ⟨some a, cap, (List.range len).map f, by rw [hls], ?_, fun c hc => ?_, by rw [hls]; omega⟩
    · refine ⟨some a, cap, by simp [bv], fun hne => ?_, fun h => by cases h⟩
      have h0 : 0 < len := by
        rcases Nat.eq_zero_or_pos len with h | h
        · subst h; simp [bv] at hne
        · exact h
      obtain ⟨b, off, spot⟩ := a
      have z0 := (hf 0 (by omega)).2
      have hspot : spot = none := by simpa [Addr.add] using World.cell?_spot z0
      subst hspot
      refine ⟨b, off, rfl, ?_, fun i u hi => ?_⟩
      · simp only [run.add_none] at z0
        exact run.lt_of_cell z0
      · have hil : i < len := by
          rcases Nat.lt_or_ge i len with h | h
          · exact h
          · rw [List.getElem?_eq_none (by simp [bv]; omega)] at hi; cases hi
        have g := (hf i (by omega)).2
        simp only [run.add_none, Nat.mul_one, Nat.add_zero] at g
        rw [g]
        simpa [bv, hil] using hi
    · obtain ⟨i, hi2, rfl⟩ := List.mem_map.1 hc
      exact (hf i (by have := List.mem_range.1 hi2; omega)).1
set_option maxRecDepth 100000 in
theorem stepU_within {fuel : Nat} {cs : List Value} {x : DataW H × List MemPlace} (hw : Within Try.prog 49 x.1) (h : DataW.trod enc Try.prog w base (fun _ => true) held fuel 49 cs = some x) : ∃ q : StU, cs = [.int .i64 q.d, .slice q.a q.l.length q.c] ∧ q.ok w := by
  obtain ⟨hl, n, hf⟩ := fields_within Try.underlying49 hw h
  rw [show Try.prog.cellsOf 49 = 2 by kernel_rfl] at hl
  match cs, hl with
  | [c0, c1], _ =>
    obtain ⟨y0, h0, g0⟩ := hf 0 _ rfl
    obtain ⟨y1, h1, g1⟩ := hf 1 _ rfl
    obtain ⟨n0, e0, -, w0⟩ := DataW.trod_int Try.underlying3 h0
    obtain ⟨a, cap, l, e1, r1, b1, m1⟩ := bytes_within g1 h1
    change [c0] = _ at e0
    change [c1] = _ at e1
    simp only [List.cons.injEq, and_true] at e0 e1
    subst e0 e1
    exact ⟨⟨n0, a, cap, l⟩, rfl, r1, b1, m1⟩
set_option maxRecDepth 100000 in
theorem open_scriptU {v : Value} {d : DataW H} {p : List MemPlace} (hw : Within Try.prog 33 d) (hv : Value.okWide Try.prog w .any base 33 v) (h : DataW.Trod enc Try.prog w 0 (fun _ => true) true 33 v d p) :
    ∃ (a : Option Addr) (cap : Nat) (SL : List StU), v = .slice a SL.length cap ∧ ScriptAt w a SL ∧ SL.length ≤ 4398046511104 := by
  obtain ⟨a0, len0, cap0, rfl⟩ := okWide_slice Try.underlying33 hv
  obtain ⟨fuel, hf⟩ := h
  rcases slice_within Try.underlying33 hw hf with hcs | ⟨a, len, cap, n, hcs, -, hl, hm, hby, hi⟩
  · simp only [Value.cells, List.cons.injEq, and_true, Value.slice.injEq] at hcs
    obtain ⟨rfl, rfl, rfl⟩ := hcs
    exact ⟨none, 0, [], rfl, fun i hi => by simp at hi, by simp⟩
  · simp [Value.cells] at hcs
    obtain ⟨rfl, rfl, rfl⟩ := hcs
    have hc2 : Try.prog.cellsOf 49 = 2 := by kernel_rfl
    have hb32 : Try.prog.bytesOf 49 = 32 := by kernel_rfl
    rw [hc2] at hi
    rw [hb32] at hby
    have hr : reachBytes = 140737488351232 := rfl
    have hcell : ∀ i, i < cap0 → ∃ q : StU, q.ok w ∧ w.cell? ((a.add (i * 2)).add 0) = some (.int .i64 q.d) ∧ w.cell? ((a.add (i * 2)).add 1) = some (.slice q.a q.l.length q.c) := by
      intro i hic
      obtain ⟨cs', y, h1, h2, h3⟩ := hi i hic
      obtain ⟨q, rfl, hok⟩ := stepU_within h3 h2
      obtain ⟨-, -, hc⟩ := World.cells?_some h1
      exact ⟨q, hok, hc 0 (by omega), hc 1 (by omega)⟩
    haveI : Inhabited StU := ⟨su0⟩
    obtain ⟨f, hf⟩ := Go.Deep.choose_lt (α := StU) hcell
    have hls : ((List.range len0).map f).length = len0 := by simp
    refine ⟨some a, cap0, (List.range len0).map f, by rw [hls], fun i hi' => ?_, by rw [hls]; omega⟩
    rw [hls] at hi'
    obtain ⟨hok, g0, g1⟩ := hf i (by omega)
    obtain ⟨b, off, spot⟩ := a
    have z0 := (hf 0 (by omega)).2.1
    have hspot : spot = none := by simpa [Addr.add] using World.cell?_spot z0
    subst hspot
    simp only [run.add_none, Nat.add_zero] at g0 g1
    have hget : ((List.range len0).map f).getD i su0 = f i := by simp [List.getD_eq_getElem?_getD, hi']
    rw [hget]
    exact ⟨b, off, rfl, run.lt_of_cell g0, g0, g1, hok⟩
end

theorem info_bytes : (Try.prog.info? 47).map (fun i => (i.zero, i.size, i.bytes)) = some (some (.slice none 0 0), 1, 24) := by kernel_rfl
def pieces (SL : List StU) : List (List Nat) := SL.map (·.l)
def slices (SL : List StU) : List Value := SL.map fun q => .slice q.a q.l.length q.c
theorem slices_take {SL : List StU} {i : Nat} (h : i < SL.length) : slices (SL.take i) ++ [.slice (SL.getD i su0).a (SL.getD i su0).l.length (SL.getD i su0).c] = slices (SL.take (i + 1)) := by
  unfold slices
  rw [List.take_succ_eq_append_getElem h, List.map_append]
  simp [List.getD_eq_getElem?_getD, h]

set_option maxRecDepth 100000 in
set_option maxHeartbeats 1000000 in
theorem fed_any (a : Option Addr) (cap : Nat) (SL : List StU) (w : World) (hS : ScriptAt w a SL) (hn : SL.length ≤ 4398046511104) :
    Calls Try.prog 20 #[.slice a SL.length cap] w fun e w' => ∃ v, e = .returned v ∧ Rows2 w' v (pieces SL) ∧ Below w.heap.size w w' := by
  obtain ⟨ir, hir, hrz0, hrz1, hrz2⟩ := info_parts info_bytes
  have HS := run.hid hS
  clear hS
  have HT := run.hid (fun i h => @slices_take SL i h)
  have hN : Hid (∀ v X, World.ownsRow X w.heap.size 47 1 v SL.length (slices SL) → Below w.heap.size w X → Rows2 X v (pieces SL)) := fun v X ho hb => by
    have hl : (pieces SL).length = SL.length := by simp [pieces]
    rcases ho.2 with ⟨rfl, h0⟩ | ⟨g, c, cur, rfl, -⟩
    · exact ⟨none, 0, by rw [hl, h0], fun i hi => by omega⟩
    · refine ⟨some ⟨g, 0, none⟩, c, by rw [hl], fun i hi => ?_⟩
      rw [hl] at hi
      obtain ⟨b, off, -, -, -, -, ok⟩ := HS.out i hi
      have hg : (pieces SL).getD i [] = (SL.getD i su0).l := by simp [pieces, List.getD_eq_getElem?_getD, hi]
      have hc := ho.cellAt i (by omega)
      have hsg : (slices SL)[i]? = some (.slice (SL.getD i su0).a (SL.getD i su0).l.length (SL.getD i su0).c) := by simp [slices, List.getD_eq_getElem?_getD, hi]
      rw [hsg] at hc
      rw [hg]
      exact ⟨g, 0, _, _, rfl, (ho.lt g rfl).2, by rw [Nat.zero_add]; exact hc, ok.reads.below hb, ok.byte, ok.len⟩
  generalize hNl : SL.length = N at *
  have HNL := run.hid hNl
  clear hNl
  go_enter Try.func20, Try.ntmps20
  go_wp2
  go_loopw [3, 4] (fun vo vi wr => ∃ i : Nat, i ≤ N ∧ vi = .int .i64 i ∧ Hid (wr.ownsRow w.heap.size 47 1 vo i (slices (SL.take i))) ∧ Below w.heap.size w wr) (fun _ vi _ => (N - intOf vi).toNat)
  case atStart => exact ⟨0, by omega, rfl, World.ownsRow_nil _ _ _ _, Below.refl _ _⟩
  case round =>
    obtain ⟨i, hiN, rfl, HO, hbel⟩ := hrel
    have hz := hbel.size
    by_cases hil : i < N
    · obtain ⟨b, off, rfl, hblt, -, c1, -⟩ := HS.out i (by rw [HNL.out]; exact hil)
      replace c1 := (hbel.cell (p := ⟨b, off + i * 2 + 1, none⟩) hblt).trans c1
      have HTi := run.hid (HT.out i hil)
      generalize SL.getD i su0 = q at *
      obtain ⟨qd, qa, qc, ql⟩ := q
      dsimp only at c1 HTi
      have HO2 := run.hid (HO.out.alloc (.cells #[.slice qa ql.length qc] 47))
      go_wp2_with (at_builtin; refine run.wpList_append_any _ rfl _ (.tmp 17) 35 rfl w.heap.size 47 ir (.slice none 0 0) 1 24 Try.underlying35 hir hrz0 hrz1 hrz2 rfl (by decide) _ i _ rfl HO2.out _ 1 [.slice qa ql.length qc] rfl (run.readsN_new wr [.slice qa ql.length qc] 1 1 _ rfl) (by intro u hu; simp at hu; subst hu; rfl) (by unfold maxLen; omega) (by omega) (by simp; omega) ?_)
      intro vo2 w2 hown2 hgrow2 _ _
      rw [HTi.out] at hown2
      have HO3 := run.hid hown2
      have hb2 := run.below_append (hbel.alloc hz (.cells #[.slice qa ql.length qc] 47)) HO2.out hgrow2 (by simp; omega)
      clear hown2 hgrow2 HO HO2 HTi c1
      go_wp2
      go_roundw
      case rel => exact ⟨i + 1, by omega, by go_num, HO3, hb2⟩
      case measure => simp [intOf]; omega
    · obtain rfl : i = N := by omega
      have hfin := HO.out
      rw [List.take_of_length_le (by rw [HNL.out]; exact Nat.le_refl _)] at hfin
      have HF := run.hid (hN.out _ wr hfin hbel)
      clear hfin HO HS HT hN hil
      go_wp2
      go_ret
      exact ⟨_, rfl, HF.out, hbel⟩

/-- one pair and how it stands -/
structure Side (A P R : Nat) (t m : Value) (hp : List Nat) (L M : List Tld) (B i : Nat) (w : World) : Prop where
  duo : Duo A P R t m hp hp L M B w
  alike : Alike2 L M
  len : L.length ≤ i
  tiny : ∀ q ∈ L, q.2.length ≤ 268435456
/-- both pairs, in no block together -/
def Two (A1 P1 R1 A2 P2 R2 B i j : Nat) (w : World) : Prop :=
  ∃ t1 m1 h1 L1 M1 t2 m2 h2 L2 M2, Side A1 P1 R1 t1 m1 h1 L1 M1 B i w ∧ Side A2 P2 R2 t2 m2 h2 L2 M2 B j w ∧ ∀ k, duoHas A1 P1 R1 t1 m1 L1 M1 k → ¬ duoHas A2 P2 R2 t2 m2 L2 M2 k
theorem Side.below {A P R : Nat} {t m : Value} {hp : List Nat} {L M : List Tld} {B i : Nat} {w w' : World} (h : Side A P R t m hp L M B i w) (hb : Below w.heap.size w w') : Side A P R t m hp L M B i w' := ⟨h.duo.below hb, h.alike, h.len, h.tiny⟩
theorem Side.more {A P R : Nat} {t m : Value} {hp : List Nat} {L M : List Tld} {B i j : Nat} {w : World} (h : Side A P R t m hp L M B i w) (hj : i ≤ j) : Side A P R t m hp L M B j w := ⟨h.duo, h.alike, Nat.le_trans h.len hj, h.tiny⟩
theorem Two.more {A1 P1 R1 A2 P2 R2 B i j i' j' : Nat} {w : World} (h : Two A1 P1 R1 A2 P2 R2 B i j w) (hi : i ≤ i') (hj : j ≤ j') : Two A1 P1 R1 A2 P2 R2 B i' j' w := by
  obtain ⟨t1, m1, h1, L1, M1, t2, m2, h2, L2, M2, a, b, c⟩ := h
  exact ⟨t1, m1, h1, L1, M1, t2, m2, h2, L2, M2, a.more hi, b.more hj, c⟩
theorem Two.turn {A1 P1 R1 A2 P2 R2 B i j : Nat} {w : World} (h : Two A1 P1 R1 A2 P2 R2 B i j w) : Two A2 P2 R2 A1 P1 R1 B j i w := by
  obtain ⟨t1, m1, h1, L1, M1, t2, m2, h2, L2, M2, a, b, c⟩ := h
  exact ⟨t2, m2, h2, L2, M2, t1, m1, h1, L1, M1, b, a, fun k hk hk2 => c k hk2 hk⟩
/-- behind a step: the pair itself -/
theorem stepped_side {A P R : Nat} {t m : Value} {L M : List Tld} {hp : List Nat} {B i : Nat} {w w' : World} {e : Ending} {hp' : List Nat} (h : Side A P R t m hp L M B i w) (hs : Stepped A P R t m L M B w e w' hp' hp') :
    ∃ t' m' L' M', Side A P R t' m' hp' L' M' B (i + 1) w' ∧ (∀ k, duoHas A P R t' m' L' M' k → duoHas A P R t m L M k ∨ w.heap.size ≤ k) ∧ Chg (duoHas A P R t m L M) w w' := by
  obtain ⟨t', m', L', M', hD, hC, ht, hm, hL, hM, hA, hl, htn⟩ := hs.ex
  refine ⟨t', m', L', M', ⟨hD, hA, by have := h.len; omega, fun q hq => ?_⟩, fun k hk => ?_, ⟨hC.os, hC.tape, hC.output, hC.size, fun k hk hn => hC.block k hk fun h2 => hn (duoS_has h2)⟩⟩
  · rcases htn q hq with h1 | h1
    · exact h.tiny q h1
    · exact h1
  · rcases hk with hk | hk | hk | hk | hk | ⟨q, hq, hk⟩ | ⟨q, hq, hk⟩
    · exact .inl (.inl hk)
    · exact .inl (.inr (.inl hk))
    · exact .inl (.inr (.inr (.inl hk)))
    · rcases ht k hk with h1 | h1
      · exact .inl (.inr (.inr (.inr (.inl h1))))
      · exact .inr h1
    · rcases hm k hk with h1 | h1
      · exact .inl (.inr (.inr (.inr (.inr (.inl h1)))))
      · exact .inr h1
    · rcases hL q hq with h1 | h1
      · exact .inl (.inr (.inr (.inr (.inr (.inr (.inl ⟨q, h1, hk⟩))))))
      · exact .inr (h1 k hk)
    · rcases hM q hq with h1 | h1
      · exact .inl (.inr (.inr (.inr (.inr (.inr (.inr ⟨q, h1, hk⟩))))))
      · exact .inr (h1 k hk)
/-- a step on the first, or on the second -/
theorem two_first {A1 P1 R1 A2 P2 R2 B i j : Nat} {w0 w : World} (q : StU) (h : Two A1 P1 R1 A2 P2 R2 B i j w) (hb0 : Below w0.heap.size w0 w) (hw0 : w0.heap.size ≤ B) (hq : q.ok w0) (hl : q.l.length ≤ 134217728) (hi : i ≤ 134217728) :
    Calls Try.prog 22 #[.pointer (some ⟨A1, 0, none⟩), .agg #[.int .i64 q.d, .slice q.a q.l.length q.c]] w fun e w' => e = .returned (.bool true) ∧ Two A1 P1 R1 A2 P2 R2 B (i + 1) j w' ∧ Below w0.heap.size w0 w' := by
  obtain ⟨t1, m1, h1, L1, M1, t2, m2, h2, L2, M2, a, b, c⟩ := h
  refine (step_any q.d q.a q.c q.l a.duo hb0 hw0 hq.reads hq.byte hl (Nat.le_trans a.len hi) a.alike).mono fun e w' ⟨hp', hs⟩ => ?_
  obtain ⟨t', m', L', M', hS, hH, hC⟩ := stepped_side a hs
  refine ⟨hs.ret, ⟨t', m', hp', L', M', t2, m2, h2, L2, M2, hS, ?_, ?_⟩, hC.to_below hb0 (fun k hk => Nat.le_trans hw0 (a.duo.lt hk).2) hb0.size⟩
  · have : Duo A2 P2 R2 t2 m2 h2 h2 L2 M2 B w' := b.duo.keep fun k hk => hC.block k (b.duo.lt hk).1 fun h3 => c k h3 hk
    exact ⟨this, b.alike, b.len, b.tiny⟩
  · intro k hk hk2
    rcases hH k hk with h3 | h3
    · exact c k h3 hk2
    · have := (b.duo.lt hk2).1; omega
theorem two_second {A1 P1 R1 A2 P2 R2 B i j : Nat} {w0 w : World} (q : StU) (h : Two A1 P1 R1 A2 P2 R2 B i j w) (hb0 : Below w0.heap.size w0 w) (hw0 : w0.heap.size ≤ B) (hq : q.ok w0) (hl : q.l.length ≤ 134217728) (hi : j ≤ 134217728) :
    Calls Try.prog 22 #[.pointer (some ⟨A2, 0, none⟩), .agg #[.int .i64 q.d, .slice q.a q.l.length q.c]] w fun e w' => e = .returned (.bool true) ∧ Two A1 P1 R1 A2 P2 R2 B i (j + 1) w' ∧ Below w0.heap.size w0 w' :=
  (two_first q h.turn hb0 hw0 hq hl hi).mono fun e w' ⟨he, ht, hb⟩ => ⟨he, ht.turn, hb⟩

/-- a new pair -/
theorem duo_start {A P R B : Nat} {w : World} (hb : w.heap[A]? = some (.cells #[.pointer (some ⟨P, 0, none⟩), .pointer (some ⟨R, 0, none⟩), .slice none 0 0, .slice none 0 0] 45 (0, 0))) (hP : HasDec w P []) (hR : HasRef w R []) (hA : B ≤ A) (hP2 : B ≤ P) (hR2 : B ≤ R) :
    Side A P R (.slice none 0 0) (.slice none 0 0) [] [] [] B 0 w :=
  ⟨⟨hb, hP, hR, World.ownsRow_nil _ _ _ _, World.ownsRow_nil _ _ _ _, fun k hk => by simp [Value.ownBlock] at hk, fun q hq => by simp at hq, fun q hq => by simp at hq, List.Pairwise.nil, List.Pairwise.nil, fun q hq => by simp at hq, hA, hP2, hR2⟩, rfl, Nat.le_refl _, fun q hq => by simp at hq⟩

theorem sumTo_one (ls : List (List Nat)) {i : Nat} (hi : i < ls.length) : (ls.getD i []).length ≤ sumTo ls ls.length ∧ ls.length ≤ sumTo ls ls.length := by
  constructor
  · have := sumTo_mono ls (i + 1) ls.length (by omega)
    have e : sumTo ls (i + 1) = sumTo ls i + 1 + (ls.getD i []).length := rfl
    omega
  · have := flatTo_len ls ls.length (Nat.le_refl _)
    omega
theorem script_small {SL : List StU} (h : sumTo (pieces SL) (pieces SL).length ≤ 134217728) : SL.length ≤ 134217728 ∧ ∀ i, i < SL.length → (SL.getD i su0).l.length ≤ 134217728 := by
  have hl : (pieces SL).length = SL.length := by simp [pieces]
  constructor
  · have := flatTo_len (pieces SL) (pieces SL).length (Nat.le_refl _)
    omega
  · intro i hi
    have h1 := (sumTo_one (pieces SL) (i := i) (by omega)).1
    have hg : (pieces SL).getD i [] = (SL.getD i su0).l := by simp [pieces, List.getD_eq_getElem?_getD, hi]
    rw [hg] at h1
    omega

set_option maxRecDepth 100000 in
set_option maxHeartbeats 4000000 in
theorem lawScripts_any (a1 : Option Addr) (c1 : Nat) (SL1 : List StU) (a2 : Option Addr) (c2 : Nat) (SL2 : List StU) (w : World) (hS1 : ScriptAt w a1 SL1) (hn1 : SL1.length ≤ 4398046511104) (hS2 : ScriptAt w a2 SL2) (hn2 : SL2.length ≤ 4398046511104) :
    Calls Try.prog 5 #[.slice a1 SL1.length c1, .slice a2 SL2.length c2] w fun e w' => e = .returned (.bool true) ∧ Below w.heap.size w w' := by
  have HS1 := run.hid hS1
  have HS2 := run.hid hS2
  have HF1 := run.hid (fed_any a1 c1 SL1 w hS1 hn1)
  have HP1 : Hid ((pieces SL1).length < 4611686018427387904) := by show _ < _; simp [pieces]; omega
  have HP2 : Hid ((pieces SL2).length < 4611686018427387904) := by show _ < _; simp [pieces]; omega
  have HF2 : Hid (∀ X, Below w.heap.size w X → Calls Try.prog 20 #[.slice a2 SL2.length c2] X fun e w' => ∃ v, e = .returned v ∧ Rows2 w' v (pieces SL2) ∧ Below X.heap.size X w') := fun X hX => fed_any a2 c2 SL2 X (fun i hi => by
    obtain ⟨b, off, ha, hlt, g0, g1, ok⟩ := hS2 i hi
    exact ⟨b, off, ha, Nat.lt_of_lt_of_le hlt hX.size, (hX.cell (p := ⟨b, off + i * 2, none⟩) hlt).trans g0, (hX.cell (p := ⟨b, off + i * 2 + 1, none⟩) hlt).trans g1, ok.reads.below hX, ok.byte, ok.len⟩) hn2
  have HM1 := run.hid (@script_small SL1)
  have HM2 := run.hid (@script_small SL2)
  clear hS1 hS2
  generalize hN1 : SL1.length = N1 at *
  generalize hN2 : SL2.length = N2 at *
  have HN1 := run.hid hN1
  have HN2 := run.hid hN2
  clear hN1 hN2
  go_enter Try.func5, Try.ntmps5
  go_wp2_with fail
  refine HF1.out.mono ?_
  rintro e w1 ⟨v1, rfl, hr1, hb1⟩
  have HB1 := run.hid hb1
  have HY1 := run.hid (beyond_any v1 _ w1 hr1 HP1.out)
  clear hr1 HF1 hb1
  go_wp2_with fail
  refine HY1.out.mono ?_
  rintro e w2 ⟨b1, rfl, hs1, hb2⟩
  have HB2 := run.hid (HB1.out.trans (hb2.mono HB1.out.size))
  have HQ1 := run.hid hs1
  clear HY1 HB1 hb2 hs1
  cases b1 with
  | true =>
    go_wp2
    go_ret
    exact ⟨rfl, HB2.out⟩
  | false =>
    go_wp2_with fail
    refine (HF2.out w2 HB2.out).mono ?_
    rintro e w3 ⟨v3, rfl, hr3, hb3⟩
    have HB3 := run.hid (HB2.out.trans (hb3.mono HB2.out.size))
    have HY2 := run.hid (beyond_any v3 _ w3 hr3 HP2.out)
    clear hr3 HF2 hb3 HB2
    go_wp2_with fail
    refine HY2.out.mono ?_
    rintro e w4 ⟨b2, rfl, hs2, hb4⟩
    have HB4 := run.hid (HB3.out.trans (hb4.mono HB3.out.size))
    have HQ2 := run.hid hs2
    clear HY2 HB3 hb4 hs2
    cases b2 with
    | true =>
      go_wp2
      go_ret
      exact ⟨rfl, HB4.out⟩
    | false =>
      obtain ⟨hm1, hl1⟩ := HM1.out (HQ1.out (by first | rfl | trivial))
      obtain ⟨hm2, hl2⟩ := HM2.out (HQ2.out (by first | rfl | trivial))
      have HL1 := run.hid hl1
      have HL2 := run.hid hl2
      clear hl1 hl2 HM1 HM2 HQ1 HQ2 HP1 HP2 hn1 hn2
      go_wp2_with fail
      refine (new_any w4).mono ?_
      rintro e w5 ⟨rfl, hd5, hlt5, hb5⟩
      have hs4 := HB4.out.size
      generalize hP1 : w4.heap.size = P1 at *
      have HB5 := run.hid (HB4.out.trans (hb5.mono (by omega)))
      have HD5 := run.hid hd5
      have HHP1 := run.hid hP1
      clear hd5 hb5 hP1
      go_upto_region 4 with fail
      have hr5 := w5.heap.size
      have hbA := heap_second w5 (.cells #[.string ⟨#[]⟩] 42) (.cells #[.pointer (some ⟨P1, 0, none⟩), .pointer (some ⟨w5.heap.size, 0, none⟩), .slice none 0 0, .slice none 0 0] 45)
      have hbR := heap_first w5 (.cells #[.string ⟨#[]⟩] 42) (.cells #[.pointer (some ⟨P1, 0, none⟩), .pointer (some ⟨w5.heap.size, 0, none⟩), .slice none 0 0, .slice none 0 0] 45)
      have hb6 := run.below_two w5 (.cells #[.string ⟨#[]⟩] 42) (.cells #[.pointer (some ⟨P1, 0, none⟩), .pointer (some ⟨w5.heap.size, 0, none⟩), .slice none 0 0, .slice none 0 0] 45)
      generalize (w5.alloc (.cells #[.string ⟨#[]⟩] 42)).alloc (.cells #[.pointer (some ⟨P1, 0, none⟩), .pointer (some ⟨w5.heap.size, 0, none⟩), .slice none 0 0, .slice none 0 0] 45) = w6 at *
      have S6 := run.hid (duo_start (B := w.heap.size) hbA (HD5.out.kept (hb6.block P1 hlt5)) ⟨⟨#[]⟩, hbR, rfl, by simp⟩ (by omega) hs4 (by omega))
      have HB6 := run.hid (HB5.out.trans (hb6.mono HB5.out.size))
      have hA6 := lt_of_block hbA
      generalize hR1 : w5.heap.size = R1 at *
      have HHR1 := run.hid hR1
      clear hR1 hbA hbR hb6 hr5 HD5 HB5
      go_wp2_with fail
      refine (new_any w6).mono ?_
      rintro e w7 ⟨rfl, hd7, hlt7, hb7⟩
      have S7 := run.hid (S6.out.below hb7)
      have hlt16 := run.hid (fun k hk => (S6.out.duo.lt (k := k) hk).1)
      have hs6 : w.heap.size ≤ w6.heap.size := by omega
      generalize hP2 : w6.heap.size = P2 at *
      have HB7 := run.hid (HB6.out.trans (hb7.mono (by omega)))
      have HD7 := run.hid hd7
      have HHP2 := run.hid hP2
      clear hd7 hb7 hP2 S6 HB6
      go_upto_region 5 with fail
      have hbA := heap_second w7 (.cells #[.string ⟨#[]⟩] 42) (.cells #[.pointer (some ⟨P2, 0, none⟩), .pointer (some ⟨w7.heap.size, 0, none⟩), .slice none 0 0, .slice none 0 0] 45)
      have hbR := heap_first w7 (.cells #[.string ⟨#[]⟩] 42) (.cells #[.pointer (some ⟨P2, 0, none⟩), .pointer (some ⟨w7.heap.size, 0, none⟩), .slice none 0 0, .slice none 0 0] 45)
      have hb8 := run.below_two w7 (.cells #[.string ⟨#[]⟩] 42) (.cells #[.pointer (some ⟨P2, 0, none⟩), .pointer (some ⟨w7.heap.size, 0, none⟩), .slice none 0 0, .slice none 0 0] 45)
      generalize (w7.alloc (.cells #[.string ⟨#[]⟩] 42)).alloc (.cells #[.pointer (some ⟨P2, 0, none⟩), .pointer (some ⟨w7.heap.size, 0, none⟩), .slice none 0 0, .slice none 0 0] 45) = w8 at *
      have S8b := run.hid (duo_start (B := w.heap.size) hbA (HD7.out.kept (hb8.block P2 hlt7)) ⟨⟨#[]⟩, hbR, rfl, by simp⟩ (by omega) hs6 (by omega))
      have S8 := run.hid (S7.out.below hb8)
      have HB8 := run.hid (HB7.out.trans (hb8.mono HB7.out.size))
      have HT8 : Hid (Two (R1 + 1) P1 R1 (w7.heap.size + 1) P2 w7.heap.size w.heap.size 0 0 w8) := ⟨_, _, _, _, _, _, _, _, _, _, S8.out, S8b.out, fun k hk hk2 => by
        have h1 := hlt16.out k hk
        rcases hk2 with h2 | h2 | h2 | h2 | h2 | ⟨q, h2, -⟩ | ⟨q, h2, -⟩
        · omega
        · omega
        · omega
        · simp [Value.ownBlock] at h2
        · simp [Value.ownBlock] at h2
        · simp at h2
        · simp at h2⟩
      obtain ⟨x0, -, -, -, -, -⟩ := box_cells4 S8.out.duo.box
      obtain ⟨y0, -, -, -, -, -⟩ := box_cells4 S8b.out.duo.box
      generalize hR2 : w7.heap.size = R2 at *
      clear hbA hbR hb8 hR2 S8 S8b S7 HD7 HB7 hlt16
      go_wp2
      clear x0 y0
      go_loopw [7] (fun vi wr => ∃ i : Nat, (i ≤ N1 ∨ i ≤ N2) ∧ vi = .int .i64 i ∧ Hid (Two (R1 + 1) P1 R1 (R2 + 1) P2 R2 w.heap.size i i wr) ∧ Hid (Below w.heap.size w wr)) (fun vi _ => (N1 + N2 - intOf vi).toNat)
      case atStart => exact ⟨0, by omega, rfl, HT8, HB8⟩
      case round =>
        clear HT8 HB8
        obtain ⟨i, hi, rfl, HT, HB⟩ := hrel
        by_cases h1 : i < N1
        · obtain ⟨b, off, rfl, hblt, g0, g1, ok⟩ := HS1.out i (by rw [HN1.out]; exact h1)
          have hll := HL1.out i h1
          have HX := run.hid (two_first (SL1.getD i su0) HT.out HB.out (Nat.le_refl _) ok hll (by omega))
          replace g0 := (HB.out.cell (p := ⟨b, off + i * 2, none⟩) hblt).trans g0
          replace g1 := (HB.out.cell (p := ⟨b, off + i * 2 + 1, none⟩) hblt).trans g1
          generalize SL1.getD i su0 = q at *
          obtain ⟨qd, qa, qc, ql⟩ := q
          dsimp only at g0 g1 HX
          go_wp2_with fail
          refine HX.out.mono ?_
          rintro e wx ⟨rfl, ht1, hb1⟩
          have HT2 := run.hid ht1
          have HBz := run.hid hb1
          clear HX g0 g1 HT HB ht1 hb1
          by_cases h2 : i < N2
          · obtain ⟨b2, off2, rfl, hblt2, f0, f1, ok2⟩ := HS2.out i (by rw [HN2.out]; exact h2)
            have hll2 := HL2.out i h2
            have HX2 := run.hid (two_second (SL2.getD i su0) HT2.out HBz.out (Nat.le_refl _) ok2 hll2 (by omega))
            replace f0 := (HBz.out.cell (p := ⟨b2, off2 + i * 2, none⟩) hblt2).trans f0
            replace f1 := (HBz.out.cell (p := ⟨b2, off2 + i * 2 + 1, none⟩) hblt2).trans f1
            generalize SL2.getD i su0 = q2 at *
            obtain ⟨qd2, qa2, qc2, ql2⟩ := q2
            dsimp only at f0 f1 HX2
            go_wp2_with fail
            refine HX2.out.mono ?_
            rintro e wy ⟨rfl, ht2, hb2⟩
            have HT3 := run.hid (ht2.more (i' := i + 1) (j' := i + 1) (by omega) (Nat.le_refl _))
            have HB3 := run.hid hb2
            clear HX2 f0 f1 HT2 HBz ht2 hb2
            go_wp2
            go_roundw
            case rel => exact ⟨i + 1, by omega, by go_num, HT3, HB3⟩
            case measure => simp [intOf]; omega
          · have HT3 := run.hid (HT2.out.more (i' := i + 1) (j' := i + 1) (by omega) (by omega))
            go_wp2
            go_roundw
            case rel => exact ⟨i + 1, by omega, by go_num, HT3, HBz⟩
            case measure => simp [intOf]; omega
        · have HT2 := HT
          have HBz := HB
          clear HT HB
          by_cases h2 : i < N2
          · obtain ⟨b2, off2, rfl, hblt2, f0, f1, ok2⟩ := HS2.out i (by rw [HN2.out]; exact h2)
            have hll2 := HL2.out i h2
            have HX2 := run.hid (two_second (SL2.getD i su0) HT2.out HBz.out (Nat.le_refl _) ok2 hll2 (by omega))
            replace f0 := (HBz.out.cell (p := ⟨b2, off2 + i * 2, none⟩) hblt2).trans f0
            replace f1 := (HBz.out.cell (p := ⟨b2, off2 + i * 2 + 1, none⟩) hblt2).trans f1
            generalize SL2.getD i su0 = q2 at *
            obtain ⟨qd2, qa2, qc2, ql2⟩ := q2
            dsimp only at f0 f1 HX2
            go_wp2_with fail
            refine HX2.out.mono ?_
            rintro e wy ⟨rfl, ht2, hb2⟩
            have HT3 := run.hid (ht2.more (i' := i + 1) (j' := i + 1) (by omega) (Nat.le_refl _))
            have HB3 := run.hid hb2
            clear HX2 f0 f1 HT2 HBz ht2 hb2
            go_wp2
            go_roundw
            case rel => exact ⟨i + 1, by omega, by go_num, HT3, HB3⟩
            case measure => simp [intOf]; omega
          · obtain ⟨t1, m1, e1, L1, M1, t2, m2, e2, L2, M2, hA, hB, hF⟩ := HT2.out
            have HA := run.hid hA
            have HBB := run.hid hB
            have HFF := run.hid hF
            clear hA hB hF HT2
            obtain ⟨x0, x1, -, -, -, -⟩ := box_cells4 HA.out.duo.box
            obtain ⟨y0, y1, -, -, -, -⟩ := box_cells4 HBB.out.duo.box
            have HH1 := run.hid (held_any P1 e1 wr.drew (HA.out.duo.dec.kept rfl))
            have HH2 := run.hid (refHeld_any R1 e1 wr.drew (HA.out.duo.ref.kept rfl))
            have HH3 := run.hid (held_any P2 e2 wr.drew (HBB.out.duo.dec.kept rfl))
            have HH4 := run.hid (refHeld_any R2 e2 wr.drew (HBB.out.duo.ref.kept rfl))
            have HAd := run.hid (HA.out.below (w' := wr.drew) ⟨rfl, rfl, rfl, Nat.le_refl _, fun _ _ => rfl⟩)
            have HBd := run.hid (HBB.out.below (w' := wr.drew) ⟨rfl, rfl, rfl, Nat.le_refl _, fun _ _ => rfl⟩)
            have HBel := run.hid (show Below w.heap.size w wr.drew from HBz.out.trans ⟨rfl, rfl, rfl, Nat.le_refl _, fun _ _ => rfl⟩)
            clear HS1 HS2 HL1 HL2 HA HBB HBz
            go_upto_region 14 with fail
            generalize e1.length = n1 at *
            generalize e2.length = n2 at *
            refine wp_region_still_tail 24 (by kernel_rfl) (by kernel_rfl) ?_
            simp only [List.take_succ_cons, List.take_zero, List.drop_succ_cons, List.drop_zero]
            change wpStill _ _ (World.drew _) (fun a' => wpList _ _ _ _ a' (World.drew _)) _ _
            repeat still_step
            still_call (HH1.out.mono fun _ _ h => ⟨h.1, h.2⟩)
            repeat still_step
            still_call (HH2.out.mono fun _ _ h => ⟨h.1, h.2⟩)
            repeat still_step
            still_call (HH3.out.mono fun _ _ h => ⟨h.1, h.2⟩)
            repeat still_step
            still_call (HH4.out.mono fun _ _ h => ⟨h.1, h.2⟩)
            repeat still_step
            refine wpStill_nil ?_
            have hi1 : i ≤ 134217728 := by omega
            have HX1 := run.hid (fresh_any HAd.out.duo HAd.out.alike (by have := HAd.out.len; omega) HAd.out.tiny)
            clear x0 x1 y0 y1 HH1 HH2 HH3 HH4
            go_wp2_with fail
            refine HX1.out.mono ?_
            rintro e w9 ⟨rfl, hc9⟩
            have HB9 := run.hid (hc9.to_below HBel.out (fun k ⟨q, hq, hk⟩ => (HAd.out.duo.lt (.inr (.inr (.inr (.inr (.inr (.inl ⟨q, hq, hk⟩))))))).2) HBel.out.size)
            have HD9 := run.hid (HBd.out.duo.keep (w' := w9) fun k hk => hc9.block k (HBd.out.duo.lt hk).1 fun ⟨q, hq, hk2⟩ => HFF.out k (.inr (.inr (.inr (.inr (.inr (.inl ⟨q, hq, hk2⟩)))))) hk)
            have HX2 := run.hid (fresh_any HD9.out HBd.out.alike (by have := HBd.out.len; omega) HBd.out.tiny)
            clear HX1 hc9
            go_wp2_with fail
            refine HX2.out.mono ?_
            rintro e w10 ⟨rfl, hc10⟩
            have HB10 := run.hid (hc10.to_below HB9.out (fun k ⟨q, hq, hk⟩ => (HD9.out.lt (.inr (.inr (.inr (.inr (.inr (.inl ⟨q, hq, hk⟩))))))).2) HB9.out.size)
            have HW := run.hid (wakes_any w10)
            clear HX2 hc10 HD9 HB9 HAd HBd HFF HBel
            go_wp2_with fail
            refine HW.out.mono ?_
            rintro e w11 ⟨rfl, hb11⟩
            have HB11 := run.hid (HB10.out.trans (hb11.mono HB10.out.size))
            clear hb11 HW HB10
            go_wp2
            go_ret
            exact ⟨rfl, HB11.out⟩
end Go.Proofs.Ytgjlhjnkcgdopaa.utf
