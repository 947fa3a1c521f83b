/-
  The document's editor: its sum, its joining, its rows; what it is; Caret, Marked, leads; Go, Undo, Redo; Line, Text, New; what is typed.
-/
import Derived.Test.YtbhhfagifdjmmaaGreatCluRefUse
import Derived.Test.YtbhhfagifdjmmaaGreatCluSameRef
import Derived.Test.YtbhhfagifdjmmaaGreatUtfRefLists
import Derived.Test.YtbhhfagifdjmmaaGreatCluUse
import Derived.Test.YtbhhfagifdjmmaaGreatInts
import Derived.Test.YtbhhfagifdjmmaaGreatEdD
import Derived.Deep.RegionHeld3
import Derived.BigRegion
import Derived.Lib.QuietBelow
import Derived.Test.YtbhhfagifdjmmaaGreatWrpRefFlow
namespace Go.Proofs.YtbhhfagifdjmmaaGreat.rf
open Go.RowKit Go.Proofs
open Go.Proofs.YtbhhfagifdjmmaaGreat.wid Go.Proofs.YtbhhfagifdjmmaaGreat.utf Go.Proofs.YtbhhfagifdjmmaaGreat.clu
set_option linter.unusedVariables false

abbrev TV := ByteArray × Nat
def t0 : TV := (ByteArray.empty, 0)
def catN (l : List TV) : List Nat := l.flatMap fun q => bs q.1
def sum2 (l : List (ByteArray × Nat)) : Nat := (l.map (·.2)).sum
theorem catN_take {l : List TV} {i : Nat} (h : i < l.length) : catN (l.take (i + 1)) = catN (l.take i) ++ bs (l.getD i t0).1 := by
  unfold catN
  rw [List.take_succ_eq_append_getElem h, List.flatMap_append]
  simp [List.getD_eq_getElem?_getD, h]
theorem catN_take_le (l : List TV) (i : Nat) : (catN (l.take i)).length ≤ (catN l).length := by
  have h : catN l = catN (l.take i) ++ catN (l.drop i) := by unfold catN; rw [← List.flatMap_append, List.take_append_drop]
  rw [h, List.length_append]; omega
theorem bv_bs (s : ByteArray) : Lib.strCells s = bv (bs s) := by
  have h : ∀ c ∈ bs s, c < 256 := by
    intro c hc
    unfold bs at hc
    obtain ⟨u, -, rfl⟩ := List.mem_map.1 hc
    exact u.toNat_lt
  have := cells_bs (bs s) h
  rwa [str_bs] at this
theorem bs_len (s : ByteArray) : (bs s).length = s.size := bs_length s

theorem sum2_append (a b : List TV) : sum2 (a ++ b) = sum2 a + sum2 b := by simp [sum2]
theorem sum2_take {l : List TV} {i : Nat} (h : i < l.length) : sum2 (l.take (i + 1)) = sum2 (l.take i) + (l.getD i t0).2 := by
  rw [List.take_succ_eq_append_getElem h, sum2_append]
  simp [sum2, List.getD_eq_getElem?_getD, h]
theorem sum2_take_le (l : List TV) (i : Nat) : sum2 (l.take i) ≤ sum2 l := by
  have h : sum2 l = sum2 (l.take i) + sum2 (l.drop i) := by rw [← sum2_append, List.take_append_drop]
  omega

set_option maxRecDepth 100000 in
set_option maxHeartbeats 1000000 in
theorem refSum_any (v : Value) (X : List TV) (w : World) (hv : Reads2 w v X) (hX : X.length ≤ 1099511627776) (hS : sum2 X ≤ 4611686018427387904) : Calls Tryz.prog 52 #[v] w fun e w' => e = .returned (.int .i64 (sum2 X : Nat)) ∧ w' = w := by
  have R1 := run.hid hv
  obtain ⟨a1, k1, rfl, -⟩ := hv
  have HT := run.hid (fun i => @sum2_take X i)
  have HL := run.hid (fun i => sum2_take_le X i)
  go_enter Tryz.func52, Tryz.ntmps52
  go_wp2
  go_loop [3, 4] (fun vs vi => ∃ i : Nat, i ≤ X.length ∧ vi = .int .i64 i ∧ vs = .int .i64 (sum2 (X.take i) : Nat)) (fun _ vi => ((X.length : Int) - intOf vi).toNat)
  case atStart => exact ⟨0, by omega, rfl, rfl⟩
  case round =>
    obtain ⟨i, hi, rfl, rfl⟩ := hrel
    by_cases hlt : i < X.length
    · obtain ⟨a', cap', e1, hrow⟩ := R1.out
      simp only [Value.slice.injEq] at e1
      obtain ⟨rfl, -, rfl⟩ := e1
      obtain ⟨b1, o1, rfl, hlb1, hx0, hx1⟩ := hrow i hlt
      clear hrow
      have HTi := run.hid (HT.out i hlt)
      have hle := HL.out (i + 1)
      rw [HTi.out] at hle
      unfold t0 at HTi hle
      generalize X.getD i (ByteArray.empty, 0) = q at *
      obtain ⟨qs, qw⟩ := q
      dsimp only at hx0 hx1 HTi hle
      generalize sum2 (X.take i) = sm at *
      go_wp2
      go_round
      case rel => exact ⟨i + 1, by omega, by go_num, by rw [HTi.out]; go_num⟩
      case measure => simp [intOf]; omega
    · obtain rfl : i = X.length := by omega
      rw [List.take_of_length_le (Nat.le_refl _)]
      go_wp2
      go_ret
      exact ⟨rfl, rfl⟩

set_option maxRecDepth 100000 in
set_option maxHeartbeats 2000000 in
theorem refJoin_any (v : Value) (X : List TV) (w : World) (hv : Reads2 w v X) (hX : X.length ≤ 1099511627776) (hS : (catN X).length ≤ 35184372088832) : Calls Tryz.prog 43 #[v] w fun e w' => e = .returned (.string (str (catN X))) ∧ Below w.heap.size w w' := by
  obtain ⟨i0, hi, hz0, hz1, hz2⟩ := info_parts info_byte
  have R1 := run.hid hv
  obtain ⟨a1, k1, rfl, -⟩ := hv
  have HT := run.hid (fun i => @catN_take X i)
  have HL := run.hid (fun i => catN_take_le X i)
  go_enter Tryz.func43, Tryz.ntmps43
  go_wp2
  go_loopw [3, 4] (fun vb vi wr => ∃ i : Nat, i ≤ X.length ∧ vi = .int .i64 i ∧ wr.ownsRow w.heap.size 5 1 vb (catN (X.take i)).length (bv (catN (X.take i))) ∧ Below w.heap.size w wr) (fun _ vi _ => ((X.length : Int) - intOf vi).toNat)
  case atStart => exact ⟨0, by omega, rfl, World.ownsRow_nil _ _ _ _, Below.refl _ _⟩
  case round =>
    obtain ⟨i, hi', rfl, hown, hbel⟩ := hrel
    have hbd := HL.out i
    by_cases hlt : i < X.length
    · obtain ⟨a', cap', e1, hrow⟩ := R1.out
      simp only [Value.slice.injEq] at e1
      obtain ⟨rfl, -, rfl⟩ := e1
      obtain ⟨b1, o1, rfl, hlb1, hx0, hx1⟩ := hrow i hlt
      replace hx0 := (hbel.cell (p := ⟨b1, o1 + i * 2, none⟩) hlb1).trans hx0
      clear hrow hx1
      have HTi := run.hid (HT.out i hlt)
      have hle := HL.out (i + 1)
      rw [HTi.out, List.length_append] at hle
      unfold t0 at HTi hle
      generalize X.getD i (ByteArray.empty, 0) = q at *
      obtain ⟨qs, qw⟩ := q
      dsimp only at hx0 HTi hle
      have HBV := run.hid (bv_bs qs)
      have HBL := run.hid (bs_len qs)
      rw [bs_len] at hle
      have hsz1 := hbel.size
      generalize catN (X.take i) = tk at *
      go_wp2_with (at_builtin; refine Lib.wpList_append_own_string _ rfl _ _ 85 9 rfl w.heap.size 5 i0 Tryz.underlying85 Tryz.underlying9 hi hz0 hz1 hz2 _ _ _ rfl hown _ rfl (by unfold maxLen; omega) (by omega) hsz1 ?_)
      intro v' w3 hown3 hgrow hnil
      have hbel3 := run.below_append hbel hown hgrow hsz1
      rw [HBV.out, bv_append, ← HBL.out, ← List.length_append, ← HTi.out] at hown3
      clear hown hgrow hnil hbel hx0
      go_wp2
      go_roundw
      case rel => exact ⟨i + 1, by omega, by go_num, hown3, hbel3⟩
      case measure => simp [intOf]; omega
    · obtain rfl : i = X.length := by omega
      rw [List.take_of_length_le (Nat.le_refl _)] at hown
      have hconv := conv_own hown
      clear hown hbd
      go_wp2
      go_ret
      exact ⟨rfl, hbel⟩

/-- how many of the first ones fit -/
def fit2 : List TV → Nat → Nat
  | [], _ => 0
  | q :: t, left => if q.2 ≤ left then fit2 t (left - q.2) + 1 else 0
theorem fit2_cons (q : TV) (t : List TV) (left : Nat) : fit2 (q :: t) left = if q.2 ≤ left then fit2 t (left - q.2) + 1 else 0 := rfl
theorem fit2_at {X : List TV} {i left : Nat} (h : i < X.length) : fit2 (X.drop i) left = if (X.getD i t0).2 ≤ left then fit2 (X.drop (i + 1)) (left - (X.getD i t0).2) + 1 else 0 := by
  rw [List.drop_eq_getElem_cons h, fit2_cons]
  simp [List.getD_eq_getElem?_getD, h]
theorem fit2_end (X : List TV) (left : Nat) : fit2 (X.drop X.length) left = 0 := by rw [List.drop_length]; rfl

set_option maxRecDepth 100000 in
set_option maxHeartbeats 2000000 in
theorem refFits_any (v : Value) (X : List TV) (n : Int) (w : World) (hv : Reads2 w v X) (hX : X.length ≤ 1099511627776) (hn : n ≤ 9223372036854775807) : Calls Tryz.prog 53 #[v, .int .i64 n] w fun e w' => e = .returned (.int .i64 (fit2 X (max 0 n).toNat : Nat)) ∧ w' = w := by
  have R1 := run.hid hv
  obtain ⟨a1, k1, rfl, -⟩ := hv
  have HT := run.hid (fun i left => @fit2_at X i left)
  have HE := run.hid (fun left => fit2_end X left)
  obtain ⟨left, hleft⟩ : ∃ left : Nat, (max 0 n).toNat = left := ⟨_, rfl⟩
  rw [hleft]
  have hlb : (left : Int) = max 0 n := by omega
  have HLB := run.hid hlb
  clear hleft hlb
  go_enter Tryz.func53, Tryz.ntmps53
  go_upto_if 9 with fail
  go_cut [5] (fun c wx => c = .int .i64 left ∧ wx = w)
  case first =>
    by_cases h0 : n < 0
    · go_wp2
      go_meet
      exact ⟨congrArg (Value.int .i64) (by have := HLB.out; omega), rfl⟩
    · go_wp2
      go_meet
      exact ⟨congrArg (Value.int .i64) (by have := HLB.out; omega), rfl⟩
  obtain ⟨rfl, rfl⟩ := hcut
  have HNN := run.hid hn
  clear hn
  go_wp2
  go_loop [5, 6] (fun vl vi => ∃ i lf : Nat, i ≤ X.length ∧ lf ≤ left ∧ vi = .int .i64 i ∧ vl = .int .i64 lf ∧ Hid (fit2 X left = i + fit2 (X.drop i) lf)) (fun _ vi => ((X.length : Int) - intOf vi).toNat)
  case atStart => exact ⟨0, left, by omega, Nat.le_refl _, rfl, rfl, run.hid (by simp)⟩
  case round =>
    obtain ⟨i, lf, hi, hlf, rfl, rfl, HF⟩ := hrel
    by_cases hlt : i < X.length
    · obtain ⟨a', cap', e1, hrow⟩ := R1.out
      simp only [Value.slice.injEq] at e1
      obtain ⟨rfl, -, rfl⟩ := e1
      obtain ⟨b1, o1, rfl, hlb1, hx0, hx1⟩ := hrow i hlt
      clear hrow
      have HTi := run.hid (HT.out i lf hlt)
      unfold t0 at HTi
      generalize X.getD i (ByteArray.empty, 0) = q at *
      obtain ⟨qs, qw⟩ := q
      dsimp only at hx0 hx1 HTi
      have hll : (left : Int) ≤ 9223372036854775807 := by have h1 := HLB.out; have h2 := HNN.out; omega
      have HLL := run.hid hll
      clear hll
      by_cases hfit : qw ≤ lf
      · have H2 : Hid (fit2 X left = (i + 1) + fit2 (X.drop (i + 1)) (lf - qw)) := run.hid (by rw [HF.out, HTi.out, if_pos hfit]; omega)
        have hdiff : ((lf : Int) - (qw : Int)) = ((lf - qw : Nat) : Int) := by omega
        obtain ⟨df, hdf⟩ : ∃ df, df = lf - qw := ⟨_, rfl⟩
        rw [← hdf] at hdiff H2
        obtain ⟨lf', hlf'⟩ : ∃ z : Int, z = (lf : Int) := ⟨_, rfl⟩
        have hw64 : wrap64 ((lf : Int) - (qw : Int)) = (df : Int) := by
          rw [hdiff]
          exact ints.wrap64_in ⟨by omega, by have := HLL.out; omega⟩
        have HW := run.hid hw64
        clear hw64 HF HTi hlf'
        have hdle : df ≤ left := by omega
        clear hdf hdiff
        go_wp2
        go_round
        case rel => exact ⟨i + 1, df, by omega, hdle, by go_num, congrArg (Value.int .i64) HW.out, H2⟩
        case measure => simp [intOf]; omega
      · have H2 : Hid (fit2 X left = i) := run.hid (by rw [HF.out, HTi.out, if_neg hfit]; omega)
        clear HF HTi
        go_wp2
        go_ret
        exact ⟨by rw [H2.out]; rfl, rfl⟩
    · obtain rfl : i = X.length := by omega
      have H2 : Hid (fit2 X left = X.length) := run.hid (by rw [HF.out, HE.out]; omega)
      clear HF
      go_wp2
      go_ret
      exact ⟨by rw [H2.out]; rfl, rfl⟩

theorem reads2_take {w : World} {a : Option Addr} {n c : Nat} {X : List TV} (h : Reads2 w (.slice a X.length c) X) (hn : n ≤ X.length) (c' : Nat) : Reads2 w (.slice a n c') (X.take n) := by
  obtain ⟨a', cap, e, h⟩ := h
  simp only [Value.slice.injEq] at e
  obtain ⟨rfl, -, rfl⟩ := e
  have hl : (X.take n).length = n := by rw [List.length_take]; omega
  refine ⟨a, c', by rw [hl], fun i hi => ?_⟩
  rw [hl] at hi
  obtain ⟨b, off, e, hlt, hx0, hx1⟩ := h i (by omega)
  have e2 : (X.take n).getD i (ByteArray.empty, 0) = X.getD i (ByteArray.empty, 0) := by simp [List.getD_eq_getElem?_getD, hi]
  rw [e2]
  exact ⟨b, off, e, hlt, hx0, hx1⟩
theorem reads2_drop {w : World} {b k1 n c : Nat} {X : List TV} (h : Reads2 w (.slice (some ⟨b, 0, none⟩) X.length k1) X) (hn : n ≤ X.length) : Reads2 w (.slice (some ⟨b, n * 2, none⟩) (X.length - n) c) (X.drop n) := by
  obtain ⟨a', cap, e, h⟩ := h
  simp only [Value.slice.injEq] at e
  obtain ⟨rfl, -, rfl⟩ := e
  refine ⟨_, c, by rw [List.length_drop], fun i hi => ?_⟩
  rw [List.length_drop] at hi
  obtain ⟨b', off, e, hlt, hx0, hx1⟩ := h (n + i) (by omega)
  simp only [Option.some.injEq, Addr.mk.injEq] at e
  obtain ⟨rfl, rfl, -⟩ := e
  have e2 : (X.drop n).getD i (ByteArray.empty, 0) = X.getD (n + i) (ByteArray.empty, 0) := by simp [List.getD_eq_getElem?_getD, List.getElem?_drop]
  rw [e2]
  refine ⟨b, n * 2, rfl, hlt, ?_, ?_⟩
  · rw [show n * 2 + i * 2 = 0 + (n + i) * 2 by omega]; exact hx0
  · rw [show n * 2 + i * 2 + 1 = 0 + (n + i) * 2 + 1 by omega]; exact hx1
end Go.Proofs.YtbhhfagifdjmmaaGreat.rf
namespace Go.Proofs.YtbhhfagifdjmmaaGreat.ed
open Go Go.RowKit Go.Proofs
set_option linter.unusedVariables false
/-- a row of clusters that is read, no longer than its room -/
def Rd (S : Nat → Prop) (w : World) (a : Option Addr) (c : Nat) (F : List TV) : Prop := Read S w a c F ∧ F.length ≤ c
theorem Rd.kept {S S1 S' : Nat → Prop} {w w' : World} {a : Option Addr} {c : Nat} {F : List TV} (h : Rd S w a c F) (hk : Kept S1 w w') (h1 : ∀ k, S1 k → S k) (h2 : ∀ k, S' k → S k ∨ w.heap.size ≤ k) : Rd S' w' a c F := ⟨h.1.kept hk h1 h2, h.2⟩
theorem Rd.reads {S : Nat → Prop} {w : World} {a : Option Addr} {c : Nat} {F : List TV} (h : Rd S w a c F) : clu.Reads2 w (.slice a F.length c) F := by
  refine ⟨a, c, rfl, fun i hi => ?_⟩
  rcases h.1.1.at' with ⟨-, h0, -⟩ | ⟨b, off, rfl, hlt, hc⟩
  · omega
  · obtain ⟨e1, e2⟩ := clu.cells2_get F i hi
    exact ⟨b, off, rfl, hlt, hc _ _ e1, hc _ _ e2⟩
/-- a step of the document's: what was held ahead and behind -/
def RStep (S : Nat → Prop) (x : St) (sb o : Nat) (w : World) : Prop :=
  ∃ ab cb aa ca, w.cell? ⟨sb, o, none⟩ = some (.slice ab x.bef.length cb) ∧ w.cell? ⟨sb, o + 1, none⟩ = some (.int .i64 (x.ahead : Nat)) ∧ w.cell? ⟨sb, o + 2, none⟩ = some (.slice aa x.aft.length ca) ∧ w.cell? ⟨sb, o + 3, none⟩ = some (.int .i64 (x.after : Nat)) ∧ Rd S w ab cb x.bef ∧ Rd S w aa ca x.aft
def RSteps (S : Nat → Prop) (a : Option Addr) (cap : Nat) (L : List St) (w : World) : Prop :=
  L.length ≤ cap ∧ ((a = none ∧ cap = 0) ∨ ∃ sb off, a = some ⟨sb, off, none⟩ ∧ sb < w.heap.size ∧ ¬ S sb ∧ ∀ j x, L[j]? = some x → RStep S x sb (off + j * 4) w)
theorem RStep.kept {S S1 S' : Nat → Prop} {x : St} {sb o : Nat} {w w' : World} (h : RStep S x sb o w) (hlt : sb < w.heap.size) (hs : ¬ S sb) (hk : Kept S1 w w') (h1 : ∀ k, S1 k → S k) (h2 : ∀ k, S' k → S k ∨ w.heap.size ≤ k) : RStep S' x sb o w' := by
  obtain ⟨ab, cb, aa, ca, c0, c1, c2, c3, r1, r2⟩ := h
  have hb := hk.block sb hlt (fun h => hs (h1 sb h))
  exact ⟨ab, cb, aa, ca, (World.cell?_of_block (a := ⟨sb, o, none⟩) hb).trans c0, (World.cell?_of_block (a := ⟨sb, o + 1, none⟩) hb).trans c1, (World.cell?_of_block (a := ⟨sb, o + 2, none⟩) hb).trans c2, (World.cell?_of_block (a := ⟨sb, o + 3, none⟩) hb).trans c3, r1.kept hk h1 h2, r2.kept hk h1 h2⟩
theorem RSteps.kept {S S1 S' : Nat → Prop} {a : Option Addr} {cap : Nat} {L : List St} {w w' : World} (h : RSteps S a cap L w) (hk : Kept S1 w w') (h1 : ∀ k, S1 k → S k) (h2 : ∀ k, S' k → S k ∨ w.heap.size ≤ k) : RSteps S' a cap L w' := by
  refine ⟨h.1, ?_⟩
  rcases h.2 with h3 | ⟨sb, off, rfl, hlt, hs, hx⟩
  · exact .inl h3
  · refine .inr ⟨sb, off, rfl, Nat.lt_of_lt_of_le hlt hk.size, fun h => ?_, fun j x hj => (hx j x hj).kept hlt hs hk h1 h2⟩
    rcases h2 sb h with h4 | h4
    · exact hs h4
    · omega
/-- the box of the document's editor -/
def RBox (r : Nat) (aF : Option Addr) (nF cF : Nat) (ca an : Int) (aS : Option Addr) (nS cS : Nat) (dn : Int) (w : World) : Prop :=
  w.heap[r]? = some (.cells #[.slice aF nF cF, .int .i64 ca, .int .i64 an, .slice aS nS cS, .int .i64 dn] 50 (0, 0))
/-- the document's editor as it stands -/
def RE (S : Nat → Prop) (r : Nat) (s : Sta) (w : World) : Prop :=
  S r ∧ ∃ aF cF aS cS, RBox r aF s.F.length cF s.ca s.an aS s.L.length cS s.dn w ∧ Rd S w aF cF s.F ∧ RSteps S aS cS s.L w
theorem RE.kept {S S1 S' : Nat → Prop} {r : Nat} {s : Sta} {w w' : World} (h : RE S r s w) (hk : Kept S1 w w') (h1 : ∀ k, S1 k → S k) (hr : ¬ S1 r) (h2 : ∀ k, S' k → S k ∨ w.heap.size ≤ k) (hr' : S' r) : RE S' r s w' := by
  obtain ⟨hs, aF, cF, aS, cS, hb, hF, hS⟩ := h
  exact ⟨hr', aF, cF, aS, cS, (hk.block r (Array.getElem?_eq_some_iff.1 hb).1 hr).trans hb, hF.kept hk h1 h2, hS.kept hk h1 h2⟩
theorem RE.below {S : Nat → Prop} {r : Nat} {s : Sta} {w w' : World} (h : RE S r s w) (hb : Below w.heap.size w w') : RE S r s w' :=
  h.kept (S1 := fun _ => False) (Kept.of_below hb) (fun _ h => h.elim) (fun h => h) (fun k hk => .inl hk) h.1
theorem RE.lt {S : Nat → Prop} {r : Nat} {s : Sta} {w : World} (h : RE S r s w) : r < w.heap.size := by
  obtain ⟨hs, aF, cF, aS, cS, hb, hF, hS⟩ := h
  exact (Array.getElem?_eq_some_iff.1 hb).1
section
variable {S : Nat → Prop} {r : Nat} {s : Sta} {w : World}
set_option maxHeartbeats 1000000 in
theorem rcaret_any (h : RE S r s w) : Calls Tryz.prog 28 #[.pointer (some ⟨r, 0, none⟩)] w fun e w' => e = .returned (.int .i64 (s.ca : Nat)) ∧ w' = w := by
  obtain ⟨hs, aF, cF, aS, cS, hb, hF, hS⟩ := h
  have c1 := blk_cell hb 1
  change w.cell? _ = some (.int .i64 (s.ca : Nat)) at c1
  clear hs hb hF hS
  generalize s.ca = ca at *
  go_enter Tryz.func28, Tryz.ntmps28
  go_wp2
  go_ret
  exact ⟨rfl, rfl⟩
set_option maxRecDepth 100000 in
set_option maxHeartbeats 4000000 in
theorem rmarked_any (h : RE S r s w) : Calls Tryz.prog 30 #[.pointer (some ⟨r, 0, none⟩)] w fun e w' => e = .returned (.tuple #[.int .i64 ((mkT s.an s.ca).1 : Nat), .int .i64 ((mkT s.an s.ca).2 : Nat)]) ∧ Same w w' := by
  obtain ⟨hs, aF, cF, aS, cS, hb, hF, hS⟩ := h
  have c1 := blk_cell hb 1
  have c2 := blk_cell hb 2
  change w.cell? _ = some (.int .i64 (s.ca : Nat)) at c1
  change w.cell? _ = some (.int .i64 s.an) at c2
  clear hs hb hF hS
  generalize s.ca = ca at *
  generalize s.an = an at *
  by_cases hn : an < 0
  · have e : mkT an ca = (ca, ca) := by unfold mkT; rw [if_pos hn]
    rw [e]
    clear e
    go_enter Tryz.func30, Tryz.ntmps30
    go_upto_region 2 with fail
    go_quiet (fail)
    go_wp2
    go_ret2
    exact ⟨rfl, ⟨rfl, rfl, rfl, rfl⟩⟩
  · obtain ⟨k, rfl⟩ : ∃ k : Nat, an = k := ⟨an.toNat, by omega⟩
    have e : mkT k ca = (min k ca, max k ca) := by unfold mkT; rw [if_neg hn, Int.toNat_natCast]
    rw [e]
    have hm1 : min (k : Int) (ca : Int) = ((min k ca : Nat) : Int) := by omega
    have hm2 : max (k : Int) (ca : Int) = ((max k ca : Nat) : Int) := by omega
    clear e
    generalize min k ca = p at *
    generalize max k ca = q at *
    go_enter Tryz.func30, Tryz.ntmps30
    go_upto_region 3 with fail
    go_region
    go_wp2
    go_ret2
    exact ⟨by rw [← hm1, ← hm2]; rfl, ⟨rfl, rfl, rfl, rfl⟩⟩
set_option maxHeartbeats 1000000 in
theorem rblank_any (h : RE S r s w) (i : Nat) (hi : i < s.F.length) : Calls Tryz.prog 67 #[.pointer (some ⟨r, 0, none⟩), .int .i64 (i : Nat)] w fun e w' => e = .returned (.bool (blankAt s.F i)) ∧ w' = w := by
  obtain ⟨hs, aF, cF, aS, cS, hb, hF, hS⟩ := h
  have c0 := blk_cell hb 0
  change w.cell? _ = some (.slice aF s.F.length cF) at c0
  obtain ⟨a', c', e, hrd⟩ := hF.reads
  simp only [Value.slice.injEq] at e
  obtain ⟨rfl, -, rfl⟩ := e
  obtain ⟨b, off, rfl, hlt, k0, k1⟩ := hrd i hi
  have hbl : blankAt s.F i = decide ((s.F.getD i tv0).1 = ⟨#[32]⟩) := rfl
  rw [hbl]
  change w.cell? _ = some (.string (s.F.getD i tv0).1) at k0
  generalize (s.F.getD i tv0).1 = q at *
  generalize s.F.length = N at *
  have HQ := run.hid (toList_sp q)
  clear hs hb hF hS k1 hrd hbl
  go_enter Tryz.func67, Tryz.ntmps67
  go_wp2
  go_ret
  exact ⟨by have hq := HQ.out; show Ending.returned (.bool (q.toList == [32])) = _; rw [hq]; rfl, rfl⟩
end
/-- on past those that are so, up to N -/
def PR (F : List TV) (bl : Bool) (c : Nat) : Nat := pastR F bl (F.length - c) c
theorem PR_step {F : List TV} {bl : Bool} {c : Nat} (h : c < F.length) : PR F bl c = if blankAt F c = bl then PR F bl (c + 1) else c := by
  unfold PR
  obtain ⟨d, hd⟩ : ∃ d, F.length - c = d + 1 := ⟨F.length - c - 1, by omega⟩
  rw [hd, show F.length - (c + 1) = d by omega]
  rfl
theorem PR_end (F : List TV) (bl : Bool) : PR F bl F.length = F.length := by unfold PR; rw [Nat.sub_self]; rfl
theorem PR_le {F : List TV} {bl : Bool} {c : Nat} (h : c ≤ F.length) : c ≤ PR F bl c ∧ PR F bl c ≤ F.length := by
  have := pastR_le F bl (F.length - c) c
  unfold PR
  omega
section
variable {S : Nat → Prop} {r : Nat} {s : Sta} {w : World}
set_option maxRecDepth 100000 in
set_option maxHeartbeats 8000000 in
theorem rleads_any (h : RE S r s w) (way : Int) (hc : s.ca ≤ s.F.length) (hF : s.F.length ≤ 1048576) :
    Calls Tryz.prog 37 #[.pointer (some ⟨r, 0, none⟩), .int .i64 way] w fun e w' => e = .returned (.tuple #[.int .i64 (((leadsT s.F s.ca way).getD 0 : Nat) : Int), .bool (leadsT s.F s.ca way).isSome]) ∧ w' = w := by
  have HBL := run.hid (fun i hi => rblank_any h i hi)
  have HR := run.hid (fun bl c => @PR_step s.F bl c)
  have HE := run.hid (fun bl => PR_end s.F bl)
  have HL := run.hid (show (∀ bl k, pastL s.F bl (k + 1) = if blankAt s.F k = bl then pastL s.F bl k else k + 1) ∧ ∀ bl, pastL s.F bl 0 = 0 from ⟨fun _ _ => rfl, fun _ => rfl⟩)
  have HLT : Hid (leadsT s.F s.ca way = if way = 0 then some (s.ca - 1) else if way = 1 then some (min (s.ca + 1) s.F.length) else if way = 2 then some (pastL s.F false (pastL s.F true s.ca)) else if way = 3 then some (PR s.F false (PR s.F true s.ca)) else if way = 4 then some 0 else if way = 5 then some s.F.length else none) := rfl
  obtain ⟨hs, aF, cF, aS, cS, hb, hFr, hS⟩ := h
  have c0 := blk_cell hb 0
  have c1 := blk_cell hb 1
  change w.cell? _ = some (.slice aF s.F.length cF) at c0
  change w.cell? _ = some (.int .i64 (s.ca : Nat)) at c1
  generalize leadsT s.F s.ca way = LT at *
  generalize hN : s.F.length = N at *
  generalize s.ca = ca at *
  generalize blankAt s.F = BL at *
  generalize pastL s.F = PL at *
  generalize PR s.F = PRF at *
  clear hs hb hFr hS
  by_cases q0 : way = 0
  · subst q0
    have hl := HLT.out
    simp only [if_true] at hl
    subst hl
    have hm : max (0 : Int) ((ca : Int) - 1) = ((ca - 1 : Nat) : Int) := by omega
    clear HBL HR HE HL HLT
    generalize ca - 1 = q at *
    go_enter Tryz.func37, Tryz.ntmps37
    go_wp2
    go_ret2
    exact ⟨rfl, rfl⟩
  by_cases q1 : way = 1
  · subst q1
    have hl := HLT.out
    simp only [Int.reduceEq, if_false, if_true] at hl
    subst hl
    have hm : min (N : Int) ((ca : Int) + 1) = ((min (ca + 1) N : Nat) : Int) := by omega
    clear HBL HR HE HL HLT q0
    generalize min (ca + 1) N = q at *
    go_enter Tryz.func37, Tryz.ntmps37
    go_wp2
    go_ret2
    exact ⟨rfl, rfl⟩
  by_cases q4 : way = 4
  · subst q4
    have hl := HLT.out
    simp only [Int.reduceEq, if_false, if_true] at hl
    subst hl
    clear HBL HR HE HL HLT q0 q1
    go_enter Tryz.func37, Tryz.ntmps37
    go_wp2
    go_ret2
    exact ⟨rfl, rfl⟩
  by_cases q5 : way = 5
  · subst q5
    have hl := HLT.out
    simp only [Int.reduceEq, if_false, if_true] at hl
    subst hl
    clear HBL HR HE HL HLT q0 q1 q4
    go_enter Tryz.func37, Tryz.ntmps37
    go_wp2
    go_ret2
    exact ⟨rfl, rfl⟩
  by_cases q3 : way = 3
  · subst q3
    have hl := HLT.out
    simp only [Int.reduceEq, if_false, if_true] at hl
    subst hl
    clear HL HLT q0 q1 q4 q5
    show Calls _ _ _ _ (fun e w' => e = .returned (.tuple #[.int .i64 ((PRF false (PRF true ca) : Nat) : Int), .bool true]) ∧ w' = w)
    go_enter Tryz.func37, Tryz.ntmps37
    go_wp2
    go_loopw [6] (fun vc wr => ∃ c : Nat, c ≤ N ∧ vc = .int .i64 c ∧ Hid (PRF true c = PRF true ca) ∧ wr = w) (fun vc _ => (N - intOf vc).toNat)
    case atStart => exact ⟨ca, hc, rfl, rfl, rfl⟩
    case round =>
      obtain ⟨c, hcN, rfl, HC, hwr⟩ := hrel
      replace hwr := hwr.symm
      subst hwr
      by_cases hlt : c < N
      · have HB := run.hid (HBL.out c hlt)
        have hst := HR.out true c hlt
        generalize hbl : BL c = bl at *
        go_wp2_with fail
        refine HB.out.mono ?_
        rintro e w2 ⟨rfl, hw2⟩
        replace hw2 := hw2.symm
        subst hw2
        cases bl with
        | true =>
          replace hst := hst.trans (if_pos rfl)
          have HC2 := run.hid (hst.symm.trans HC.out)
          clear hst hbl HB
          go_wp2
          go_roundw
          case rel => exact ⟨c + 1, by omega, by go_num, HC2, trivial⟩
          case measure => simp [intOf]; omega
        | false =>
          replace hst := hst.trans (if_neg (by decide))
          have HC2 := run.hid (hst.symm.trans HC.out)
          clear hst hbl HB HC
          go_wp2
          go_loopw [6] (fun vc wr => ∃ c2 : Nat, c2 ≤ N ∧ vc = .int .i64 c2 ∧ Hid (PRF false c2 = PRF false c) ∧ wr = w) (fun vc _ => (N - intOf vc).toNat)
          case atStart => exact ⟨c, hcN, rfl, rfl, rfl⟩
          case round =>
            obtain ⟨c2, hcN2, rfl, HC, hwr⟩ := hrel
            replace hwr := hwr.symm
            subst hwr
            by_cases hlt2 : c2 < N
            · have HB := run.hid (HBL.out c2 hlt2)
              have hst := HR.out false c2 hlt2
              generalize hbl : BL c2 = bl at *
              go_wp2_with fail
              refine HB.out.mono ?_
              rintro e w2 ⟨rfl, hw2⟩
              replace hw2 := hw2.symm
              subst hw2
              cases bl with
              | false =>
                replace hst := hst.trans (if_pos rfl)
                have HD2 := run.hid (hst.symm.trans HC.out)
                clear hst hbl HB
                go_wp2
                go_roundw
                case rel => exact ⟨c2 + 1, by omega, by go_num, HD2, trivial⟩
                case measure => simp [intOf]; omega
              | true =>
                replace hst := hst.trans (if_neg (by decide))
                have HD2 := run.hid (hst.symm.trans HC.out)
                clear hst hbl HB HC
                have hz : c2 = PRF false (PRF true ca) := by rw [← HC2.out]; exact HD2.out
                go_wp2
                go_ret2
                exact ⟨by rw [← hz]; rfl, rfl⟩
            · obtain rfl : c2 = N := by omega
              have HD2 := run.hid ((HE.out false).symm.trans HC.out)
              clear HC
              have hz : c2 = PRF false (PRF true ca) := by rw [← HC2.out]; exact HD2.out
              go_wp2
              go_ret2
              exact ⟨by rw [← hz]; rfl, rfl⟩
      · obtain rfl : c = N := by omega
        have HC2 := run.hid ((HE.out true).symm.trans HC.out)
        clear HC
        go_wp2
        go_loopw [6] (fun vc wr => ∃ c2 : Nat, c2 ≤ c ∧ vc = .int .i64 c2 ∧ Hid (PRF false c2 = PRF false c) ∧ wr = w) (fun vc _ => (c - intOf vc).toNat)
        case atStart => exact ⟨c, Nat.le_refl _, rfl, rfl, rfl⟩
        case round =>
          obtain ⟨c2, hcN2, rfl, HC, hwr⟩ := hrel
          replace hwr := hwr.symm
          subst hwr
          by_cases hlt2 : c2 < c
          · have HB := run.hid (HBL.out c2 hlt2)
            have hst := HR.out false c2 hlt2
            generalize hbl : BL c2 = bl at *
            go_wp2_with fail
            refine HB.out.mono ?_
            rintro e w2 ⟨rfl, hw2⟩
            replace hw2 := hw2.symm
            subst hw2
            cases bl with
            | false =>
              replace hst := hst.trans (if_pos rfl)
              have HD2 := run.hid (hst.symm.trans HC.out)
              clear hst hbl HB
              go_wp2
              go_roundw
              case rel => exact ⟨c2 + 1, by omega, by go_num, HD2, trivial⟩
              case measure => simp [intOf]; omega
            | true =>
              replace hst := hst.trans (if_neg (by decide))
              have HD2 := run.hid (hst.symm.trans HC.out)
              clear hst hbl HB HC
              have hz : c2 = PRF false (PRF true ca) := by rw [← HC2.out]; exact HD2.out
              go_wp2
              go_ret2
              exact ⟨by rw [← hz]; rfl, rfl⟩
          · obtain rfl : c2 = c := by omega
            have HD2 := run.hid ((HE.out false).symm.trans HC.out)
            clear HC
            have hz : c2 = PRF false (PRF true ca) := by rw [← HC2.out]; exact HD2.out
            go_wp2
            go_ret2
            exact ⟨by rw [← hz]; rfl, rfl⟩
  by_cases q2 : way = 2
  · subst q2
    have hl := HLT.out
    simp only [Int.reduceEq, if_false, if_true] at hl
    subst hl
    clear HR HE HLT q0 q1 q4 q5 q3
    show Calls _ _ _ _ (fun e w' => e = .returned (.tuple #[.int .i64 ((PL false (PL true ca) : Nat) : Int), .bool true]) ∧ w' = w)
    go_enter Tryz.func37, Tryz.ntmps37
    go_wp2
    go_loopw [6] (fun vc wr => ∃ c : Nat, c ≤ N ∧ vc = .int .i64 c ∧ Hid (PL true c = PL true ca) ∧ wr = w) (fun vc _ => (intOf vc).toNat)
    case atStart => exact ⟨ca, hc, rfl, rfl, rfl⟩
    case round =>
      obtain ⟨c, hcN, rfl, HCc, hwr⟩ := hrel
      replace hwr := hwr.symm
      subst hwr
      by_cases hltc : 0 < c
      · obtain ⟨cp, rfl⟩ : ∃ k, c = k + 1 := ⟨c - 1, by omega⟩
        have HB := run.hid (HBL.out cp (by omega))
        have hst := HL.out.1 true cp
        have hsub : ((cp + 1 : Nat) : Int) - 1 = (cp : Int) := by omega
        generalize hbl : BL cp = bl at *
        go_wp2_with fail
        refine HB.out.mono ?_
        rintro e w2 ⟨rfl, hw2⟩
        replace hw2 := hw2.symm
        subst hw2
        cases bl with
        | true =>
          replace hst := hst.trans (if_pos rfl)
          have HC2 := run.hid (hst.symm.trans HCc.out)
          clear hst hbl HB
          go_wp2
          go_roundw
          case rel => exact ⟨cp, by omega, by go_num, HC2, trivial⟩
          case measure => first | (simp [intOf]; done) | (simp [intOf]; omega)
        | false =>
          replace hst := hst.trans (if_neg (by decide))
          have HC2 := run.hid (hst.symm.trans HCc.out)
          clear hst hbl HB HCc hsub
          go_wp2
          go_loopw [6] (fun vc wr => ∃ c2 : Nat, c2 ≤ N ∧ vc = .int .i64 c2 ∧ Hid (PL false c2 = PL false (cp + 1)) ∧ wr = w) (fun vc _ => (intOf vc).toNat)
          case atStart => exact ⟨cp + 1, hcN, rfl, rfl, rfl⟩
          case round =>
            obtain ⟨c2, hc2N, rfl, HCc2, hwr⟩ := hrel
            replace hwr := hwr.symm
            subst hwr
            by_cases hltc2 : 0 < c2
            · obtain ⟨c2p, rfl⟩ : ∃ k, c2 = k + 1 := ⟨c2 - 1, by omega⟩
              have HB := run.hid (HBL.out c2p (by omega))
              have hst := HL.out.1 false c2p
              have hsub : ((c2p + 1 : Nat) : Int) - 1 = (c2p : Int) := by omega
              generalize hbl : BL c2p = bl at *
              go_wp2_with fail
              refine HB.out.mono ?_
              rintro e w2 ⟨rfl, hw2⟩
              replace hw2 := hw2.symm
              subst hw2
              cases bl with
              | false =>
                replace hst := hst.trans (if_pos rfl)
                have HD2 := run.hid (hst.symm.trans HCc2.out)
                clear hst hbl HB
                go_wp2
                go_roundw
                case rel => exact ⟨c2p, by omega, by go_num, HD2, trivial⟩
                case measure => first | (simp [intOf]; done) | (simp [intOf]; omega)
              | true =>
                replace hst := hst.trans (if_neg (by decide))
                have HD2 := run.hid (hst.symm.trans HCc2.out)
                clear hst hbl HB HCc2 hsub
                have hz : c2p + 1 = PL false (PL true ca) := by rw [← HC2.out]; exact HD2.out
                go_wp2
                go_ret2
                exact ⟨by rw [← hz]; rfl, rfl⟩
            · obtain rfl : c2 = 0 := by omega
              have HD2 := run.hid ((HL.out.2 false).symm.trans HCc2.out)
              clear HCc2
              have hz : 0 = PL false (PL true ca) := by rw [← HC2.out]; exact HD2.out
              go_wp2
              go_ret2
              exact ⟨by rw [← hz]; rfl, rfl⟩
      · obtain rfl : c = 0 := by omega
        have HC2 := run.hid ((HL.out.2 true).symm.trans HCc.out)
        clear HCc
        rw [show ((0 : Nat) : Int) = 0 from rfl]
        go_wp2
        go_loopw [6] (fun vc wr => vc = .int .i64 0 ∧ wr = w) (fun _ _ => 0)
        case atStart => exact ⟨rfl, rfl⟩
        case round =>
          obtain ⟨rfl, hwr⟩ := hrel
          replace hwr := hwr.symm
          subst hwr
          have hz : 0 = PL false (PL true ca) := by rw [← HC2.out, HL.out.2]
          go_wp2
          go_ret2
          exact ⟨by rw [← hz]; rfl, rfl⟩
  have hl := HLT.out
  simp only [if_neg q0, if_neg q1, if_neg q2, if_neg q3, if_neg q4, if_neg q5] at hl
  subst hl
  clear HBL HR HE HL HLT
  go_enter Tryz.func37, Tryz.ntmps37
  go_wp2
  go_ret2
  exact ⟨rfl, rfl⟩
end
end Go.Proofs.YtbhhfagifdjmmaaGreat.ed
namespace Go.Proofs.YtbhhfagifdjmmaaGreat.ed
open Go Go.RowKit Go.Proofs
set_option linter.unusedVariables false
theorem clu_drewN_below (B : Nat) (w : World) (n : Nat) : Below B w (w.drewN n) := ⟨rfl, rfl, rfl, Nat.le_refl _, fun _ _ => rfl⟩
theorem Kept.of_sameR {S : Nat → Prop} {w w' : World} (h : Same w w') : Kept S w w' := Same.kept (Kept.refl _ _) h
section
variable {S : Nat → Prop} {r : Nat} {F : List TV} {ca : Nat} {an : Int} {L : List St} {dn : Nat} {w : World}
theorem RE.carets (h : RE S r ⟨F, ca, an, L, dn⟩ w) (ca' : Nat) (an' : Int) : RE S r ⟨F, ca', an', L, dn⟩ ((w.setCell ⟨r, 2, none⟩ (.int .i64 an')).setCell ⟨r, 1, none⟩ (.int .i64 (ca' : Nat))) ∧ Kept (fun x => x = r) w ((w.setCell ⟨r, 2, none⟩ (.int .i64 an')).setCell ⟨r, 1, none⟩ (.int .i64 (ca' : Nat))) := by
  have hkk : Kept (fun x => x = r) w ((w.setCell ⟨r, 2, none⟩ (.int .i64 an')).setCell ⟨r, 1, none⟩ (.int .i64 (ca' : Nat))) := Kept.setCell (b := r) (i := 1) (Kept.setCell (b := r) (i := 2) (Kept.refl (fun x => x = r) w) (.inl rfl) _) (.inl rfl) _
  obtain ⟨hs, aF, cF, aS, cS, hb, hF, hS⟩ := h
  refine ⟨⟨hs, aF, cF, aS, cS, heap_setCell_same _ _ 1 _ _ _ (heap_setCell_same _ _ 2 _ _ _ hb), hF.kept hkk (fun k hk => hk ▸ hs) (fun k hk => .inl hk), hS.kept hkk (fun k hk => hk ▸ hs) (fun k hk => .inl hk)⟩, hkk⟩
theorem RE.caret (h : RE S r ⟨F, ca, an, L, dn⟩ w) (ca' : Nat) : RE S r ⟨F, ca', an, L, dn⟩ (w.setCell ⟨r, 1, none⟩ (.int .i64 (ca' : Nat))) ∧ Kept (fun x => x = r) w (w.setCell ⟨r, 1, none⟩ (.int .i64 (ca' : Nat))) := by
  have hkk : Kept (fun x => x = r) w (w.setCell ⟨r, 1, none⟩ (.int .i64 (ca' : Nat))) := Kept.setCell (b := r) (i := 1) (Kept.refl (fun x => x = r) w) (.inl rfl) _
  obtain ⟨hs, aF, cF, aS, cS, hb, hF, hS⟩ := h
  refine ⟨⟨hs, aF, cF, aS, cS, heap_setCell_same _ _ 1 _ _ _ hb, hF.kept hkk (fun k hk => hk ▸ hs) (fun k hk => .inl hk), hS.kept hkk (fun k hk => hk ▸ hs) (fun k hk => .inl hk)⟩, hkk⟩
set_option maxRecDepth 100000 in
set_option maxHeartbeats 4000000 in
theorem rgo_any (h : RE S r ⟨F, ca, an, L, dn⟩ w) (way : Int) (m : Bool) (hc : ca ≤ F.length) (hF : F.length ≤ 1048576) :
    Calls Tryz.prog 14 #[.pointer (some ⟨r, 0, none⟩), .int .i64 way, .bool m] w fun e w' => e = .returned (.bool (goT ⟨F, ca, an, L, dn⟩ way m).1) ∧ RE S r (goT ⟨F, ca, an, L, dn⟩ way m).2 w' ∧ Kept (fun x => x = r) w w' := by
  have HLD := run.hid (rleads_any h way hc hF)
  have HG := run.hid (show (∀ tt, leadsT F ca way = some tt → goT ⟨F, ca, an, L, dn⟩ way m = (!decide (ca = tt) || !decide ((mkT an ca).1 = (mkT (anT an ca m) tt).1) || !decide ((mkT an ca).2 = (mkT (anT an ca m) tt).2), ⟨F, tt, anT an ca m, L, dn⟩)) ∧ (leadsT F ca way = none → goT ⟨F, ca, an, L, dn⟩ way m = (false, ⟨F, ca, an, L, dn⟩)) by
    unfold goT
    exact ⟨fun tt h => by rw [h], fun h => by rw [h]⟩)
  have HE := run.hid h
  dsimp only at HLD
  generalize hgo : goT ⟨F, ca, an, L, dn⟩ way m = G at *
  generalize hld : leadsT F ca way = ld at *
  clear hgo hld h
  go_enter Tryz.func14, Tryz.ntmps14
  go_wp2_with fail
  refine HLD.out.mono ?_
  rintro e w1 ⟨rfl, hw1⟩
  replace hw1 := hw1.symm
  subst hw1
  cases ld with
  | none =>
    have hg := HG.out.2 rfl
    subst hg
    clear HLD HG
    go_wp2
    go_ret
    exact ⟨rfl, HE.out, Kept.refl _ _⟩
  | some tt =>
    have hg := HG.out.1 tt rfl
    have HM := run.hid (rmarked_any HE.out)
    have HGG := run.hid hg
    clear HLD HG hg
    dsimp only at HM
    simp only [Option.getD_some, Option.isSome_some]
    go_wp2_with fail
    refine HM.out.mono ?_
    rintro e w2 ⟨rfl, hs2⟩
    have HS2 := run.hid hs2
    have hE2 := HE.out.below hs2.below
    obtain ⟨-, aF, cF, aS, cS, hb, -, -⟩ := HE.out.below hs2.below
    have c1 := blk_cell hb 1
    have c2 := blk_cell hb 2
    change w2.cell? _ = some (.int .i64 (ca : Nat)) at c1
    change w2.cell? _ = some (.int .i64 an) at c2
    have f1 := blk_free hb 1
    have f2 := blk_free hb 2
    have HBB := run.hid hb
    have hg := HGG.out
    clear HM HE HGG hs2 hb
    generalize mkT an ca = mk0 at *
    obtain ⟨ma, mb⟩ := mk0
    dsimp only at hg ⊢
    cases m with
    | false =>
      change G = (!decide (ca = tt) || !decide (ma = (mkT (-1) tt).1) || !decide (mb = (mkT (-1) tt).2), ⟨F, tt, -1, L, dn⟩) at hg
      obtain ⟨hE3, hk3⟩ := hE2.carets tt (-1)
      have HM3 := run.hid (rmarked_any hE3)
      have HG2 := run.hid hg
      have HE3 := run.hid (And.intro hE3 hk3)
      clear hE3 hk3 hE2 hg
      dsimp only at HM3
      generalize mkT (-1) tt = mk1 at *
      obtain ⟨mc, md⟩ := mk1
      dsimp only at HG2 HM3
      go_wp2_with fail
      refine HM3.out.mono ?_
      rintro e w4 ⟨rfl, hs4⟩
      have HF : Hid (RE S r ⟨F, tt, (-1), L, dn⟩ w4 ∧ Kept (fun x => x = r) w w4) := by
        refine ⟨HE3.out.1.below hs4.below, ?_⟩
        exact ((Kept.of_sameR HS2.out).trans HE3.out.2 (fun _ _ h => h)).trans (Kept.of_sameR hs4) (fun _ _ h => h)
      clear HM3 HE3 HS2 hs4 c1 c2 f1 f2
      go_wp2
      all_goals
        go_ret
        rw [HG2.out]
        refine ⟨congrArg (fun x => Ending.returned (Value.bool x)) ?_, HF.out⟩
        clear HF HG2
        simp only [Int.natCast_inj] at *
        simp_all [bne_cast]

    | true =>
      by_cases hn : an < 0
      · have ha : anT an ca true = (ca : Int) := by unfold anT; rw [if_pos rfl, if_pos hn]
        rw [ha] at hg
        have hnb := (blk_cell (heap_setCell_same w2 r 2 _ _ (.int .i64 (ca : Nat)) HBB.out) 1)
        obtain ⟨hE3, hk3⟩ := hE2.carets tt (ca : Nat)
        have HM3 := run.hid (rmarked_any hE3)
        have HG2 := run.hid hg
        have HE3 := run.hid (And.intro hE3 hk3)
        clear hE3 hk3 hE2 hg
        dsimp only at HM3
        generalize mkT (ca : Int) tt = mk1 at *
        obtain ⟨mc, md⟩ := mk1
        dsimp only at HG2 HM3
        go_wp2_with fail
        refine HM3.out.mono ?_
        rintro e w4 ⟨rfl, hs4⟩
        have HF : Hid (RE S r ⟨F, tt, (ca : Int), L, dn⟩ w4 ∧ Kept (fun x => x = r) w w4) := by
          refine ⟨HE3.out.1.below hs4.below, ?_⟩
          exact ((Kept.of_sameR HS2.out).trans HE3.out.2 (fun _ _ h => h)).trans (Kept.of_sameR hs4) (fun _ _ h => h)
        clear HM3 HE3 HS2 hs4 c1 c2 f1 f2
        go_wp2
        all_goals
          go_ret
          rw [HG2.out]
          refine ⟨congrArg (fun x => Ending.returned (Value.bool x)) ?_, HF.out⟩
          clear HF HG2
          simp only [Int.natCast_inj] at *
          simp_all [bne_cast]

      · have ha : anT an ca true = an := by unfold anT; rw [if_pos rfl, if_neg hn]
        rw [ha] at hg
        obtain ⟨hE3, hk3⟩ := hE2.caret tt
        have HM3 := run.hid (rmarked_any hE3)
        have HG2 := run.hid hg
        have HE3 := run.hid (And.intro hE3 hk3)
        clear hE3 hk3 hE2 hg
        dsimp only at HM3
        generalize mkT an tt = mk1 at *
        obtain ⟨mc, md⟩ := mk1
        dsimp only at HG2 HM3
        go_wp2_with fail
        refine HM3.out.mono ?_
        rintro e w4 ⟨rfl, hs4⟩
        have HF : Hid (RE S r ⟨F, tt, an, L, dn⟩ w4 ∧ Kept (fun x => x = r) w w4) := by
          refine ⟨HE3.out.1.below hs4.below, ?_⟩
          exact ((Kept.of_sameR HS2.out).trans HE3.out.2 (fun _ _ h => h)).trans (Kept.of_sameR hs4) (fun _ _ h => h)
        clear HM3 HE3 HS2 hs4 c1 c2 f1 f2
        go_wp2
        all_goals
          go_ret
          rw [HG2.out]
          refine ⟨congrArg (fun x => Ending.returned (Value.bool x)) ?_, HF.out⟩
          clear HF HG2
          simp only [Int.natCast_inj] at *
          simp_all [bne_cast]

theorem Kept.cellK2 {w w' : World} {r : Nat} (hk : Kept (fun x => x = r) w w') {a : Addr} {u : Value} (hc : w.cell? a = some u) (hS : a.block ≠ r) : w'.cell? a = some u :=
  (World.cell?_of_block (hk.block a.block (World.block_lt_of_cell? w a hc) hS)).trans hc
/-- what is held, and the rest, is put: by a chain of stores into the box -/
theorem RE.held (h : RE S r ⟨F, ca, an, L, dn⟩ w) {a : Option Addr} {c : Nat} {F' : List TV} (hr : Rd S w a c F') (ca' : Nat) (dn' : Nat) {w' : World} (hk : Kept (fun x => x = r) w w')
    (hb : ∀ aF cF aS cS, RBox r aF F.length cF ca an aS L.length cS dn w → RBox r a F'.length c ca' (-1) aS L.length cS dn' w') : RE S r ⟨F', ca', -1, L, dn'⟩ w' := by
  obtain ⟨hs, aF, cF, aS, cS, hbx, hF, hS⟩ := h
  exact ⟨hs, a, c, aS, cS, hb aF cF aS cS hbx, hr.kept hk (fun k hk => hk ▸ hs) (fun k hk => .inl hk), hS.kept hk (fun k hk => hk ▸ hs) (fun k hk => .inl hk)⟩
set_option maxHeartbeats 1000000 in
theorem rundo_none (h : RE S r ⟨F, ca, an, L, 0⟩ w) : Calls Tryz.prog 20 #[.pointer (some ⟨r, 0, none⟩)] w fun e w' => e = .returned (.bool false) ∧ w' = w := by
  obtain ⟨hs, aF, cF, aS, cS, hb, hF, hS⟩ := h
  have c4 := blk_cell hb 4
  change w.cell? _ = some (.int .i64 0) at c4
  clear hs hb hF hS
  go_enter Tryz.func20, Tryz.ntmps20
  go_wp2
  go_ret
  exact ⟨rfl, rfl⟩
set_option maxRecDepth 100000 in
set_option maxHeartbeats 4000000 in
theorem rundo_any {n : Nat} {x : St} (h : RE S r ⟨F, ca, an, L, n + 1⟩ w) (hx : L[n]? = some x) (hn : n < 1024) :
    Calls Tryz.prog 20 #[.pointer (some ⟨r, 0, none⟩)] w fun e w' => e = .returned (.bool true) ∧ RE S r ⟨x.bef, x.ahead, -1, L, n⟩ w' ∧ Kept (fun x => x = r) w w' := by
  have HE := run.hid h
  obtain ⟨hs, aF, cF, aS, cS, hb, hF, hS⟩ := h
  obtain ⟨hcap, ⟨-, h0⟩ | ⟨sb, off, rfl, hlt, hsb, hst⟩⟩ := hS
  · change L.length ≤ cS at hcap
    have := (List.getElem?_eq_some_iff.1 hx).1
    omega
  have hxL := (List.getElem?_eq_some_iff.1 hx).1
  obtain ⟨ab, cb, aa, cc, k0, k1, -, -, r1, -⟩ := hst n x hx
  have hne : sb ≠ r := fun e => hsb (e ▸ hs)
  have HR1 := run.hid r1
  have HBX := run.hid hb
  have c0 := blk_cell hb 0
  have c1 := blk_cell hb 1
  have c2 := blk_cell hb 2
  have c3 := blk_cell hb 3
  have c4 := blk_cell hb 4
  change w.cell? _ = some (.slice aF F.length cF) at c0
  change w.cell? _ = some (.int .i64 (ca : Nat)) at c1
  change w.cell? _ = some (.int .i64 an) at c2
  change w.cell? _ = some (.slice (some ⟨sb, off, none⟩) L.length cS) at c3
  change w.cell? _ = some (.int .i64 ((n + 1 : Nat) : Int)) at c4
  have f0 := blk_free hb 0
  have f1 := blk_free hb 1
  have f2 := blk_free hb 2
  have f4 := blk_free hb 4
  have hsub : (((n + 1 : Nat) : Int) - 1) = (n : Int) := by omega
  clear hs hb hF hst r1 hsb
  generalize hLL : L.length = LL at *
  go_enter Tryz.func20, Tryz.ntmps20
  go_upto_region 4 with fail
  have hb3 : (w.setCell ⟨r, 4, none⟩ (.int .i64 (n : Nat))).heap[r]? = some (.cells #[.slice aF F.length cF, .int .i64 (ca : Nat), .int .i64 an, .slice (some ⟨sb, off, none⟩) LL cS, .int .i64 (n : Nat)] 50 (0, 0)) := by
    have h1 := heap_setCell_same w r 4 _ _ (.int .i64 (n : Nat)) HBX.out
    exact h1
  have hk3 : Kept (fun x => x = r) w (w.setCell ⟨r, 4, none⟩ (.int .i64 (n : Nat))) := Kept.setCell (b := r) (i := 4) (Kept.refl (fun x => x = r) w) (.inl rfl) _
  have K0 := (World.cell?_of_block (a := ⟨sb, off + n * 4, none⟩) (hk3.block sb hlt hne)).trans k0
  have K1 := (World.cell?_of_block (a := ⟨sb, off + n * 4 + 1, none⟩) (hk3.block sb hlt hne)).trans k1
  generalize w.setCell ⟨r, 4, none⟩ (.int .i64 (n : Nat)) = w3 at *
  clear c0 c1 c2 c3 c4 f0 f1 f2 f4 k0 k1
  have c0 := blk_cell hb3 0
  have c1 := blk_cell hb3 1
  have c2 := blk_cell hb3 2
  have c3 := blk_cell hb3 3
  have c4 := blk_cell hb3 4
  change w3.cell? _ = some (.slice aF F.length cF) at c0
  change w3.cell? _ = some (.int .i64 (ca : Nat)) at c1
  change w3.cell? _ = some (.int .i64 an) at c2
  change w3.cell? _ = some (.slice (some ⟨sb, off, none⟩) LL cS) at c3
  change w3.cell? _ = some (.int .i64 (n : Nat)) at c4
  have f0 := blk_free hb3 0
  have f1 := blk_free hb3 1
  have f2 := blk_free hb3 2
  have HB3 := run.hid hb3
  have HK3 := run.hid hk3
  clear hb3 hk3
  generalize hXL2 : x.bef.length = XL at *
  have hb4 : ((w3.setCell ⟨r, 0, none⟩ (.slice ab XL cb)).setCell ⟨r, 1, none⟩ (.int .i64 (x.ahead : Nat))).heap[r]? = some (.cells #[.slice ab XL cb, .int .i64 (x.ahead : Nat), .int .i64 an, .slice (some ⟨sb, off, none⟩) LL cS, .int .i64 (n : Nat)] 50 (0, 0)) :=
    heap_setCell_same _ r 1 _ _ _ (heap_setCell_same w3 r 0 _ _ _ HB3.out)
  have hk4 : Kept (fun x => x = r) w3 ((w3.setCell ⟨r, 0, none⟩ (.slice ab XL cb)).setCell ⟨r, 1, none⟩ (.int .i64 (x.ahead : Nat))) := Kept.setCell (b := r) (i := 1) (Kept.setCell (b := r) (i := 0) (Kept.refl (fun x => x = r) w3) (.inl rfl) _) (.inl rfl) _
  have d0 := (hk4.cellK2 K0 hne)
  have d1 := (hk4.cellK2 K1 hne)
  have d3 := blk_cell hb4 3
  have d4 := blk_cell hb4 4
  change World.cell? _ _ = some (.slice (some ⟨sb, off, none⟩) LL cS) at d3
  change World.cell? _ _ = some (.int .i64 (n : Nat)) at d4
  have HK := run.hid (HK3.out.trans hk4 (fun _ _ h => h))
  have HF := run.hid (fun (W : World) (hW : Same ((w3.setCell ⟨r, 0, none⟩ (.slice ab XL cb)).setCell ⟨r, 1, none⟩ (.int .i64 (x.ahead : Nat))) W) => show RE S r ⟨x.bef, x.ahead, -1, L, n⟩ (W.setCell ⟨r, 2, none⟩ (.int .i64 (-1))) ∧ Kept (fun x => x = r) w (W.setCell ⟨r, 2, none⟩ (.int .i64 (-1))) by
    have hk5 := Kept.setCell (b := r) (i := 2) (HK.out.trans (Kept.of_sameR (S := fun x => x = r) hW) (fun _ _ h => h)) (.inl rfl) (.int .i64 (-1))
    refine ⟨HE.out.held HR1.out x.ahead n hk5 (fun aF' cF' aS' cS' hb' => ?_), hk5⟩
    have h1 := heap_setCell_same W r 2 _ _ (.int .i64 (-1)) ((by rw [hW.heap] : W.heap[r]? = _).trans hb4)
    have h2 : RBox r aF' F.length cF' ca an aS' L.length cS' (n + 1 : Nat) w := hb'
    have h3 := HBX.out.symm.trans h2
    simp only [Option.some.injEq, Obj.cells.injEq, Array.mk.injEq, List.cons.injEq, Value.slice.injEq] at h3
    obtain ⟨⟨-, -, -, ⟨e1, -, e2⟩, -⟩, -⟩ := h3
    rw [← e1, ← e2, hXL2, hLL]
    exact h1)
  go_region_held3 (fun w' => w'.cell? ⟨r, 3, none⟩ = some (.slice (some ⟨sb, off, none⟩) LL cS) ∧ w'.cell? ⟨r, 4, none⟩ = some (.int .i64 (n : Nat)) ∧ w'.cell? ⟨sb, off + n * 4, none⟩ = some (.slice ab XL cb) ∧ w'.cell? ⟨sb, off + n * 4 + 1, none⟩ = some (.int .i64 (x.ahead : Nat)))
    (first
      | assumption
      | exact ⟨c3, c4, K0, K1⟩
      | exact ⟨d3, d4, d0, d1⟩
      | go_keep
      | (trace_state; fail))
    (fail)
  all_goals
    have e2 := blk_cell hb4 2
    have g2 := blk_free hb4 2
    change World.cell? _ _ = some (.int .i64 an) at e2
    have hs := Same.drew (Same.refl ((w3.setCell ⟨r, 0, none⟩ (.slice ab XL cb)).setCell ⟨r, 1, none⟩ (.int .i64 (x.ahead : Nat))))
    have HFF := run.hid (HF.out _ hs)
    have e2' := (World.cell?_of_block (a := ⟨r, 2, none⟩) (by rw [hs.heap])).trans e2
    have g2' := (World.frozen?_of_block (a := ⟨r, 2, none⟩) (by rw [hs.heap])).trans g2
    clear hs HF e2 g2
    generalize ((w3.setCell ⟨r, 0, none⟩ (.slice ab XL cb)).setCell ⟨r, 1, none⟩ (.int .i64 (x.ahead : Nat))).drew = wq at *
    go_wp2
    go_ret
    exact ⟨rfl, HFF.out⟩
set_option maxHeartbeats 1000000 in
theorem rredo_none (h : RE S r ⟨F, ca, an, L, dn⟩ w) (hd : dn = L.length) : Calls Tryz.prog 22 #[.pointer (some ⟨r, 0, none⟩)] w fun e w' => e = .returned (.bool false) ∧ Below w.heap.size w w' := by
  obtain ⟨hs, aF, cF, aS, cS, hb, hF, hS⟩ := h
  have c3 := blk_cell hb 3
  have c4 := blk_cell hb 4
  change w.cell? _ = some (.slice aS L.length cS) at c3
  change w.cell? _ = some (.int .i64 (dn : Nat)) at c4
  rw [hd] at c4
  clear hs hb hF hS hd
  generalize L.length = LL at *
  go_enter Tryz.func22, Tryz.ntmps22
  go_upto_region 1 with fail
  go_quiet (fail)
  go_wp2
  go_ret
  exact ⟨rfl, clu_drewN_below _ _ _⟩
set_option maxRecDepth 100000 in
set_option maxHeartbeats 4000000 in
theorem rredo_any {n : Nat} {x : St} (h : RE S r ⟨F, ca, an, L, n⟩ w) (hx : L[n]? = some x) (hn : n < 1024) :
    Calls Tryz.prog 22 #[.pointer (some ⟨r, 0, none⟩)] w fun e w' => e = .returned (.bool true) ∧ RE S r ⟨x.aft, x.after, -1, L, n + 1⟩ w' ∧ Kept (fun x => x = r) w w' := by
  have HE := run.hid h
  obtain ⟨hs, aF, cF, aS, cS, hb, hF, hS⟩ := h
  obtain ⟨hcap, ⟨-, h0⟩ | ⟨sb, off, rfl, hlt, hsb, hst⟩⟩ := hS
  · change L.length ≤ cS at hcap
    have := (List.getElem?_eq_some_iff.1 hx).1
    omega
  have hxL := (List.getElem?_eq_some_iff.1 hx).1
  obtain ⟨ab, cb, aa, cc, -, -, k0, k1, -, r1⟩ := hst n x hx
  have hne : sb ≠ r := fun e => hsb (e ▸ hs)
  have HR1 := run.hid r1
  have HBX := run.hid hb
  have c3 := blk_cell hb 3
  have c4 := blk_cell hb 4
  change w.cell? _ = some (.slice (some ⟨sb, off, none⟩) L.length cS) at c3
  change w.cell? _ = some (.int .i64 (n : Nat)) at c4
  have hne2 : ¬ (n : Int) = (L.length : Nat) := by omega
  clear hs hb hF hst r1 hsb
  generalize hLL : L.length = LL at *
  go_enter Tryz.func22, Tryz.ntmps22
  go_upto_region 1 with fail
  go_quiet (fail)
  have hk3 : Kept (fun x => x = r) w (w.drewN nq) := ⟨rfl, rfl, rfl, Nat.le_refl _, fun _ _ _ => rfl⟩
  have hb3 : (w.drewN nq).heap[r]? = some (.cells #[.slice aF F.length cF, .int .i64 (ca : Nat), .int .i64 an, .slice (some ⟨sb, off, none⟩) LL cS, .int .i64 (n : Nat)] 50 (0, 0)) := HBX.out
  have K0 := (World.cell?_of_block (a := ⟨sb, off + n * 4 + 2, none⟩) (hk3.block sb hlt hne)).trans k0
  have K1 := (World.cell?_of_block (a := ⟨sb, off + n * 4 + 3, none⟩) (hk3.block sb hlt hne)).trans k1
  go_upto_region 3 with fail
  generalize w.drewN nq = w3 at *
  clear c3 c4 k0 k1
  have c0 := blk_cell hb3 0
  have c1 := blk_cell hb3 1
  have c3 := blk_cell hb3 3
  have c4 := blk_cell hb3 4
  change w3.cell? _ = some (.slice aF F.length cF) at c0
  change w3.cell? _ = some (.int .i64 (ca : Nat)) at c1
  change w3.cell? _ = some (.slice (some ⟨sb, off, none⟩) LL cS) at c3
  change w3.cell? _ = some (.int .i64 (n : Nat)) at c4
  have f0 := blk_free hb3 0
  have f1 := blk_free hb3 1
  have HB3 := run.hid hb3
  have HK3 := run.hid hk3
  clear hb3 hk3
  generalize hXL2 : x.aft.length = XL at *
  have hb4 : ((w3.setCell ⟨r, 0, none⟩ (.slice aa XL cc)).setCell ⟨r, 1, none⟩ (.int .i64 (x.after : Nat))).heap[r]? = some (.cells #[.slice aa XL cc, .int .i64 (x.after : Nat), .int .i64 an, .slice (some ⟨sb, off, none⟩) LL cS, .int .i64 (n : Nat)] 50 (0, 0)) :=
    heap_setCell_same _ r 1 _ _ _ (heap_setCell_same w3 r 0 _ _ _ HB3.out)
  have hk4 : Kept (fun x => x = r) w3 ((w3.setCell ⟨r, 0, none⟩ (.slice aa XL cc)).setCell ⟨r, 1, none⟩ (.int .i64 (x.after : Nat))) := Kept.setCell (b := r) (i := 1) (Kept.setCell (b := r) (i := 0) (Kept.refl (fun x => x = r) w3) (.inl rfl) _) (.inl rfl) _
  have d0 := (hk4.cellK2 K0 hne)
  have d1 := (hk4.cellK2 K1 hne)
  have d3 := blk_cell hb4 3
  have d4 := blk_cell hb4 4
  change World.cell? _ _ = some (.slice (some ⟨sb, off, none⟩) LL cS) at d3
  change World.cell? _ _ = some (.int .i64 (n : Nat)) at d4
  have HK := run.hid (HK3.out.trans hk4 (fun _ _ h => h))
  have HF := run.hid (fun (W : World) (hW : Same ((w3.setCell ⟨r, 0, none⟩ (.slice aa XL cc)).setCell ⟨r, 1, none⟩ (.int .i64 (x.after : Nat))) W) => show RE S r ⟨x.aft, x.after, -1, L, n + 1⟩ ((W.setCell ⟨r, 4, none⟩ (.int .i64 ((n : Int) + 1))).setCell ⟨r, 2, none⟩ (.int .i64 (-1))) ∧ Kept (fun x => x = r) w ((W.setCell ⟨r, 4, none⟩ (.int .i64 ((n : Int) + 1))).setCell ⟨r, 2, none⟩ (.int .i64 (-1))) by
    have hk5 := Kept.setCell (b := r) (i := 2) (Kept.setCell (b := r) (i := 4) (HK.out.trans (Kept.of_sameR (S := fun x => x = r) hW) (fun _ _ h => h)) (.inl rfl) (.int .i64 ((n : Int) + 1))) (.inl rfl) (.int .i64 (-1))
    refine ⟨HE.out.held HR1.out x.after (n + 1) hk5 (fun aF' cF' aS' cS' hb' => ?_), hk5⟩
    have h1 := heap_setCell_same _ r 2 _ _ (.int .i64 (-1)) (heap_setCell_same W r 4 _ _ (.int .i64 ((n : Int) + 1)) ((by rw [hW.heap] : W.heap[r]? = _).trans hb4))
    have h2 : RBox r aF' F.length cF' ca an aS' L.length cS' (n : Nat) w := hb'
    have h3 := HBX.out.symm.trans h2
    simp only [Option.some.injEq, Obj.cells.injEq, Array.mk.injEq, List.cons.injEq, Value.slice.injEq] at h3
    obtain ⟨⟨-, -, -, ⟨e1, -, e2⟩, -⟩, -⟩ := h3
    rw [← e1, ← e2, hXL2, hLL]
    exact h1)
  go_region_held3 (fun w' => w'.cell? ⟨r, 3, none⟩ = some (.slice (some ⟨sb, off, none⟩) LL cS) ∧ w'.cell? ⟨r, 4, none⟩ = some (.int .i64 (n : Nat)) ∧ w'.cell? ⟨sb, off + n * 4 + 2, none⟩ = some (.slice aa XL cc) ∧ w'.cell? ⟨sb, off + n * 4 + 3, none⟩ = some (.int .i64 (x.after : Nat)))
    (first
      | assumption
      | exact ⟨c3, c4, K0, K1⟩
      | exact ⟨d3, d4, d0, d1⟩
      | go_keep
      | (trace_state; fail))
    (fail)
  all_goals
    have e2 := blk_cell hb4 2
    have g2 := blk_free hb4 2
    have g4 := blk_free hb4 4
    change World.cell? _ _ = some (.int .i64 an) at e2
    have hs := Same.drew (Same.refl ((w3.setCell ⟨r, 0, none⟩ (.slice aa XL cc)).setCell ⟨r, 1, none⟩ (.int .i64 (x.after : Nat))))
    have HFF := run.hid (HF.out _ hs)
    have e2' := (World.cell?_of_block (a := ⟨r, 2, none⟩) (by rw [hs.heap])).trans e2
    have e4' := (World.cell?_of_block (a := ⟨r, 4, none⟩) (by rw [hs.heap])).trans d4
    have g2' := (World.frozen?_of_block (a := ⟨r, 2, none⟩) (by rw [hs.heap])).trans g2
    have g4' := (World.frozen?_of_block (a := ⟨r, 4, none⟩) (by rw [hs.heap])).trans g4
    clear hs HF e2 g2 g4
    generalize ((w3.setCell ⟨r, 0, none⟩ (.slice aa XL cc)).setCell ⟨r, 1, none⟩ (.int .i64 (x.after : Nat))).drew = wq at *
    go_wp2
    go_ret
    exact ⟨rfl, HFF.out⟩
end
end Go.Proofs.YtbhhfagifdjmmaaGreat.ed
namespace Go.Proofs.YtbhhfagifdjmmaaGreat.ed
open Go Go.RowKit Go.Proofs
set_option linter.unusedVariables false
theorem info_cl : (Tryz.prog.info? 40).map (fun i => (i.zero, i.size, i.bytes)) = some (some (.agg #[.string ⟨#[]⟩, .int .i64 0]), 2, 24) := by kernel_rfl
theorem shown_next {F : List TV} {i : Nat} (h : i < F.length) : (F.take (i + 1)).map shownE = (F.take i).map shownE ++ [shownE (F.getD i tv0)] := by
  rw [List.take_succ_eq_append_getElem h, List.map_append]
  simp [List.getD_eq_getElem?_getD, h]
theorem cells_snoc (l : List TV) (q : TV) : cellsT (l ++ [q]) = cellsT l ++ [.string q.1, .int .i64 (q.2 : Nat)] := by unfold cellsT; rw [List.flatMap_append]; rfl
theorem cells_at {F : List TV} {i : Nat} (h : i < F.length) : (cellsT F)[i * 2]? = some (.string (F.getD i tv0).1) ∧ (cellsT F)[i * 2 + 1]? = some (.int .i64 ((F.getD i tv0).2 : Nat)) := clu.cells2_get F i h
theorem own_some2 {w : World} {B e sz n : Nat} {v : Value} {xs : List Value} (h : w.ownsRow B e sz v n xs) (hn : 0 < n) : ∃ g cap, v = .slice (some ⟨g, 0, none⟩) n cap := by
  rcases h.2 with ⟨rfl, h0⟩ | ⟨g, cap, cur, rfl, -⟩
  · omega
  · exact ⟨g, cap, rfl⟩
theorem nl_toList (q : ByteArray) : (q.toList == [10]) = decide (q = wrp.nl) := wrp.nl_eq q
set_option maxRecDepth 100000 in
set_option maxHeartbeats 4000000 in
theorem rline_any (s : ByteArray) (w : World) (hs : s.size ≤ 68719476736) : Calls Tryz.prog 12 #[.string s] w fun e w' =>
    ∃ v, e = .returned v ∧ w'.ownsRow w.heap.size 40 2 v (lineT s).length (cellsT (lineT s)) ∧ Below w.heap.size w w' := by
  obtain ⟨it, hi0, hz0, hz1, hz2⟩ := info_parts info_cl
  have HFL := run.hid (wrp.refFlow_any s w hs)
  have hfl : lineT s = (wrp.flow s).map shownE := rfl
  have hlen : (wrp.flow s).length ≤ 274877906944 := by
    have := wrp.flow_len s
    omega
  rw [hfl]
  clear hfl
  have hcc : clu.cells2 (wrp.flow s) = cellsT (wrp.flow s) := rfl
  rw [hcc] at HFL
  clear hcc
  generalize wrp.flow s = F at *
  have HNX := run.hid (fun i => @shown_next F i)
  have HAT := run.hid (fun i => @cells_at F i)
  obtain ⟨N, hN⟩ : ∃ N, N = F.length := ⟨_, rfl⟩
  rw [List.length_map, ← hN]
  rw [← hN] at HFL hlen HNX HAT
  have HN := run.hid hN
  clear hN
  go_enter Tryz.func12, Tryz.ntmps12
  go_wp2_with fail
  refine HFL.out.mono ?_
  rintro e w1 ⟨v1, rfl, hown1, hb1⟩
  have H1 := run.hid hown1
  have HB1 := run.hid hb1
  have hs1 := hb1.size
  obtain ⟨a1, c1, rfl⟩ := run.own_value hown1
  clear hown1 hb1 HFL
  generalize hB1 : w1.heap.size = B1 at *
  go_wp2
  go_loopw [5, 4] (fun vi vo wr => ∃ i : Nat, i ≤ N ∧ vi = .int .i64 i ∧ Hid (wr.ownsRow B1 40 2 vo i (cellsT ((F.take i).map shownE))) ∧ Hid (Below B1 w1 wr)) (fun vi _ _ => (N - intOf vi).toNat)
  case atStart => exact ⟨0, by omega, rfl, World.ownsRow_nil _ _ _ _, Below.refl _ _⟩
  case round =>
    obtain ⟨i, hi, rfl, HO, HBr⟩ := hrel
    have hsr := HBr.out.size
    rw [hB1] at hsr
    by_cases hil : i < N
    · have h1r := run.own_below H1.out (by rw [hB1]; exact HBr.out)
      obtain ⟨g, cap, e1⟩ := own_some2 h1r (by omega)
      simp only [Value.slice.injEq, true_and] at e1
      obtain ⟨rfl, rfl⟩ := e1
      obtain ⟨x0, x1⟩ := HAT.out i hil
      have k0 := (h1r.cellAt (i * 2) (by omega)).trans x0
      have k1 := (h1r.cellAt (i * 2 + 1) (by omega)).trans x1
      have hnx := HNX.out i hil
      clear x0 x1 h1r
      generalize F.getD i tv0 = q at *
      obtain ⟨qt, qw⟩ := q
      dsimp only at k0 k1
      by_cases hq : qt = wrp.nl
      · have hsh : shownE (qt, qw) = (⟨#[32]⟩, 1) := by unfold shownE; rw [if_pos hq]; rfl
        rw [hsh] at hnx
        obtain rfl : qt = ⟨#[10]⟩ := hq
        clear hsh
        go_wp2_with (at_builtin; refine run.wpList_append_any _ rfl _ _ 37 rfl B1 40 it (.agg #[.string ⟨#[]⟩, .int .i64 0]) 2 24 Tryz.underlying37 hi0 hz0 hz1 hz2 rfl (by decide) _ _ _ rfl (HO.out.alloc _) _ 1 [.string ⟨#[32]⟩, .int .i64 1] rfl (run.readsN_new wr [.string ⟨#[32]⟩, .int .i64 1] 1 2 _ rfl) (by intro u hu; simp only [List.mem_cons, List.not_mem_nil, or_false] at hu; rcases hu with rfl | rfl <;> rfl) (by unfold maxLen; omega) (by omega) (by simp; omega) ?_)
        intro v8 w8 hown8 hgrow _ _
        have HO8 : Hid (w8.ownsRow B1 40 2 v8 (i + 1) (cellsT ((F.take (i + 1)).map shownE))) := by
          show World.ownsRow _ _ _ _ _ _ _
          rw [hnx, cells_snoc]
          simpa using hown8
        have HB8 := run.hid (run.below_append (HBr.out.alloc (by omega) _) (HO.out.alloc (.cells #[.string ⟨#[32]⟩, .int .i64 1] 40)) hgrow (by simp; omega))
        clear hown8 hgrow HO HBr hnx
        go_wp2
        go_roundw
        case rel => exact ⟨i + 1, by omega, by go_num, HO8, HB8⟩
        case measure => simp [intOf]; omega
      · have hsh : shownE (qt, qw) = (qt, qw) := by unfold shownE; rw [if_neg hq]
        rw [hsh] at hnx
        have hne : ¬ qt = ⟨#[10]⟩ := hq
        have hne2 : (qt.toList == [10]) = false := by rw [nl_toList]; exact decide_eq_false hq
        clear hsh hq
        go_wp2_with (at_builtin; refine run.wpList_append_any _ rfl _ _ 37 rfl B1 40 it (.agg #[.string ⟨#[]⟩, .int .i64 0]) 2 24 Tryz.underlying37 hi0 hz0 hz1 hz2 rfl (by decide) _ _ _ rfl (HO.out.alloc _) _ 1 [.string qt, .int .i64 (qw : Nat)] rfl (run.readsN_new wr [.string qt, .int .i64 (qw : Nat)] 1 2 _ rfl) (by intro u hu; simp only [List.mem_cons, List.not_mem_nil, or_false] at hu; rcases hu with rfl | rfl <;> rfl) (by unfold maxLen; omega) (by omega) (by simp; omega) ?_)
        intro v8 w8 hown8 hgrow _ _
        have HO8 : Hid (w8.ownsRow B1 40 2 v8 (i + 1) (cellsT ((F.take (i + 1)).map shownE))) := by
          show World.ownsRow _ _ _ _ _ _ _
          rw [hnx, cells_snoc]
          simpa using hown8
        have HB8 := run.hid (run.below_append (HBr.out.alloc (by omega) _) (HO.out.alloc (.cells #[.string qt, .int .i64 (qw : Nat)] 40)) hgrow (by simp; omega))
        clear hown8 hgrow HO HBr hnx
        go_wp2
        go_roundw
        case rel => exact ⟨i + 1, by omega, by go_num, HO8, HB8⟩
        case measure => simp [intOf]; omega
    · obtain rfl : i = N := by omega
      have HF := run.hid (HB1.out.trans (HBr.out.mono (by omega)))
      have HOF : Hid (wr.ownsRow w.heap.size 40 2 u4 i (cellsT (F.map shownE))) := by
        have h1 := HO.out
        rw [List.take_of_length_le (by rw [← HN.out]; exact Nat.le_refl _)] at h1
        exact run.own_mono h1 (by omega)
      clear HO HBr
      go_wp2
      go_ret
      exact ⟨_, rfl, HOF.out, HF.out⟩
theorem str_cat (F : List TV) : utf.str (rf.catN F) = textB F := by
  unfold utf.str rf.catN textB textL
  congr 2
  rw [List.map_flatMap]
  congr 1
  funext q
  unfold utf.bs
  rw [List.map_map]
  exact (List.map_congr_left (fun u _ => UInt8.ofNat_toNat)).trans (List.map_id _)
theorem cat_len (F : List TV) : (rf.catN F).length = sizeL F := by
  unfold rf.catN sizeL textL
  induction F with
  | nil => rfl
  | cons q t ih => rw [List.flatMap_cons, List.flatMap_cons, List.length_append, List.length_append, ih, utf.bs_length]; rfl
/-- the text of clusters that are read -/
theorem rjoin_any {S : Nat → Prop} {w : World} {a : Option Addr} {c : Nat} {F : List TV} (h : Rd S w a c F) (hl : F.length ≤ 1099511627776) (hs : sizeL F ≤ 35184372088832) :
    Calls Tryz.prog 43 #[.slice a F.length c] w fun e w' => e = .returned (.string (textB F)) ∧ Below w.heap.size w w' := by
  have := rf.refJoin_any _ F w h.reads hl (by rw [cat_len]; exact hs)
  rw [str_cat] at this
  exact this
set_option maxHeartbeats 1000000 in
theorem rtext_any {S : Nat → Prop} {r : Nat} {s : Sta} {w : World} (h : RE S r s w) (hl : s.F.length ≤ 65536) (hz : sizeL s.F ≤ 65536) :
    Calls Tryz.prog 26 #[.pointer (some ⟨r, 0, none⟩)] w fun e w' => e = .returned (.string (textB s.F)) ∧ Below w.heap.size w w' := by
  obtain ⟨hs, aF, cF, aS, cS, hb, hF, hS⟩ := h
  have c0 := blk_cell hb 0
  change w.cell? _ = some (.slice aF s.F.length cF) at c0
  have HJ := run.hid (rjoin_any hF (by omega) (by omega))
  generalize textB s.F = T at *
  generalize s.F.length = N at *
  clear hs hb hF hS
  go_enter Tryz.func26, Tryz.ntmps26
  go_wp2_with fail
  refine HJ.out.mono ?_
  rintro e w1 ⟨rfl, hb⟩
  have HB := run.hid hb
  clear hb
  go_wp2
  go_ret
  exact ⟨rfl, HB.out⟩
theorem src_row {S : Nat → Prop} {w : World} {B g n cap : Nat} {F : List TV} (h : w.ownsRow B 40 2 (.slice (some ⟨g, 0, none⟩) n cap) n (cellsT F)) (hn : F.length = n) (hS : ¬ S g) {k : Nat} (hk : k ≤ n) : Rd S w (some ⟨g, 0, none⟩) cap (F.take k) := by
  have hc : n ≤ cap := by
    rcases h.2 with ⟨h0, -⟩ | ⟨g', cap', cur, h0, -, -, h1, -⟩
    · simp at h0
    · simp only [Value.slice.injEq] at h0; omega
  have hs := src_own h hn hk
  have hl : (F.take k).length = k := by rw [List.length_take]; omega
  refine ⟨⟨by rw [hl]; exact hs, fun q off e => by cases e; exact hS⟩, by omega⟩
theorem new_re {w w1 : World} {a1 : Option Addr} {N c1 k : Nat} {F : List TV} {S0 : Nat → Prop} (h : w1.ownsRow w.heap.size 40 2 (.slice a1 N c1) N (cellsT F)) (hN : F.length = N) (hk : k ≤ N) (hS0 : ∀ q, S0 q → q < w.heap.size) (hw : w.heap.size ≤ w1.heap.size) :
    RE (fun q => S0 q ∨ q = w1.heap.size) w1.heap.size ⟨F.take k, k, -1, [], 0⟩ (w1.alloc (.cells #[.slice a1 k c1, .int .i64 (k : Nat), .int .i64 (-1), .slice none 0 0, .int .i64 0] 50)) := by
  have hl : (F.take k).length = k := by rw [List.length_take]; omega
  refine ⟨.inr rfl, a1, c1, none, 0, ?_, ?_, ⟨Nat.zero_le _, .inl ⟨rfl, rfl⟩⟩⟩
  · unfold RBox
    rw [show (⟨F.take k, k, -1, [], 0⟩ : Sta).F.length = k from hl]
    exact run.heap_new w1 _
  · rcases h.2 with ⟨h0, h1⟩ | ⟨g, cap, cur, h0, hg, -⟩
    · simp only [Value.slice.injEq] at h0
      obtain ⟨rfl, -, rfl⟩ := h0
      have hF : F.take k = [] := by
        apply List.length_eq_zero_iff.1
        rw [hl]; omega
      show Rd _ _ _ _ (F.take k)
      rw [hF]
      exact ⟨⟨⟨rfl, by simp [cellsT], .inl ⟨rfl, rfl, rfl⟩⟩, fun q off e => by cases e⟩, Nat.zero_le _⟩
    · simp only [Value.slice.injEq] at h0
      obtain ⟨rfl, -, rfl⟩ := h0
      have hlt := h.lt g rfl
      refine src_row (h.alloc _) hN (fun e => ?_) hk
      rcases e with e | e
      · have := hS0 g e
        omega
      · omega
set_option maxRecDepth 100000 in
set_option maxHeartbeats 4000000 in
theorem rnew_any (s : ByteArray) (w : World) (hs : s.size ≤ 68719476736) (S0 : Nat → Prop) (hS0 : ∀ k, S0 k → k < w.heap.size) :
    Calls Tryz.prog 6 #[.string s] w fun e w' => ∃ r, e = .returned (.pointer (some ⟨r, 0, none⟩)) ∧ w.heap.size ≤ r ∧ RE (fun k => S0 k ∨ k = r) r (newE s) w' ∧ Below w.heap.size w w' := by
  have HL := run.hid (rline_any s w hs)
  have hlen : (lineT s).length ≤ 274877906944 := by
    have := lineT_len s
    have := wrp.flow_len s
    omega
  have hnw : newT s = cutL (lineT s) 0 := rfl
  have hne : newE s = ⟨newT s, (newT s).length, -1, [], 0⟩ := rfl
  rw [hne, hnw]
  clear hne hnw
  have HSZ := run.hid (fun i (hi : i < (lineT s).length) => @line_size s i hi)
  generalize lineT s = F at *
  have HCUT := run.hid (fun i => cutL_at F 0 i)
  have HSN := run.hid (fun i => @sizeL_snoc F i)
  have HAT := run.hid (fun i => @cells_at F i)
  have HS0 := run.hid hS0
  clear hS0
  obtain ⟨N, hN⟩ : ∃ N, N = F.length := ⟨_, rfl⟩
  rw [← hN] at HL hlen HCUT HSN HAT HSZ
  have HN := run.hid hN
  clear hN
  go_enter Tryz.func6, Tryz.ntmps6
  go_wp2_with fail
  refine HL.out.mono ?_
  rintro e w1 ⟨v1, rfl, hown, hb1⟩
  have H1 := run.hid hown
  have HB1 := run.hid hb1
  have hs1 := hb1.size
  obtain ⟨a1, c1, rfl⟩ := run.own_value hown
  clear hown hb1 HL
  go_wp2
  go_loopw [5, 4] (fun vk vn wr => ∃ k n : Nat, k ≤ N ∧ vk = .int .i64 k ∧ vn = .int .i64 n ∧ Hid (n = sizeL (F.take k)) ∧ n ≤ 65536 ∧ Hid (∀ j, j ≤ k → 0 + sizeL (F.take j) ≤ 65536) ∧ wr = w1) (fun vk _ _ => (N - intOf vk).toNat)
  case atStart => exact ⟨0, 0, by omega, rfl, rfl, rfl, by omega, fun j hj => by rw [Nat.le_zero.1 hj, List.take_zero]; decide, rfl⟩
  case round =>
    obtain ⟨k, n, hk, rfl, rfl, hn, hnb, HJ, hwr⟩ := hrel
    replace hwr := hwr.symm
    subst hwr
    by_cases hlt : k < N
    · obtain ⟨g, cap, e1⟩ := own_some2 H1.out (by omega)
      simp only [Value.slice.injEq, true_and] at e1
      obtain ⟨rfl, rfl⟩ := e1
      obtain ⟨x0, -⟩ := HAT.out k hlt
      have k0 := (H1.out.cellAt (k * 2) (by omega)).trans x0
      have hsn := HSN.out k hlt
      have hqb := HSZ.out k hlt
      have hcap : N ≤ c1 := by
        rcases H1.out.2 with ⟨h0, -⟩ | ⟨g', cap', cur, h0, -, -, h1, -⟩
        · simp at h0
        · simp only [Value.slice.injEq] at h0; omega
      clear x0
      generalize F.getD k tv0 = q at *
      obtain ⟨qt, qw⟩ := q
      dsimp only at k0 hsn hqb
      obtain ⟨z, hz⟩ : ∃ z, z = qt.size := ⟨_, rfl⟩
      have HSNN := run.hid hsn
      by_cases hfit : n + z ≤ 65536
      · have hfi : (n : Int) + (z : Int) ≤ 65536 := by omega
        have HJ2 : Hid (∀ j, j ≤ k + 1 → 0 + sizeL (F.take j) ≤ 65536) := fun j hj => by
          rcases Nat.lt_or_ge j (k + 1) with h1 | h1
          · exact HJ.out j (by omega)
          · have : j = k + 1 := by omega
            rw [this, HSNN.out, ← hn.out, ← hz]
            omega
        have HN2 : Hid (n + z = sizeL (F.take (k + 1))) := by show _ = _; rw [HSNN.out, ← hn.out, ← hz]
        rw [hz] at hfi HN2 hfit
        clear HJ hn hsn HSNN hz
        go_wp2
        go_roundw
        case rel => exact ⟨k + 1, n + qt.size, by omega, by go_num, by go_num, HN2, hfit, HJ2, trivial⟩
        case measure => simp [intOf]; omega
      · have hfi : ¬ (n : Int) + (z : Int) ≤ 65536 := by omega
        have HC := run.hid (HCUT.out k hk HJ.out (.inr (by rw [HSNN.out, ← hn.out, ← hz]; omega)))
        rw [hz] at hfi
        have HRE := run.hid (new_re (k := k) H1.out HN.out.symm (by omega) HS0.out (by omega))
        have HBN := run.hid (HB1.out.alloc hs1 (.cells #[.slice (some ⟨g, 0, none⟩) k c1, .int .i64 (k : Nat), .int .i64 (-1), .slice none 0 0, .int .i64 0] 50))
        have hlk : (F.take k).length = k := by rw [List.length_take, ← HN.out]; omega
        have HLK := run.hid hlk
        clear hlk HJ hn hsn HSNN hz hfit
        go_wp2
        go_ret
        rw [HC.out, HLK.out]
        exact ⟨_, rfl, hs1, HRE.out, HBN.out⟩
    · obtain rfl : k = N := by omega
      have HC := run.hid (HCUT.out k (Nat.le_refl _) HJ.out (.inl rfl))
      rcases H1.out.2 with ⟨h0, h1⟩ | ⟨g, cap', cur, h0, -, -, h1, -⟩
      · simp only [Value.slice.injEq] at h0
        obtain ⟨rfl, -, rfl⟩ := h0
        subst h1
        rw [show ((0 : Nat) : Int) = 0 from rfl]
        have HRE := run.hid (new_re (k := 0) H1.out HN.out.symm (by omega) HS0.out (by omega))
        have HBN := run.hid (HB1.out.alloc hs1 (.cells #[.slice none 0 0, .int .i64 0, .int .i64 (-1), .slice none 0 0, .int .i64 0] 50))
        have hlk : (F.take 0).length = 0 := by rw [List.length_take, ← HN.out]; omega
        have HLK := run.hid hlk
        clear hlk HJ hn hlt
        go_wp2
        go_ret
        rw [HC.out, HLK.out]
        exact ⟨_, rfl, hs1, HRE.out, HBN.out⟩
      · simp only [Value.slice.injEq] at h0
        obtain ⟨rfl, -, rfl⟩ := h0
        have HRE := run.hid (new_re (k := k) H1.out HN.out.symm (by omega) HS0.out (by omega))
        have HBN := run.hid (HB1.out.alloc hs1 (.cells #[.slice (some ⟨g, 0, none⟩) k c1, .int .i64 (k : Nat), .int .i64 (-1), .slice none 0 0, .int .i64 0] 50))
        have hlk : (F.take k).length = k := by rw [List.length_take, ← HN.out]; omega
        have HLK := run.hid hlk
        clear hlk HJ hn hlt
        go_wp2
        go_ret
        rw [HC.out, HLK.out]
        exact ⟨_, rfl, hs1, HRE.out, HBN.out⟩
end Go.Proofs.YtbhhfagifdjmmaaGreat.ed
namespace Go.Proofs.YtbhhfagifdjmmaaGreat.ed
open Go Go.RowKit Go.Proofs
set_option linter.unusedVariables false
theorem typed_lenX (X : List Int) (j : Nat) : (typedT (X.take j)).length ≤ j := by
  have h : ∀ L : List Int, (typedT L).length ≤ L.length := by
    intro L
    induction L with
    | nil => exact Nat.le_refl _
    | cons q t ih =>
      have e : typedT (q :: t) = typed1 q ++ typedT t := rfl
      rw [e, List.length_append, List.length_cons]
      have : (typed1 q).length ≤ 1 := by unfold typed1; split <;> (try split) <;> simp
      omega
  have := h (X.take j)
  rw [List.length_take] at this
  omega
theorem utf_rv_snoc (l m : List Int) : utf.rv (l ++ m) = utf.rv l ++ utf.rv m := by unfold utf.rv; rw [List.map_append]
theorem info_i32 : (Tryz.prog.info? 21).map (fun i => (i.zero, i.size, i.bytes)) = some (some (.int .i32 0), 1, 4) := by kernel_rfl
set_option maxRecDepth 100000 in
set_option maxHeartbeats 4000000 in
theorem rtyped_any (s : ByteArray) (w : World) (hs : s.size ≤ 68719476736) : Calls Tryz.prog 44 #[.string s] w fun e w' => e = .returned (.string (typedB s)) ∧ Below w.heap.size w w' := by
  obtain ⟨ir, hir, hr0, hr1, hr2⟩ := info_parts info_i32
  have hl := utf.runes_len s
  have HR := run.hid (utf.refRunes_use s w (by omega) (by omega))
  have hT : typedB s = utf.str (utf.text (typedT (utf.runes (utf.bs s)))) := rfl
  rw [hT]
  clear hT
  generalize utf.runes (utf.bs s) = X at *
  have HNX := run.hid (fun j => @typed_next X j)
  have HTL := run.hid (fun j => typed_lenX X j)
  have HTX := run.hid (fun v w' (h : run.Reads w' v (utf.rv (typedT X))) => utf.refText_any v (typedT X) w' h (by have := typed_lenX X X.length; rw [List.take_of_length_le (Nat.le_refl _)] at this; omega))
  obtain ⟨N, hN⟩ : ∃ N, N = X.length := ⟨_, rfl⟩
  rw [← hN] at hl HNX HR
  have HN := run.hid hN
  clear hN
  go_enter Tryz.func44, Tryz.ntmps44
  go_wp2_with fail
  refine HR.out.mono ?_
  rintro e w1 ⟨v1, rfl, hown, -, hb1, -⟩
  have H1 := run.hid hown
  have HB1 := run.hid hb1
  have hs1 := hb1.size
  obtain ⟨a1, c1, rfl⟩ := run.own_value hown
  clear hown hb1 HR
  generalize hB1 : w1.heap.size = B1 at *
  go_wp2
  go_loopw [5, 4] (fun vj vo wr => ∃ j : Nat, j ≤ N ∧ vj = .int .i64 j ∧ Hid (wr.ownsRow B1 21 1 vo (typedT (X.take j)).length (utf.rv (typedT (X.take j)))) ∧ Hid (Below B1 w1 wr)) (fun vj _ _ => (N - intOf vj).toNat)
  case atStart => exact ⟨0, by omega, rfl, World.ownsRow_nil _ _ _ _, Below.refl _ _⟩
  case round =>
    obtain ⟨j, hj, rfl, HO, HBr⟩ := hrel
    have hsr := HBr.out.size
    rw [hB1] at hsr
    have hlen := HTL.out j
    by_cases hlt : j < N
    · have h1r := run.own_below H1.out (by rw [hB1]; exact HBr.out)
      obtain ⟨g, cap, e1⟩ := own_some2 h1r (by omega)
      simp only [Value.slice.injEq, true_and] at e1
      obtain ⟨rfl, rfl⟩ := e1
      have k0 := (h1r.cellAt j (by omega)).trans (utf.rv_get (by rw [← HN.out]; exact hlt))
      have hnx := HNX.out j hlt
      clear h1r
      generalize X.getD j 0 = x at *
      by_cases h10 : x = 10
      · subst h10
        have ht : typed1 10 = [32] := by decide
        rw [ht] at hnx
        clear ht
        go_wp2_with (at_builtin; refine run.wpList_append_any _ rfl _ _ 67 rfl B1 21 ir (.int .i32 0) 1 4 Tryz.underlying67 hir hr0 hr1 hr2 rfl (by decide) _ _ _ rfl (HO.out.alloc _) _ 1 [.int .i32 32] rfl (run.readsN_new wr [.int .i32 32] 1 1 _ rfl) (by intro u hu; simp only [List.mem_singleton] at hu; subst hu; rfl) (by unfold maxLen; omega) (by omega) (by simp; omega) ?_)
        intro v8 w8 hown8 hgrow _ _
        have HO8 : Hid (w8.ownsRow B1 21 1 v8 (typedT (X.take (j + 1))).length (utf.rv (typedT (X.take (j + 1))))) := by
          show World.ownsRow _ _ _ _ _ _ _
          rw [hnx, utf_rv_snoc, List.length_append]
          exact hown8
        have HB8 := run.hid (run.below_append (HBr.out.alloc (by omega) _) (HO.out.alloc (.cells #[.int .i32 32] 21)) hgrow (by simp; omega))
        clear hown8 hgrow HO HBr hnx
        go_wp2
        go_roundw
        case rel => exact ⟨j + 1, by omega, by go_num, HO8, HB8⟩
        case measure => simp [intOf]; omega
      have h10b : (x == 10) = false := beq_eq_false_iff_ne.2 h10
      by_cases h9 : x = 9
      · subst h9
        have ht : typed1 9 = [32] := by decide
        rw [ht] at hnx
        clear ht
        go_wp2_with (at_builtin; refine run.wpList_append_any _ rfl _ _ 67 rfl B1 21 ir (.int .i32 0) 1 4 Tryz.underlying67 hir hr0 hr1 hr2 rfl (by decide) _ _ _ rfl (HO.out.alloc _) _ 1 [.int .i32 32] rfl (run.readsN_new wr [.int .i32 32] 1 1 _ rfl) (by intro u hu; simp only [List.mem_singleton] at hu; subst hu; rfl) (by unfold maxLen; omega) (by omega) (by simp; omega) ?_)
        intro v8 w8 hown8 hgrow _ _
        have HO8 : Hid (w8.ownsRow B1 21 1 v8 (typedT (X.take (j + 1))).length (utf.rv (typedT (X.take (j + 1))))) := by
          show World.ownsRow _ _ _ _ _ _ _
          rw [hnx, utf_rv_snoc, List.length_append]
          exact hown8
        have HB8 := run.hid (run.below_append (HBr.out.alloc (by omega) _) (HO.out.alloc (.cells #[.int .i32 32] 21)) hgrow (by simp; omega))
        clear hown8 hgrow HO HBr hnx
        go_wp2
        go_roundw
        case rel => exact ⟨j + 1, by omega, by go_num, HO8, HB8⟩
        case measure => simp [intOf]; omega
      have h9b : (x == 9) = false := beq_eq_false_iff_ne.2 h9
      by_cases h32 : 32 ≤ x
      · by_cases h127 : x < 127
        · have ht : typed1 x = [x] := by unfold typed1; rw [if_neg (by omega), if_pos (by omega)]
          rw [ht] at hnx
          clear ht
          go_wp2_with (at_builtin; refine run.wpList_append_any _ rfl _ _ 67 rfl B1 21 ir (.int .i32 0) 1 4 Tryz.underlying67 hir hr0 hr1 hr2 rfl (by decide) _ _ _ rfl (HO.out.alloc _) _ 1 [.int .i32 x] rfl (run.readsN_new wr [.int .i32 x] 1 1 _ rfl) (by intro u hu; simp only [List.mem_singleton] at hu; subst hu; rfl) (by unfold maxLen; omega) (by omega) (by simp; omega) ?_)
          intro v8 w8 hown8 hgrow _ _
          have HO8 : Hid (w8.ownsRow B1 21 1 v8 (typedT (X.take (j + 1))).length (utf.rv (typedT (X.take (j + 1))))) := by
            show World.ownsRow _ _ _ _ _ _ _
            rw [hnx, utf_rv_snoc, List.length_append]
            exact hown8
          have HB8 := run.hid (run.below_append (HBr.out.alloc (by omega) _) (HO.out.alloc (.cells #[.int .i32 x] 21)) hgrow (by simp; omega))
          clear hown8 hgrow HO HBr hnx
          go_wp2
          go_roundw
          case rel => exact ⟨j + 1, by omega, by go_num, HO8, HB8⟩
          case measure => simp [intOf]; omega
        · by_cases h159 : 159 < x
          · have ht : typed1 x = [x] := by unfold typed1; rw [if_neg (by omega), if_pos (by omega)]
            rw [ht] at hnx
            clear ht
            go_wp2_with (at_builtin; refine run.wpList_append_any _ rfl _ _ 67 rfl B1 21 ir (.int .i32 0) 1 4 Tryz.underlying67 hir hr0 hr1 hr2 rfl (by decide) _ _ _ rfl (HO.out.alloc _) _ 1 [.int .i32 x] rfl (run.readsN_new wr [.int .i32 x] 1 1 _ rfl) (by intro u hu; simp only [List.mem_singleton] at hu; subst hu; rfl) (by unfold maxLen; omega) (by omega) (by simp; omega) ?_)
            intro v8 w8 hown8 hgrow _ _
            have HO8 : Hid (w8.ownsRow B1 21 1 v8 (typedT (X.take (j + 1))).length (utf.rv (typedT (X.take (j + 1))))) := by
              show World.ownsRow _ _ _ _ _ _ _
              rw [hnx, utf_rv_snoc, List.length_append]
              exact hown8
            have HB8 := run.hid (run.below_append (HBr.out.alloc (by omega) _) (HO.out.alloc (.cells #[.int .i32 x] 21)) hgrow (by simp; omega))
            clear hown8 hgrow HO HBr hnx
            go_wp2
            go_roundw
            case rel => exact ⟨j + 1, by omega, by go_num, HO8, HB8⟩
            case measure => simp [intOf]; omega
          · have ht : typed1 x = [] := by unfold typed1; rw [if_neg (by omega), if_neg (by omega)]
            rw [ht, List.append_nil] at hnx
            clear ht
            go_wp2
            go_roundw
            case rel => exact ⟨j + 1, by omega, by go_num, run.hid (by rw [hnx]; exact HO.out), HBr⟩
            case measure => simp [intOf]; omega
      · have ht : typed1 x = [] := by unfold typed1; rw [if_neg (by omega), if_neg (by omega)]
        rw [ht, List.append_nil] at hnx
        clear ht
        go_wp2
        go_roundw
        case rel => exact ⟨j + 1, by omega, by go_num, run.hid (by rw [hnx]; exact HO.out), HBr⟩
        case measure => simp [intOf]; omega
    · obtain rfl : j = N := by omega
      have hx : X.take j = X := List.take_of_length_le (by rw [← HN.out]; exact Nat.le_refl _)
      rw [hx] at HO
      have HBB := run.hid (HB1.out.trans (HBr.out.mono (by omega)))
      have HTT := run.hid (HTX.out _ wr (run.reads_own HO.out))
      clear HO HBr hx hlen
      go_wp2_with fail
      refine HTT.out.mono ?_
      rintro e w9 ⟨rfl, hb9⟩
      have HF := run.hid (HBB.out.trans (hb9.mono HBB.out.size))
      clear hb9
      go_wp2
      go_ret
      exact ⟨rfl, HF.out⟩
end Go.Proofs.YtbhhfagifdjmmaaGreat.ed
