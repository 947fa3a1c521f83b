/-
  The walks of the document's clusters: Sum, Join, Fits, Cut, Width.
-/
import Derived.Test.YtinedhocmlcfpaaCluRef3
import Derived.Test.YtinedhocmlcfpaaCluLawBorders
import Derived.Test.YtinedhocmlcfpaaInts
namespace Go.Proofs.Ytinedhocmlcfpaa.clu
open Go.RowKit Go.Proofs
open Go.Proofs.Ytinedhocmlcfpaa.wid Go.Proofs.Ytinedhocmlcfpaa.utf
set_option linter.unusedVariables false

theorem sum2_append (a b : List TV) : sum2 (a ++ b) = sum2 a + sum2 b := by simp [sum2]
theorem sum2_take {l : List TV} {i : Nat} (h : i < l.length) : sum2 (l.take (i + 1)) = sum2 (l.take i) + (l.getD i t0).2 := by
  rw [List.take_succ_eq_append_getElem h, sum2_append]
  simp [sum2, List.getD_eq_getElem?_getD, h]
theorem sum2_take_le (l : List TV) (i : Nat) : sum2 (l.take i) ≤ sum2 l := by
  have h : sum2 l = sum2 (l.take i) + sum2 (l.drop i) := by rw [← sum2_append, List.take_append_drop]
  omega

set_option maxRecDepth 100000 in
set_option maxHeartbeats 1000000 in
theorem refSum_any (v : Value) (X : List TV) (w : World) (hv : Reads2 w v X) (hX : X.length ≤ 1099511627776) (hS : sum2 X ≤ 4611686018427387904) : Calls Try.prog 48 #[v] w fun e w' => e = .returned (.int .i64 (sum2 X : Nat)) ∧ w' = w := by
  have R1 := run.hid hv
  obtain ⟨a1, k1, rfl, -⟩ := hv
  have HT := run.hid (fun i => @sum2_take X i)
  have HL := run.hid (fun i => sum2_take_le X i)
  go_enter Try.func48, Try.ntmps48
  go_wp2
  go_loop [3, 4] (fun vs vi => ∃ i : Nat, i ≤ X.length ∧ vi = .int .i64 i ∧ vs = .int .i64 (sum2 (X.take i) : Nat)) (fun _ vi => ((X.length : Int) - intOf vi).toNat)
  case atStart => exact ⟨0, by omega, rfl, rfl⟩
  case round =>
    obtain ⟨i, hi, rfl, rfl⟩ := hrel
    by_cases hlt : i < X.length
    · obtain ⟨a', cap', e1, hrow⟩ := R1.out
      simp only [Value.slice.injEq] at e1
      obtain ⟨rfl, -, rfl⟩ := e1
      obtain ⟨b1, o1, rfl, hlb1, hx0, hx1⟩ := hrow i hlt
      clear hrow
      have HTi := run.hid (HT.out i hlt)
      have hle := HL.out (i + 1)
      rw [HTi.out] at hle
      unfold t0 at HTi hle
      generalize X.getD i (ByteArray.empty, 0) = q at *
      obtain ⟨qs, qw⟩ := q
      dsimp only at hx0 hx1 HTi hle
      generalize sum2 (X.take i) = sm at *
      go_wp2
      go_round
      case rel => exact ⟨i + 1, by omega, by go_num, by rw [HTi.out]; go_num⟩
      case measure => simp [intOf]; omega
    · obtain rfl : i = X.length := by omega
      rw [List.take_of_length_le (Nat.le_refl _)]
      go_wp2
      go_ret
      exact ⟨rfl, rfl⟩

set_option maxRecDepth 100000 in
set_option maxHeartbeats 2000000 in
theorem refJoin_any (v : Value) (X : List TV) (w : World) (hv : Reads2 w v X) (hX : X.length ≤ 1099511627776) (hS : (catN X).length ≤ 35184372088832) : Calls Try.prog 47 #[v] w fun e w' => e = .returned (.string (str (catN X))) ∧ Below w.heap.size w w' := by
  obtain ⟨i0, hi, hz0, hz1, hz2⟩ := info_parts info_byte
  have R1 := run.hid hv
  obtain ⟨a1, k1, rfl, -⟩ := hv
  have HT := run.hid (fun i => @catN_take X i)
  have HL := run.hid (fun i => catN_take_le X i)
  go_enter Try.func47, Try.ntmps47
  go_wp2
  go_loopw [3, 4] (fun vb vi wr => ∃ i : Nat, i ≤ X.length ∧ vi = .int .i64 i ∧ wr.ownsRow w.heap.size 5 1 vb (catN (X.take i)).length (bv (catN (X.take i))) ∧ Below w.heap.size w wr) (fun _ vi _ => ((X.length : Int) - intOf vi).toNat)
  case atStart => exact ⟨0, by omega, rfl, World.ownsRow_nil _ _ _ _, Below.refl _ _⟩
  case round =>
    obtain ⟨i, hi', rfl, hown, hbel⟩ := hrel
    have hbd := HL.out i
    by_cases hlt : i < X.length
    · obtain ⟨a', cap', e1, hrow⟩ := R1.out
      simp only [Value.slice.injEq] at e1
      obtain ⟨rfl, -, rfl⟩ := e1
      obtain ⟨b1, o1, rfl, hlb1, hx0, hx1⟩ := hrow i hlt
      replace hx0 := (hbel.cell (p := ⟨b1, o1 + i * 2, none⟩) hlb1).trans hx0
      clear hrow hx1
      have HTi := run.hid (HT.out i hlt)
      have hle := HL.out (i + 1)
      rw [HTi.out, List.length_append] at hle
      unfold t0 at HTi hle
      generalize X.getD i (ByteArray.empty, 0) = q at *
      obtain ⟨qs, qw⟩ := q
      dsimp only at hx0 HTi hle
      have HBV := run.hid (bv_bs qs)
      have HBL := run.hid (bs_len qs)
      rw [bs_len] at hle
      have hsz1 := hbel.size
      generalize catN (X.take i) = tk at *
      go_wp2_with (at_builtin; refine Lib.wpList_append_own_string _ rfl _ _ 41 9 rfl w.heap.size 5 i0 Try.underlying41 Try.underlying9 hi hz0 hz1 hz2 _ _ _ rfl hown _ rfl (by unfold maxLen; omega) (by omega) hsz1 ?_)
      intro v' w3 hown3 hgrow hnil
      have hbel3 := run.below_append hbel hown hgrow hsz1
      rw [HBV.out, bv_append, ← HBL.out, ← List.length_append, ← HTi.out] at hown3
      clear hown hgrow hnil hbel hx0
      go_wp2
      go_roundw
      case rel => exact ⟨i + 1, by omega, by go_num, hown3, hbel3⟩
      case measure => simp [intOf]; omega
    · obtain rfl : i = X.length := by omega
      rw [List.take_of_length_le (Nat.le_refl _)] at hown
      have hconv := conv_own hown
      clear hown hbd
      go_wp2
      go_ret
      exact ⟨rfl, hbel⟩

/-- how many of the first ones fit -/
def fit2 : List TV → Nat → Nat
  | [], _ => 0
  | q :: t, left => if q.2 ≤ left then fit2 t (left - q.2) + 1 else 0
theorem fit2_cons (q : TV) (t : List TV) (left : Nat) : fit2 (q :: t) left = if q.2 ≤ left then fit2 t (left - q.2) + 1 else 0 := rfl
theorem fit2_seen : ∀ (l : List (List Int)) (left : Nat), fit2 (seen l) left = fitN l left
  | [], _ => rfl
  | p :: t, left => by
    have e : seen (p :: t) = (str (text p), wide p) :: seen t := rfl
    rw [e, fit2_cons, fit_cons, fit2_seen t]
theorem fit2_at {X : List TV} {i left : Nat} (h : i < X.length) : fit2 (X.drop i) left = if (X.getD i t0).2 ≤ left then fit2 (X.drop (i + 1)) (left - (X.getD i t0).2) + 1 else 0 := by
  rw [List.drop_eq_getElem_cons h, fit2_cons]
  simp [List.getD_eq_getElem?_getD, h]
theorem fit2_end (X : List TV) (left : Nat) : fit2 (X.drop X.length) left = 0 := by rw [List.drop_length]; rfl

set_option maxRecDepth 100000 in
set_option maxHeartbeats 2000000 in
theorem refFits_any (v : Value) (X : List TV) (n : Int) (w : World) (hv : Reads2 w v X) (hX : X.length ≤ 1099511627776) (hn : n ≤ 9223372036854775807) : Calls Try.prog 46 #[v, .int .i64 n] w fun e w' => e = .returned (.int .i64 (fit2 X (max 0 n).toNat : Nat)) ∧ w' = w := by
  have R1 := run.hid hv
  obtain ⟨a1, k1, rfl, -⟩ := hv
  have HT := run.hid (fun i left => @fit2_at X i left)
  have HE := run.hid (fun left => fit2_end X left)
  obtain ⟨left, hleft⟩ : ∃ left : Nat, (max 0 n).toNat = left := ⟨_, rfl⟩
  rw [hleft]
  have hlb : (left : Int) = max 0 n := by omega
  have HLB := run.hid hlb
  clear hleft hlb
  go_enter Try.func46, Try.ntmps46
  go_upto_if 9 with fail
  go_cut [5] (fun c wx => c = .int .i64 left ∧ wx = w)
  case first =>
    by_cases h0 : n < 0
    · go_wp2
      go_meet
      exact ⟨congrArg (Value.int .i64) (by have := HLB.out; omega), rfl⟩
    · go_wp2
      go_meet
      exact ⟨congrArg (Value.int .i64) (by have := HLB.out; omega), rfl⟩
  obtain ⟨rfl, rfl⟩ := hcut
  have HNN := run.hid hn
  clear hn
  go_wp2
  go_loop [5, 6] (fun vl vi => ∃ i lf : Nat, i ≤ X.length ∧ lf ≤ left ∧ vi = .int .i64 i ∧ vl = .int .i64 lf ∧ Hid (fit2 X left = i + fit2 (X.drop i) lf)) (fun _ vi => ((X.length : Int) - intOf vi).toNat)
  case atStart => exact ⟨0, left, by omega, Nat.le_refl _, rfl, rfl, run.hid (by simp)⟩
  case round =>
    obtain ⟨i, lf, hi, hlf, rfl, rfl, HF⟩ := hrel
    by_cases hlt : i < X.length
    · obtain ⟨a', cap', e1, hrow⟩ := R1.out
      simp only [Value.slice.injEq] at e1
      obtain ⟨rfl, -, rfl⟩ := e1
      obtain ⟨b1, o1, rfl, hlb1, hx0, hx1⟩ := hrow i hlt
      clear hrow
      have HTi := run.hid (HT.out i lf hlt)
      unfold t0 at HTi
      generalize X.getD i (ByteArray.empty, 0) = q at *
      obtain ⟨qs, qw⟩ := q
      dsimp only at hx0 hx1 HTi
      have hll : (left : Int) ≤ 9223372036854775807 := by have h1 := HLB.out; have h2 := HNN.out; omega
      have HLL := run.hid hll
      clear hll
      by_cases hfit : qw ≤ lf
      · have H2 : Hid (fit2 X left = (i + 1) + fit2 (X.drop (i + 1)) (lf - qw)) := run.hid (by rw [HF.out, HTi.out, if_pos hfit]; omega)
        have hdiff : ((lf : Int) - (qw : Int)) = ((lf - qw : Nat) : Int) := by omega
        obtain ⟨df, hdf⟩ : ∃ df, df = lf - qw := ⟨_, rfl⟩
        rw [← hdf] at hdiff H2
        obtain ⟨lf', hlf'⟩ : ∃ z : Int, z = (lf : Int) := ⟨_, rfl⟩
        have hw64 : wrap64 ((lf : Int) - (qw : Int)) = (df : Int) := by
          rw [hdiff]
          exact ints.wrap64_in ⟨by omega, by have := HLL.out; omega⟩
        have HW := run.hid hw64
        clear hw64 HF HTi hlf'
        have hdle : df ≤ left := by omega
        clear hdf hdiff
        go_wp2
        go_round
        case rel => exact ⟨i + 1, df, by omega, hdle, by go_num, congrArg (Value.int .i64) HW.out, H2⟩
        case measure => simp [intOf]; omega
      · have H2 : Hid (fit2 X left = i) := run.hid (by rw [HF.out, HTi.out, if_neg hfit]; omega)
        clear HF HTi
        go_wp2
        go_ret
        exact ⟨by rw [H2.out]; rfl, rfl⟩
    · obtain rfl : i = X.length := by omega
      have H2 : Hid (fit2 X left = X.length) := run.hid (by rw [HF.out, HE.out]; omega)
      clear HF
      go_wp2
      go_ret
      exact ⟨by rw [H2.out]; rfl, rfl⟩

theorem told_sum (s : ByteArray) : sum2 (told s) = width s := by rw [told_width]; rfl
theorem cutK_fit (s : ByteArray) (n : Int) : fit2 (told s) (max 0 n).toNat = cutK s n := by unfold told; rw [fit2_seen]; rfl
theorem cut_catA (s : ByteArray) (n : Int) : str (catN ((told s).take (cutK s n))) = cutA s n := by
  unfold cutA
  have e : (told s).take (cutK s n) = seen ((cl (runes (bs s))).take (cutK s n)) := by unfold told seen; rw [List.map_take]
  rw [e, catN_seen]
theorem cut_catB (s : ByteArray) (n : Int) : str (catN ((told s).drop (cutK s n))) = cutB s n := by
  unfold cutB
  have e : (told s).drop (cutK s n) = seen ((cl (runes (bs s))).drop (cutK s n)) := by unfold told seen; rw [List.map_drop]
  rw [e, catN_seen]
theorem reads2_take {w : World} {a : Option Addr} {n c : Nat} {X : List TV} (h : Reads2 w (.slice a X.length c) X) (hn : n ≤ X.length) (c' : Nat) : Reads2 w (.slice a n c') (X.take n) := by
  obtain ⟨a', cap, e, h⟩ := h
  simp only [Value.slice.injEq] at e
  obtain ⟨rfl, -, rfl⟩ := e
  have hl : (X.take n).length = n := by rw [List.length_take]; omega
  refine ⟨a, c', by rw [hl], fun i hi => ?_⟩
  rw [hl] at hi
  obtain ⟨b, off, e, hlt, hx0, hx1⟩ := h i (by omega)
  have e2 : (X.take n).getD i (ByteArray.empty, 0) = X.getD i (ByteArray.empty, 0) := by simp [List.getD_eq_getElem?_getD, hi]
  rw [e2]
  exact ⟨b, off, e, hlt, hx0, hx1⟩
theorem reads2_drop {w : World} {b k1 n c : Nat} {X : List TV} (h : Reads2 w (.slice (some ⟨b, 0, none⟩) X.length k1) X) (hn : n ≤ X.length) : Reads2 w (.slice (some ⟨b, n * 2, none⟩) (X.length - n) c) (X.drop n) := by
  obtain ⟨a', cap, e, h⟩ := h
  simp only [Value.slice.injEq] at e
  obtain ⟨rfl, -, rfl⟩ := e
  refine ⟨_, c, by rw [List.length_drop], fun i hi => ?_⟩
  rw [List.length_drop] at hi
  obtain ⟨b', off, e, hlt, hx0, hx1⟩ := h (n + i) (by omega)
  simp only [Option.some.injEq, Addr.mk.injEq] at e
  obtain ⟨rfl, rfl, -⟩ := e
  have e2 : (X.drop n).getD i (ByteArray.empty, 0) = X.getD (n + i) (ByteArray.empty, 0) := by simp [List.getD_eq_getElem?_getD, List.getElem?_drop]
  rw [e2]
  refine ⟨b, n * 2, rfl, hlt, ?_, ?_⟩
  · rw [show n * 2 + i * 2 = 0 + (n + i) * 2 by omega]; exact hx0
  · rw [show n * 2 + i * 2 + 1 = 0 + (n + i) * 2 + 1 by omega]; exact hx1

set_option maxHeartbeats 1000000 in
theorem refWidth_any (s : ByteArray) (w : World) (hs : s.size ≤ 1099511627776) : Calls Try.prog 36 #[.string s] w fun e w' => e = .returned (.int .i64 (width s)) ∧ Below w.heap.size w w' := by
  have hl := told_length s
  have hwd := width_le s
  have HS := run.hid (fun w => refSplit_use s w hs)
  have HU := run.hid (fun v w hv => refSum_any v (told s) w hv (by omega) (by rw [told_sum]; omega))
  rw [told_sum] at HU
  generalize told s = X at *
  generalize width s = n at *
  go_enter Try.func36, Try.ntmps36
  go_wp2_with fail
  refine (HS.out _).mono ?_
  rintro e w1 ⟨v, rfl, -, hr, hb1⟩
  have HV := run.hid (HU.out v w1 hr)
  clear hr
  go_wp2_with fail
  refine HV.out.mono ?_
  rintro e w2 ⟨rfl, rfl⟩
  go_wp2
  go_ret
  exact ⟨rfl, hb1⟩

set_option maxRecDepth 100000 in
set_option maxHeartbeats 2000000 in
theorem refCut_any (s : ByteArray) (n : Int) (w : World) (hs : s.size ≤ 1048576) (hn : n ≤ 9223372036854775807) : Calls Try.prog 34 #[.string s, .int .i64 n] w fun e w' => e = .returned (.tuple #[.string (cutA s n), .string (cutB s n)]) ∧ Below w.heap.size w w' := by
  have hl := told_length s
  have hcl : (catN (told s)).length ≤ 4 * s.size := by
    rw [catN_told]
    have h1 := (text_length (runes (bs s))).2
    have h2 := runes_len s
    unfold clean
    omega
  have hkl : cutK s n ≤ (told s).length := by
    have := fit_le (cl (runes (bs s))) (max 0 n).toNat
    have e : (told s).length = (cl (runes (bs s))).length := by unfold told; rw [seen_length]
    rw [e]; exact this
  have hsplit : catN (told s) = catN ((told s).take (cutK s n)) ++ catN ((told s).drop (cutK s n)) := by unfold catN; rw [← List.flatMap_append, List.take_append_drop]
  have hca := congrArg List.length hsplit
  rw [List.length_append] at hca
  have HS := run.hid (fun w => refSplit_use s w (by omega))
  have HF := run.hid (fun v w hv => refFits_any v (told s) n w hv (by omega) hn)
  rw [cutK_fit] at HF
  have HJA := run.hid (fun v w hv => refJoin_any v ((told s).take (cutK s n)) w hv (by rw [List.length_take]; omega) (by omega))
  have HJB := run.hid (fun v w hv => refJoin_any v ((told s).drop (cutK s n)) w hv (by rw [List.length_drop]; omega) (by omega))
  rw [cut_catA] at HJA
  rw [cut_catB] at HJB
  clear hn hcl hsplit hca
  generalize cutA s n = A at *
  generalize cutB s n = B at *
  generalize cutK s n = k at *
  generalize told s = X at *
  go_enter Try.func34, Try.ntmps34
  go_wp2_with fail
  refine (HS.out _).mono ?_
  rintro e w1 ⟨v, rfl, ho, hr, hb1⟩
  have HV := run.hid (HF.out v w1 hr)
  rcases own_cap ho with ⟨rfl, hN⟩ | ⟨g, cap, rfl, hcap⟩
  · have hX : X = [] := List.eq_nil_of_length_eq_zero hN
    subst hX
    obtain rfl : k = 0 := by simpa using hkl
    have hnil : Reads2 w1 (.slice none 0 0) [] := hr
    have H1 := run.hid (HJA.out (.slice none 0 0) w1 hnil)
    have H2 := run.hid (fun w2 hb2 => HJB.out (.slice none 0 0) w2 (hnil.below hb2))
    clear hr hnil ho hN
    go_wp2_with fail
    refine HV.out.mono ?_
    rintro e w2 ⟨rfl, rfl⟩
    go_wp2_with fail
    refine H1.out.mono ?_
    rintro e w3 ⟨rfl, hb3⟩
    go_wp2_with fail
    refine (H2.out _ hb3).mono ?_
    rintro e w4 ⟨rfl, hb4⟩
    have hB := hb1.trans ((hb3.trans (hb4.mono hb3.size)).mono hb1.size)
    go_wp2
    go_ret2
    exact ⟨rfl, hB⟩
  · have H1 := run.hid (HJA.out _ w1 (reads2_take hr hkl cap))
    by_cases hk : cap = k
    · subst hk
      have hXc : X.length = cap := by omega
      have hdr : X.drop cap = [] := List.drop_eq_nil_of_le (by omega)
      rw [hdr] at HJB
      have hnil : ∀ w2, Reads2 w2 (.slice (some ⟨g, 0, none⟩) 0 0) [] := fun w2 => ⟨_, _, rfl, fun i hi => absurd hi (Nat.not_lt_zero _)⟩
      have H2 := run.hid (fun w2 => HJB.out (.slice (some ⟨g, 0, none⟩) 0 0) w2 (hnil w2))
      clear hr hnil ho hdr HJA HJB HF HS hl hkl hcap
      generalize X.length = N at *
      subst hXc
      go_wp2_with fail
      refine HV.out.mono ?_
      rintro e w2 ⟨rfl, rfl⟩
      go_wp2_with fail
      refine H1.out.mono ?_
      rintro e w3 ⟨rfl, hb3⟩
      go_wp2_with fail
      refine (H2.out _).mono ?_
      rintro e w4 ⟨rfl, hb4⟩
      have hB := hb1.trans ((hb3.trans (hb4.mono hb3.size)).mono hb1.size)
      go_wp2
      go_ret2
      exact ⟨rfl, hB⟩
    · have hk' : ¬ k = cap := fun e => hk e.symm
      have H2 := run.hid (fun w2 hb2 => HJB.out _ w2 ((reads2_drop (c := cap - k) hr hkl).below hb2))
      clear hr ho HJA HJB HF HS
      generalize X.length = N at *
      go_wp2_with fail
      refine HV.out.mono ?_
      rintro e w2 ⟨rfl, rfl⟩
      go_wp2_with fail
      refine H1.out.mono ?_
      rintro e w3 ⟨rfl, hb3⟩
      go_wp2_with fail
      refine (H2.out _ hb3).mono ?_
      rintro e w4 ⟨rfl, hb4⟩
      have hB := hb1.trans ((hb3.trans (hb4.mono hb3.size)).mono hb1.size)
      go_wp2
      go_ret2
      exact ⟨rfl, hB⟩

end Go.Proofs.Ytinedhocmlcfpaa.clu
