/-
  The walks of the document's bar.
-/
import Derived.Test.YtghbpbaopcibkaaDoorCanBar
namespace Go.Proofs.YtghbpbaopcibkaaDoor.can
open Go.RowKit Go.Proofs
set_option linter.unusedVariables false

theorem run_shr (t : TypeId) (Z k : Nat) (hk : k < 64) : binOp .shr t (.int .i64 (Z : Int)) (.int .i64 (k : Int)) = pure (.int .i64 ((Z / 2 ^ k : Nat) : Int)) := by
  show Op.shift .shr .i64 (Z : Int) .i64 (k : Int) = _
  unfold Op.shift
  rw [if_neg (by omega), Int.toNat_natCast]
  have e : min k IntKind.i64.bits = k := by have : IntKind.i64.bits = 64 := rfl; omega
  simp only [e]
  congr 2
  rw [Int.fdiv_eq_ediv_of_nonneg _ (by exact_mod_cast Nat.zero_le (2 ^ k))]
  push_cast
  rfl

theorem half_step {Z k : Nat} : Z / 2 ^ k = 2 * (Z / 2 ^ (k + 1)) + Z / 2 ^ k % 2 := by
  have h : Z / 2 ^ (k + 1) = Z / 2 ^ k / 2 := by rw [Nat.pow_succ, Nat.div_div_eq_div_mul]
  rw [h]; omega

/-- so many whole d's, and a rest below d -/
def Eights (n d P q r : Nat) : Prop := q * d + r = n * P ∧ r < d
theorem eights_two {n d P q r : Nat} (h : Eights n d P q r) : (2 * r < d → Eights n d (2 * P) (2 * q) (2 * r)) ∧ (d ≤ 2 * r → Eights n d (2 * P) (2 * q + 1) (2 * r - d)) := by
  obtain ⟨h1, h2⟩ := h
  have e : n * (2 * P) = 2 * (n * P) := by rw [Nat.mul_left_comm]
  have e2 : 2 * q * d = 2 * (q * d) := by rw [Nat.mul_assoc]
  refine ⟨fun h => ⟨?_, h⟩, fun h => ⟨?_, by omega⟩⟩
  · rw [e, ← h1, e2]; omega
  · rw [e, ← h1, Nat.add_mul, Nat.one_mul, e2]; omega
theorem eights_one {n d P q r : Nat} (hn : n ≤ d) (h : Eights n d P q r) : (r + n < d → Eights n d (P + 1) q (r + n)) ∧ (d ≤ r + n → Eights n d (P + 1) (q + 1) (r + n - d)) := by
  obtain ⟨h1, h2⟩ := h
  have e : n * (P + 1) = n * P + n := by rw [Nat.mul_add, Nat.mul_one]
  refine ⟨fun h => ⟨?_, h⟩, fun h => ⟨?_, by omega⟩⟩
  · rw [e, ← h1]; omega
  · rw [e, ← h1, Nat.add_mul, Nat.one_mul]; omega
theorem eights_le {n d P q r : Nat} (hn : n ≤ d) (h : Eights n d P q r) : q ≤ P := by
  obtain ⟨h1, h2⟩ := h
  have h3 : q * d ≤ P * d := by
    have : n * P ≤ d * P := Nat.mul_le_mul_right _ hn
    rw [Nat.mul_comm P]; omega
  exact Nat.le_of_mul_le_mul_right h3 (by omega)
theorem eights_div {n d P q r : Nat} (h : Eights n d P q r) : q = n * P / d := by
  obtain ⟨h1, h2⟩ := h
  symm
  rw [Nat.div_eq_iff (by omega)]
  omega

theorem ret_int {k : IntKind} {a b : Int} (h : a = b) : Ending.returned (.int k a) = .returned (.int k b) := by rw [h]
set_option maxRecDepth 100000 in
set_option maxHeartbeats 4000000 in
theorem refEighths_any (n d W : Nat) (w : World) (hn : n ≤ d) (hd : 1 ≤ d) (hd2 : d ≤ 9223372036854775807) (hW : W ≤ 4096) :
    Calls Tryd.prog 44 #[.int .i64 n, .int .i64 d, .int .i64 W] w fun e w' => e = .returned (.int .i64 ((n * (8 * W) / d : Nat) : Int)) ∧ w = w' := by
  obtain ⟨Z, hZ⟩ : ∃ Z, Z = 8 * W := ⟨_, rfl⟩
  rw [← hZ]
  have hz : (8 : Int) * (W : Int) = (Z : Int) := by omega
  have hZb : Z ≤ 32768 := by omega
  clear hZ
  go_enter Tryd.func44, Tryd.ntmps44
  go_wp2
  go_loop [7, 8, 9] (fun a b c => ∃ q r k : Nat, k ≤ 21 ∧ a = .int .i64 q ∧ b = .int .u64 r ∧ c = .int .i64 ((k : Int) - 1) ∧ Hid (Eights n d (Z / 2 ^ k) q r)) (fun _ _ c => (intOf c + 1).toNat)
  case atStart => exact ⟨0, 0, 21, by omega, rfl, rfl, rfl, by
    have e : Z / 2 ^ 21 = 0 := Nat.div_eq_of_lt (by have : (2 : Nat) ^ 21 = 2097152 := rfl; omega)
    rw [e]; exact ⟨by simp, by omega⟩⟩
  case round =>
    obtain ⟨q, r, k, hk, rfl, rfl, rfl, HEr⟩ := hrel
    have hqle := eights_le hn HEr.out
    have hrd := HEr.out.2
    have hP : Z / 2 ^ k ≤ Z := Nat.div_le_self _ _
    have hqb : q ≤ 32768 := by omega
    cases k with
    | zero =>
      have hD := run.hid (eights_div HEr.out)
      rw [Nat.pow_zero, Nat.div_one] at hD
      clear hqle hP
      go_wp2
      go_ret
      exact ⟨ret_int (by have := congrArg (Nat.cast (R := Int)) hD.out; push_cast at this; exact this), rfl⟩
    | succ k =>
      have E1 := run_shr 3 Z k (by omega)
      have hstep := half_step (Z := Z) (k := k)
      have HT := run.hid (eights_two HEr.out)
      obtain ⟨p, hp⟩ : ∃ p, p = Z / 2 ^ k := ⟨_, rfl⟩
      obtain ⟨p2, hp2⟩ : ∃ p2, p2 = Z / 2 ^ (k + 1) := ⟨_, rfl⟩
      rw [← hp] at E1 hstep
      rw [← hp2] at hstep HT hqle hP HEr
      have hk1 : ((k + 1 : Nat) : Int) - 1 = k := by omega
      rw [hk1]
      have HPP := run.hid hp
      have hq2 : q ≤ 32768 := hqb
      have hbit : p % 2 = 0 ∨ p % 2 = 1 := by omega
      clear hp hp2 hk1 hqle hP hqb HEr
      -- twice, then once more
      have key : ∀ q' r' : Nat, Eights n d (2 * p2) q' r' → (p % 2 = 0 → Hid (Eights n d (Z / 2 ^ k) q' r')) ∧ (p % 2 = 1 → (r' + n < d → Hid (Eights n d (Z / 2 ^ k) q' (r' + n))) ∧ (d ≤ r' + n → Hid (Eights n d (Z / 2 ^ k) (q' + 1) (r' + n - d)))) := by
        intro q' r' h
        rw [← HPP.out]
        refine ⟨fun hb => ?_, fun hb => ?_⟩
        · rw [show p = 2 * p2 by omega]; exact h
        · have h1 := eights_one hn h
          rw [show p = 2 * p2 + 1 by omega]; exact h1
      have KEY := run.hid key
      clear key
      have HST := run.hid hstep
      clear hstep
      by_cases h2 : d ≤ 2 * r
      · have KK := run.hid (KEY.out _ _ (HT.out.2 h2))
        have hlow : 2 * r - d < d := by omega
        obtain ⟨r', hr'⟩ : ∃ r' : Nat, r' = 2 * r - d := ⟨_, rfl⟩
        have hr2 : (2 : Int) * (r : Int) - (d : Int) = r' := by omega
        rw [← hr'] at KK hlow
        clear KEY HT hr'
        rcases hbit with hb | hb
        · have KE := KK.out.1 hb
          have hb' : (p : Int) % 2 = 0 := by omega
          clear KK
          go_wp2
          go_round
          case rel => exact ⟨2 * q + 1, r', k, by omega, by go_num, rfl, by go_num, KE⟩
          case measure => simp [intOf]
        · have hb' : (p : Int) % 2 = 1 := by omega
          by_cases h3 : r' + n < d
          · have KE := (KK.out.2 hb).1 h3
            clear KK
            go_wp2
            go_round
            case rel => exact ⟨2 * q + 1, r' + n, k, by omega, by go_num, by go_num, by go_num, KE⟩
            case measure => simp [intOf]
          · have h3' : d ≤ r' + n := by omega
            have KE := (KK.out.2 hb).2 h3'
            clear KK
            go_wp2
            go_round
            case rel => exact ⟨2 * q + 1 + 1, r' + n - d, k, by omega, by go_num, by go_num, by go_num, KE⟩
            case measure => simp [intOf]
      · have h2' : 2 * r < d := by omega
        have KK := run.hid (KEY.out _ _ (HT.out.1 h2'))
        obtain ⟨r', hr'⟩ : ∃ r' : Nat, r' = 2 * r := ⟨_, rfl⟩
        have hr2 : (2 : Int) * (r : Int) = r' := by omega
        rw [← hr'] at KK h2' h2
        clear KEY HT hr'
        rcases hbit with hb | hb
        · have KE := KK.out.1 hb
          have hb' : (p : Int) % 2 = 0 := by omega
          clear KK
          go_wp2
          go_round
          case rel => exact ⟨2 * q, r', k, by omega, by go_num, rfl, by go_num, KE⟩
          case measure => simp [intOf]
        · have hb' : (p : Int) % 2 = 1 := by omega
          by_cases h3 : r' + n < d
          · have KE := (KK.out.2 hb).1 h3
            clear KK
            go_wp2
            go_round
            case rel => exact ⟨2 * q, r' + n, k, by omega, by go_num, by go_num, by go_num, KE⟩
            case measure => simp [intOf]
          · have h3' : d ≤ r' + n := by omega
            have KE := (KK.out.2 hb).2 h3'
            clear KK
            go_wp2
            go_round
            case rel => exact ⟨2 * q + 1, r' + n - d, k, by omega, by go_num, by go_num, by go_num, KE⟩
            case measure => simp [intOf]

theorem run_str_own {P : Program} {w : World} {B n : Nat} {t : TypeId} {v : Value} {zs : List Int} (src dst e : TypeId) (hs : P.underlying src = some (.slice e)) (he : P.underlying e = some (.int .i32)) (hd : P.underlying dst = some .string)
    (h : w.ownsRow B t 1 v n (zs.map (Value.int .i32))) : (convert src dst v).run P w = .ok (.string (strOf zs)) w := by
  have hl : zs.length = n := by have := h.1; simpa using this
  rcases h.2 with ⟨rfl, h0⟩ | ⟨g, cap, cur, rfl, -⟩
  · have : zs = [] := List.length_eq_zero_iff.1 (by omega)
    subst this
    exact run_convert_runes_nil (P := P) w src dst e 0 0 hs he hd
  · have hr := run_convert_runes (P := P) w src dst e ⟨g, 0, none⟩ n cap zs (by omega) hs he hd (fun j hj => by
      rw [run.add_none, Nat.zero_add, h.cellAt j (by omega)]
      simp [List.getD_eq_getElem?_getD, hj])
    rw [hr, List.take_of_length_le (by omega)]

theorem barC_ref {e : Int} (he : 0 ≤ e) (i : Nat) : barC e i = if (i : Int) < e / 8 then 0x2588 else if (i : Int) = e / 8 ∧ 0 < e % 8 then 0x2590 - e % 8 else 32 := by
  unfold barC
  by_cases h1 : (i : Int) < e / 8
  · rw [if_pos h1, if_pos (by omega)]
  · rw [if_neg h1, if_neg (by omega)]
    by_cases h2 : (i : Int) = e / 8 ∧ 0 < e % 8
    · rw [if_pos h2, if_pos (by omega)]; omega
    · rw [if_neg h2, if_neg (by omega)]

def barL (e : Int) (i : Nat) : List Int := (List.range i).map (barC e)
theorem barL_succ (e : Int) (i : Nat) : (barL e (i + 1)).map (Value.int .i32) = (barL e i).map (Value.int .i32) ++ [.int .i32 (barC e i)] := by
  unfold barL; rw [List.range_succ, List.map_append, List.map_append]; rfl
theorem barL_len (e : Int) (i : Nat) : (barL e i).length = i := by simp [barL]

set_option maxRecDepth 100000 in
set_option maxHeartbeats 4000000 in
theorem refBar_any (n d w0 : Int) (w : World) (hn : -9223372036854775808 ≤ n ∧ n ≤ 9223372036854775807) (hd : -9223372036854775808 ≤ d ∧ d ≤ 9223372036854775807) (hw : -9223372036854775808 ≤ w0 ∧ w0 ≤ 9223372036854775807) :
    Calls Tryd.prog 13 #[.int .i64 n, .int .i64 d, .int .i64 w0] w fun e w' => e = .returned (.string (barT n d w0)) ∧ Below w.heap.size w w' := by
  obtain ⟨i0, hi, hz0, hz1, hz2⟩ := info_parts info_i32
  obtain ⟨W, hW⟩ : ∃ W : Nat, min (max w0 0) 4096 = (W : Int) := ⟨(min (max w0 0) 4096).toNat, by omega⟩
  have hWb : W ≤ 4096 := by omega
  have HE := run.hid (show barT n d w0 = strOf (barL (eighthsT n d w0) W) by unfold barT wideT barL; rw [hW, Int.toNat_natCast])
  obtain ⟨eb1, eb2⟩ := eighths_bd n d w0
  obtain ⟨E, hE⟩ : ∃ E : Int, E = eighthsT n d w0 := ⟨_, rfl⟩
  rw [← hE] at eb1 eb2 HE
  have HEE := run.hid hE
  clear hE
  have HWW := run.hid hW
  go_enter Tryd.func13, Tryd.ntmps13
  go_upto_if 15 with fail
  clear hW
  go_cut [8] (fun c wx => c = .int .i64 E ∧ wx = w)
  case first =>
    by_cases hd1 : 1 ≤ d
    · obtain ⟨N, hN⟩ : ∃ N : Nat, min (max n 0) d = (N : Int) := ⟨(min (max n 0) d).toNat, by omega⟩
      obtain ⟨D, rfl⟩ : ∃ D : Nat, d = (D : Int) := ⟨d.toNat, by omega⟩
      have hND : N ≤ D := by omega
      have HEQ : Hid (E = ((N * (8 * W) / D : Nat) : Int)) := by
        show E = _
        rw [HEE.out]; unfold eighthsT wideT
        rw [if_pos hd1, HWW.out, hN]
        push_cast; rfl
      have HM := run.hid (refEighths_any N D W w hND (by omega) (by omega) hWb)
      rw [← HEQ.out] at HM
      clear HEQ
      go_wp2_with fail
      refine HM.out.mono ?_
      rintro e w' ⟨rfl, rfl⟩
      go_wp2
      go_meet
      case rel => exact ⟨rfl, rfl⟩
    · have hd2 : d < 1 := by omega
      have HEQ : Hid (E = 0) := by show E = 0; rw [HEE.out]; unfold eighthsT; rw [if_neg hd1]
      go_wp2
      go_meet
      case rel => exact ⟨by rw [HEQ.out], rfl⟩
  case rest =>
    obtain ⟨rfl, rfl⟩ := hcut
    go_wp2
    go_loopw [10, 9] (fun v l wr => ∃ i : Nat, i ≤ W ∧ v = .int .i64 i ∧ wr.ownsRow wc.heap.size 21 1 l i ((barL E i).map (Value.int .i32)) ∧ Below wc.heap.size wc wr) (fun v _ _ => W - (intOf v).toNat)
    case atStart => exact ⟨0, Nat.zero_le _, rfl, World.ownsRow_nil _ _ _ _, Below.refl _ _⟩
    case round =>
      obtain ⟨i, hi', rfl, hown, hbel⟩ := hrel
      have hsz := hbel.size
      have HS := run.hid (barL_succ E i)
      have HC := run.hid (barC_ref eb1 i)
      by_cases hlt : i < W
      · by_cases h1 : (i : Int) < E / 8
        · have hv : (9608 : Int) = barC E i := by rw [HC.out, if_pos h1]
          have HV := run.hid hv
          clear hv
          go_wp2_with (at_builtin; go_must (refine wpList_append_own _ rfl _ _ 79 rfl wc.heap.size 21 i0 (.int .i32 0) 1 4 Tryd.underlying79 hi hz0 hz1 hz2 rfl (by decide) _ _ _ rfl (hown.alloc _) ⟨wr.heap.size, 0, none⟩ 1 1 [.int .i32 9608] rfl rfl (run.news_one _ _ _) (by intro u hu; simp at hu; subst hu; rfl) (by unfold maxLen; omega) (by omega) (by simp; omega) ?_))
          intro v' w2 hown2 hgrow _
          have hbel2 := run.below_append (hbel.alloc hsz _) (hown.alloc _) hgrow (by simp; omega)
          rw [HV.out, ← HS.out] at hown2
          have HO := run.hid hown2
          clear hown hown2 hbel hgrow h1
          go_wp2
          go_roundw
          case rel => exact ⟨i + 1, by omega, by go_num, HO, hbel2⟩
          case measure => simp [intOf]; omega
        have h1' : E / 8 ≤ i := by omega
        by_cases h2 : (i : Int) = E / 8 ∧ 0 < E % 8
        · obtain ⟨h3, h4⟩ := h2
          have hv : (9616 : Int) - E % 8 = barC E i := by rw [HC.out, if_neg h1, if_pos ⟨h3, h4⟩]
          have HV := run.hid hv
          have hq : ((i : Int) == E / 8) = true := by simpa using h3
          have H3 := run.hid h3
          clear hv h3 h1
          go_wp2_with (at_builtin; go_must (refine wpList_append_own _ rfl _ _ 79 rfl wc.heap.size 21 i0 (.int .i32 0) 1 4 Tryd.underlying79 hi hz0 hz1 hz2 rfl (by decide) _ _ _ rfl (hown.alloc _) ⟨wr.heap.size, 0, none⟩ 1 1 [.int .i32 (9616 - E % 8)] rfl rfl (run.news_one _ _ _) (by intro u hu; simp at hu; subst hu; rfl) (by unfold maxLen; omega) (by omega) (by simp; omega) ?_))
          intro v' w2 hown2 hgrow _
          have hbel2 := run.below_append (hbel.alloc hsz _) (hown.alloc _) hgrow (by simp; omega)
          rw [HV.out, ← HS.out] at hown2
          have HO := run.hid hown2
          clear hown hown2 hbel hgrow
          go_wp2
          go_roundw
          case rel => exact ⟨i + 1, by omega, by go_num, HO, hbel2⟩
          case measure => simp [intOf]; omega
        · have hv : (32 : Int) = barC E i := by rw [HC.out, if_neg h1, if_neg h2]
          have HV := run.hid hv
          have H2 := run.hid h2
          clear hv h2 h1
          by_cases h3 : (i : Int) = E / 8
          · have h4 : E % 8 ≤ 0 := by have := H2.out; omega
            have hq : ((i : Int) == E / 8) = true := by simpa using h3
            have H3 := run.hid h3
            clear h3
            go_wp2_with (at_builtin; go_must (refine wpList_append_own _ rfl _ _ 79 rfl wc.heap.size 21 i0 (.int .i32 0) 1 4 Tryd.underlying79 hi hz0 hz1 hz2 rfl (by decide) _ _ _ rfl (hown.alloc _) ⟨wr.heap.size, 0, none⟩ 1 1 [.int .i32 32] rfl rfl (run.news_one _ _ _) (by intro u hu; simp at hu; subst hu; rfl) (by unfold maxLen; omega) (by omega) (by simp; omega) ?_))
            intro v' w2 hown2 hgrow _
            have hbel2 := run.below_append (hbel.alloc hsz _) (hown.alloc _) hgrow (by simp; omega)
            rw [HV.out, ← HS.out] at hown2
            have HO := run.hid hown2
            clear hown hown2 hbel hgrow
            go_wp2
            go_roundw
            case rel => exact ⟨i + 1, by omega, by go_num, HO, hbel2⟩
            case measure => simp [intOf]; omega
          · have hq : ((i : Int) == E / 8) = false := by simpa using h3
            clear h3
            go_wp2_with (at_builtin; go_must (refine wpList_append_own _ rfl _ _ 79 rfl wc.heap.size 21 i0 (.int .i32 0) 1 4 Tryd.underlying79 hi hz0 hz1 hz2 rfl (by decide) _ _ _ rfl (hown.alloc _) ⟨wr.heap.size, 0, none⟩ 1 1 [.int .i32 32] rfl rfl (run.news_one _ _ _) (by intro u hu; simp at hu; subst hu; rfl) (by unfold maxLen; omega) (by omega) (by simp; omega) ?_))
            intro v' w2 hown2 hgrow _
            have hbel2 := run.below_append (hbel.alloc hsz _) (hown.alloc _) hgrow (by simp; omega)
            rw [HV.out, ← HS.out] at hown2
            have HO := run.hid hown2
            clear hown hown2 hbel hgrow
            go_wp2
            go_roundw
            case rel => exact ⟨i + 1, by omega, by go_num, HO, hbel2⟩
            case measure => simp [intOf]; omega
      · obtain rfl : i = W := by omega
        have hs := run_str_own (P := Tryd.prog) 79 9 21 Tryd.underlying79 Tryd.underlying21 Tryd.underlying9 hown
        clear hown HS HC
        go_wp2
        go_ret
        exact ⟨by rw [HE.out]; rfl, hbel⟩

end Go.Proofs.YtghbpbaopcibkaaDoor.can
