/-
  The law ClusterBorders: what stands between two borders is the same clusters by itself.
-/
import Derived.Test.YtinedhocmlcfpaaCluLawWhole
import Derived.Deep.RegionWith
namespace Go.Proofs.Ytinedhocmlcfpaa.clu
open Go.RowKit Go.Proofs
open Go.Proofs.Ytinedhocmlcfpaa.wid Go.Proofs.Ytinedhocmlcfpaa.utf
set_option linter.unusedVariables false

theorem tmod_lt (k : Int) (n : Nat) (hn : 0 < n) : -(n : Int) < k.tmod n ∧ k.tmod n < n := by
  have h2 := Int.tmod_lt_of_pos k (b := (n : Int)) (by omega)
  have h3 := Int.tmod_lt_of_pos (-k) (b := (n : Int)) (by omega)
  rw [Int.neg_tmod] at h3
  omega
def RoundIs (n : Nat) (w : World) (e : Ending) (w' : World) : Prop := ∃ r : Nat, r < n ∧ e = .returned (.int .i64 r) ∧ w' = w
set_option maxHeartbeats 1000000 in
theorem round_any (k : Int) (n : Nat) (w : World) (hn : 0 < n) (hn2 : n < 4611686018427387904) : Calls Try.prog 26 #[.int .i64 k, .int .i64 n] w (RoundIs n w) := by
  obtain ⟨h1, h2⟩ := tmod_lt k n hn
  have hn0 : ((n : Int) == 0) = false := by simp; omega
  go_enter Try.func26, Try.ntmps26
  go_wp2_with fail
  · rename_i hlt
    go_ret
    exact ⟨(k.tmod n + n).toNat, by omega, congrArg (fun x => Ending.returned (Value.int .i64 x)) (by omega), rfl⟩
  · rename_i hge
    go_ret
    exact ⟨(k.tmod n).toNat, by omega, congrArg (fun x => Ending.returned (Value.int .i64 x)) (by omega), rfl⟩

theorem told_mid (s : ByteArray) (a m : Nat) : told (str (catN (((told s).drop a).take m))) = ((told s).drop a).take m := by
  have e : ((told s).drop a).take m = seen ((((cl (runes (bs s))).drop a).take m)) := by unfold told seen; rw [List.map_take, List.map_drop]
  rw [e, catN_seen]
  exact told_parts (fun p hp => List.mem_of_mem_drop (List.mem_of_mem_take hp)) (cl_between _ _ _)
theorem catN_mid {X : List TV} {a i : Nat} (ha : a ≤ i) (h : i < X.length) : catN ((X.drop a).take (i + 1 - a)) = catN ((X.drop a).take (i - a)) ++ bs (X.getD i t0).1 := by
  obtain ⟨m, rfl⟩ : ∃ m, i = a + m := ⟨i - a, by omega⟩
  rw [show a + m + 1 - a = m + 1 by omega, show a + m - a = m by omega, catN_take (by rw [List.length_drop]; omega)]
  congr 3
  simp [List.getD_eq_getElem?_getD, List.getElem?_drop]
theorem one_at {s : ByteArray} {i : Nat} (h : i < (told s).length) : oneOk ((told s).getD i t0).1 ∧ wide (runes (bs ((told s).getD i t0).1)) = ((told s).getD i t0).2 ∧ ((told s).getD i t0).1.size ≤ 64 := by
  obtain ⟨p, hp, e⟩ := told_at h
  rw [e]
  unfold oneOk
  rw [piece_runes hp, cl_one hp]
  have := (told_facts h).2.2.2
  rw [e] at this
  exact ⟨⟨rfl, rfl⟩, rfl, this⟩

theorem own_cap {w : World} {base e size n : Nat} {v : Value} {xs : List Value} (h : w.ownsRow base e size v n xs) : (v = .slice none 0 0 ∧ n = 0) ∨ ∃ g cap, v = .slice (some ⟨g, 0, none⟩) n cap ∧ n ≤ cap := by
  obtain ⟨-, h⟩ := h
  rcases h with ⟨rfl, h0⟩ | ⟨g, cap, cur, rfl, -, -, h1, -⟩
  · exact .inl ⟨rfl, h0⟩
  · exact .inr ⟨g, cap, rfl, h1⟩
theorem readsI_nil (w : World) (a : Option Addr) (c : Nat) {l : List CV} (h : l = []) : ReadsI w (.slice a 0 c) l := by
  subst h
  exact ⟨a, c, rfl, fun i hi => absurd hi (Nat.not_lt_zero _)⟩
theorem readsI_cut {w : World} {g k1 lo hi c : Nat} {X : List TV} (h : Reads2 w (.slice (some ⟨g, 0, none⟩) X.length k1) X) (h1 : lo ≤ hi) (h2 : hi ≤ X.length) :
    ReadsI w (.slice (some ⟨g, lo * 2, none⟩) (hi - lo) c) (upI ((X.drop lo).take (hi - lo))) := by
  obtain ⟨a, cap, e, h⟩ := h
  simp only [Value.slice.injEq] at e
  obtain ⟨rfl, -, rfl⟩ := e
  have hlen : (upI ((X.drop lo).take (hi - lo))).length = hi - lo := by rw [upI_length, List.length_take, List.length_drop]; omega
  refine ⟨_, c, by rw [hlen], fun i hi' => ?_⟩
  rw [hlen] at hi'
  obtain ⟨b, off, e, hlt, hx0, hx1⟩ := h (lo + i) (by omega)
  simp only [Option.some.injEq, Addr.mk.injEq] at e
  obtain ⟨rfl, rfl, -⟩ := e
  have e2 : (upI ((X.drop lo).take (hi - lo))).getD i c0 = ((X.getD (lo + i) t0).1, ((X.getD (lo + i) t0).2 : Int)) := by
    simp [upI, List.getD_eq_getElem?_getD, hi', List.getElem?_drop, show lo + i < X.length by omega]
  rw [e2]
  refine ⟨g, lo * 2, rfl, hlt, ?_, ?_⟩
  · rw [show lo * 2 + i * 2 = 0 + (lo + i) * 2 by omega]; exact hx0
  · rw [show lo * 2 + i * 2 + 1 = 0 + (lo + i) * 2 + 1 by omega]; exact hx1
theorem catN_all_le (X : List TV) (a m : Nat) : (catN ((X.drop a).take m)).length ≤ (catN X).length := by
  have h : catN X = catN (X.take a) ++ catN (X.drop a) := by unfold catN; rw [← List.flatMap_append, List.take_append_drop]
  have := catN_take_le (X.drop a) m
  rw [h, List.length_append]; omega

set_option maxRecDepth 100000 in
set_option maxHeartbeats 4000000 in
theorem lawBorders_any (s : ByteArray) (f t : Int) (w : World) (hs : s.size ≤ 1048576) : Calls Try.prog 6 #[.string s, .int .i64 f, .int .i64 t] w fun e w' => e = .returned (.bool true) ∧ Below w.heap.size w w' := by
  obtain ⟨i0, hi, hz0, hz1, hz2⟩ := info_parts info_byte
  have hl := runes_len s
  have hcl : (clean (bs s)).length ≤ 4 * s.size := by
    have := (text_length (runes (bs s))).2
    unfold clean
    omega
  have H1 := run.hid (fun w => split_use s w (by omega))
  have HO := run.hid (fun i => @one_at s i)
  have HM := run.hid (fun a m => told_mid s a m)
  have HT := run.hid (fun a i => @catN_mid (told s) a i)
  have HL := run.hid (fun a m => catN_all_le (told s) a m)
  have HC := run.hid (catN_told s)
  have hlX := told_length s
  have HCL := run.hid hcl
  generalize told s = X at *
  clear hcl
  have HR := run.hid (fun (k : Int) (w : World) => (show Calls Try.prog 26 #[.int .i64 k, .int .i64 ((X.length : Int) + 1)] w (RoundIs (X.length + 1) w) from by
    have h := round_any k (X.length + 1) w (by omega) (by omega)
    rwa [show ((X.length + 1 : Nat) : Int) = (X.length : Int) + 1 from by omega] at h))
  unfold RoundIs at HR
  go_enter Try.func6, Try.ntmps6
  go_wp2_with fail
  refine (H1.out _).mono ?_
  rintro e w1 ⟨v1, rfl, hown1, hr1, hb1⟩
  have R1 := run.hid hr1
  have HCAP := run.hid (own_cap hown1)
  obtain ⟨a1, k1, rfl, -⟩ := hr1
  clear hown1
  go_wp2_with fail
  refine (HR.out _ _).mono ?_
  rintro e w2 ⟨x, hx, rfl, rfl⟩
  go_wp2_with fail
  refine (HR.out _ _).mono ?_
  rintro e w2 ⟨y, hy, rfl, rfl⟩
  go_upto_if 28 with fail
  go_cut [8, 9] (fun p q wx => ∃ lo hi : Nat, p = .int .i64 lo ∧ q = .int .i64 hi ∧ lo ≤ hi ∧ hi ≤ X.length ∧ wx = w2)
  case first =>
    by_cases hxy : y < x
    · go_wp2
      go_meet
      exact ⟨y, x, rfl, rfl, by omega, by omega, rfl⟩
    · go_wp2
      go_meet
      exact ⟨x, y, rfl, rfl, by omega, by omega, rfl⟩
  case rest =>
    obtain ⟨lo, hi_, rfl, rfl, hlh, hhX, rfl⟩ := hcut
    clear hx hy HR
    go_wp2
    go_loopw [10, 11] (fun vb vi wr => ∃ i : Nat, lo ≤ i ∧ i ≤ hi_ ∧ vi = .int .i64 i ∧ wr.ownsRow wc.heap.size 5 1 vb (catN ((X.drop lo).take (i - lo))).length (bv (catN ((X.drop lo).take (i - lo)))) ∧ Below wc.heap.size wc wr) (fun _ vi _ => ((hi_ : Int) - intOf vi).toNat)
    case atStart => exact ⟨lo, Nat.le_refl _, hlh, rfl, by rw [Nat.sub_self]; exact World.ownsRow_nil _ _ _ _, Below.refl _ _⟩
    case round =>
      obtain ⟨ij, hlo, hij, rfl, hown, hbel⟩ := hrel
      have hbd := HL.out lo (ij - lo)
      rw [HC.out] at hbd
      have hcl2 := HCL.out
      by_cases hlt : ij < hi_
      · have hlt2 : ij < X.length := by omega
        obtain ⟨a', cap', e1, hrow⟩ := R1.out
        simp only [Value.slice.injEq] at e1
        obtain ⟨rfl, -, rfl⟩ := e1
        obtain ⟨b1, o1, rfl, hlb1, hx0, hx1⟩ := hrow ij hlt2
        replace hx0 := (hbel.cell (p := ⟨b1, o1 + ij * 2, none⟩) hlb1).trans hx0
        replace hx1 := (hbel.cell (p := ⟨b1, o1 + ij * 2 + 1, none⟩) hlb1).trans hx1
        clear hrow
        obtain ⟨f1, f2, f3⟩ := HO.out ij hlt2
        have HTi := run.hid (HT.out lo ij hlo hlt2)
        unfold t0 at f1 f2 f3 HTi
        have HONE := run.hid (fun w => one_any (X.getD ij (ByteArray.empty, 0)).1 w (by omega))
        unfold OneIs at HONE
        rw [f2] at HONE
        have hok := run.hid f1
        clear f1 f2
        generalize X.getD ij (ByteArray.empty, 0) = q at *
        obtain ⟨qs, qw⟩ := q
        dsimp only at hx0 hx1 f3 HTi HONE hok
        have HBV := run.hid (bv_bs qs)
        have HBL := run.hid (bs_len qs)
        have hsz1 := hbel.size
        generalize catN ((X.drop lo).take (ij - lo)) = tk at *
        go_wp2_with (at_builtin; refine Lib.wpList_append_own_string _ rfl _ _ 41 9 rfl wc.heap.size 5 i0 Try.underlying41 Try.underlying9 hi hz0 hz1 hz2 _ _ _ rfl hown _ rfl (by unfold maxLen; omega) (by omega) hsz1 ?_)
        intro v' w3 hown3 hgrow hnil
        have hbel3 := run.below_append hbel hown hgrow hsz1
        replace hx0 := (hbel3.cell (p := ⟨b1, o1 + ij * 2, none⟩) hlb1).trans ((hbel.cell (p := ⟨b1, o1 + ij * 2, none⟩) hlb1).symm.trans hx0)
        replace hx1 := (hbel3.cell (p := ⟨b1, o1 + ij * 2 + 1, none⟩) hlb1).trans ((hbel.cell (p := ⟨b1, o1 + ij * 2 + 1, none⟩) hlb1).symm.trans hx1)
        have hlb3 := Nat.lt_of_lt_of_le hlb1 hbel3.size
        rw [HBV.out, bv_append, ← HBL.out, ← List.length_append, ← HTi.out] at hown3
        clear hown hgrow hnil hbel
        go_wp2_with fail
        refine (HONE.out _).mono ?_
        rintro e w4 ⟨hb4, hone⟩
        rcases hone with ⟨-, rfl⟩ | ⟨hone, -⟩
        · have hown4 := run.own_below hown3 hb4
          have hbel4 := hbel3.trans (hb4.mono hbel3.size)
          replace hx0 := run.cell_old w4 (.cells #[.string qs, .int .i64 qw] 36) ((hb4.cell (p := ⟨b1, o1 + ij * 2, none⟩) hlb3).trans hx0)
          replace hx1 := run.cell_old w4 (.cells #[.string qs, .int .i64 qw] 36) ((hb4.cell (p := ⟨b1, o1 + ij * 2 + 1, none⟩) hlb3).trans hx1)
          obtain ⟨hy0, hy1⟩ := new_two w4 (.string qs) (.int .i64 qw) 36
          have hown5 := hown4.alloc (.cells #[.string qs, .int .i64 qw] 36)
          have hbel5 := hbel4.alloc hbel4.size (.cells #[.string qs, .int .i64 qw] 36)
          clear hb4 hown3 hown4 hbel3 hbel4
          go_upto_region 12 with fail
          generalize w4.alloc (.cells #[.string qs, .int .i64 qw] 36) = w5 at *
          go_quiet (fail)
          go_wp2
          go_roundw
          case rel => exact ⟨ij + 1, by omega, by omega, by go_num, hown5, below_drewN hbel5 _⟩
          case measure => simp [intOf]; omega
        · exact absurd hok.out hone
      · obtain rfl : ij = hi_ := by omega
        have hconv := conv_own hown.drew
        have HMM := run.hid (HM.out lo (ij - lo))
        have HS := run.hid (fun w => split_use (str (catN ((X.drop lo).take (ij - lo)))) w (by rw [str_size]; omega))
        rw [HMM.out] at HS
        have R2 := run.hid (R1.out.below hbel)
        have hB := hb1.trans (hbel.mono hb1.size)
        clear hown hbd HM HT HL HC HO HMM H1
        go_upto_region 14 with fail
        have hml : (upI ((X.drop lo).take (ij - lo))).length ≤ 1099511627776 := by rw [upI_length, List.length_take]; omega
        have hBd : Below w.heap.size w wr.drew := hB.trans ⟨rfl, rfl, rfl, Nat.le_refl _, fun _ _ => rfl⟩
        rcases HCAP.out with ⟨hv, hN⟩ | ⟨g, cap, hv, hcap⟩
        · simp only [Value.slice.injEq] at hv
          obtain ⟨rfl, -, rfl⟩ := hv
          obtain ⟨rfl, rfl⟩ : ij = 0 ∧ lo = 0 := by omega
          have HLS : Hid (ReadsI wr.drew (.slice none 0 0) (upI ((X.drop 0).take (0 - 0)))) := run.hid (readsI_nil _ _ _ rfl)
          have hN0 := hN
          generalize X.length = N at *
          subst hN0
          go_region_with (first | (go_at_call 14; refine (HS.out _).mono ?_; rintro e w4 ⟨v4, rfl, -, hr4, hb4⟩; have hB4 := hBd.trans (hb4.mono hBd.size); have HQ := run.hid (lawSame_eq _ _ _ w4 (readsI_up hr4) (HLS.out.below hb4) hml); clear hr4 hb4) | (go_at_call 27; refine HQ.out.mono ?_; rintro e w5 ⟨rfl, hb5⟩; have hB5 := hB4.trans (hb5.mono hB4.size); clear hb5) | (go_at_call 19; refine (alive_any _).mono ?_; rintro e w6 ⟨rfl, hb6⟩; have hB6 := hB5.trans (hb6.mono hB5.size)))
          all_goals
            go_wp2
            go_ret
            exact ⟨rfl, hB6⟩
        · simp only [Value.slice.injEq, true_and] at hv
          obtain ⟨rfl, rfl⟩ := hv
          by_cases hk : k1 = lo
          · obtain rfl : ij = lo := by omega
            subst hk
            have HLS : Hid (ReadsI wr.drew (.slice (some ⟨g, 0, none⟩) 0 0) (upI ((X.drop k1).take (k1 - k1)))) := run.hid (by rw [Nat.sub_self]; exact readsI_nil _ _ _ rfl)
            have hNk : X.length = k1 := by omega
            generalize (X.drop k1).take (k1 - k1) = mid at *
            clear hlX hij hlh hlo hhX hcap hcl2
            generalize X.length = N at *
            subst hNk
            go_region_with (first | (go_at_call 14; refine (HS.out _).mono ?_; rintro e w4 ⟨v4, rfl, -, hr4, hb4⟩; have hB4 := hBd.trans (hb4.mono hBd.size); have HQ := run.hid (lawSame_eq _ _ _ w4 (readsI_up hr4) (HLS.out.below hb4) hml); clear hr4 hb4) | (go_at_call 27; refine HQ.out.mono ?_; rintro e w5 ⟨rfl, hb5⟩; have hB5 := hB4.trans (hb5.mono hB4.size); clear hb5) | (go_at_call 19; refine (alive_any _).mono ?_; rintro e w6 ⟨rfl, hb6⟩; have hB6 := hB5.trans (hb6.mono hB5.size)))
            all_goals
              go_wp2
              go_ret
              exact ⟨rfl, hB6⟩
          · have hk' : ¬ lo = k1 := fun e => hk e.symm
            have HLS : Hid (ReadsI wr.drew (.slice (some ⟨g, lo * 2, none⟩) (ij - lo) (k1 - lo)) (upI ((X.drop lo).take (ij - lo)))) := run.hid (readsI_cut (w := wr.drew) R2.out hlo hhX)
            go_region_with (first | (go_at_call 14; refine (HS.out _).mono ?_; rintro e w4 ⟨v4, rfl, -, hr4, hb4⟩; have hB4 := hBd.trans (hb4.mono hBd.size); have HQ := run.hid (lawSame_eq _ _ _ w4 (readsI_up hr4) (HLS.out.below hb4) hml); clear hr4 hb4) | (go_at_call 27; refine HQ.out.mono ?_; rintro e w5 ⟨rfl, hb5⟩; have hB5 := hB4.trans (hb5.mono hB4.size); clear hb5) | (go_at_call 19; refine (alive_any _).mono ?_; rintro e w6 ⟨rfl, hb6⟩; have hB6 := hB5.trans (hb6.mono hB5.size)))
            all_goals
              go_wp2
              go_ret
              exact ⟨rfl, hB6⟩

end Go.Proofs.Ytinedhocmlcfpaa.clu
