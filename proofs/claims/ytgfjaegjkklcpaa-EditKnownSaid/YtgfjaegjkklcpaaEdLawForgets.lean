/-
  The law EditForgets: at most 256 steps can be undone.
-/
import Derived.Test.YtgfjaegjkklcpaaEdAlive
import Derived.Deep.CutBlock
namespace Go.Proofs.Ytgfjaegjkklcpaa.ed
open Go Go.RowKit Go.Proofs
set_option linter.unusedVariables false
/-- so many letters -/
def rep (i : Nat) : List TV := List.replicate i (tX, 1)
theorem chn_rep : ∀ i, clu.Chn (List.replicate i [120])
  | 0 => trivial
  | i + 1 => by
    have hw : clu.Whole1 [120] := by
      refine ⟨by simp, ?_⟩
      have hb := clu.count_bounds [120] (by simp)
      simp only [List.length_cons, List.length_nil] at hb ⊢
      omega
    rw [List.replicate_succ]
    refine ⟨hw, fun q t e => ?_, chn_rep i⟩
    have hq : q ∈ List.replicate i [(120 : Int)] := by rw [e]; exact List.mem_cons_self ..
    have := List.eq_of_mem_replicate hq
    subst this
    show clu.Stops [120] 120
    unfold clu.Stops
    rw [(clu.count_snoc [120] (by simp) 120 clu.letter_kind.1).1]
    exact hw.2
theorem lin_rep (i : Nat) : wrp.Lin (rep i) := by
  refine ⟨List.replicate i [120], ?_, chn_rep i, ?_, ?_⟩
  · unfold rep clu.seen
    rw [List.map_replicate]
    congr 1
  · intro p hp
    rw [List.eq_of_mem_replicate hp]
    decide
  · intro p hp r hr
    rw [List.eq_of_mem_replicate hp, List.mem_singleton] at hr
    subst hr
    exact ⟨by decide, by rw [clu.letter_kind.1]; decide⟩
theorem rep_len (i : Nat) : (rep i).length = i := by unfold rep; simp
theorem rep_snoc (i : Nat) : rep (i + 1) = rep i ++ [(tX, 1)] := by unfold rep; rw [List.replicate_succ']
theorem rep_size : ∀ i, sizeL (rep i) = i
  | 0 => rfl
  | i + 1 => by
    have e : sizeL (rep i ++ [(tX, 1)]) = sizeL (rep i) + 1 := by
      unfold sizeL textL
      rw [List.flatMap_append, List.length_append]
      rfl
    rw [rep_snoc, e, rep_size i]
theorem textB_snoc (F : List TV) (q : TV) : textB F ++ q.1 = textB (F ++ [q]) := by
  apply utf.bs_inj
  rw [bs_app, bs_textB, bs_textB, wrp.bytesT_append]
  show _ = _ ++ (utf.bs q.1 ++ [])
  rw [List.append_nil]
def stepX (j : Nat) : St := ⟨rep j, j, rep (j + 1), j + 1⟩
def stepsX (i : Nat) : List St := (List.range (min i 256)).map fun k => stepX (i - min i 256 + k)
def stX (i : Nat) : Sta := ⟨rep i, i, -1, stepsX i, min i 256⟩
theorem stepsX_len (i : Nat) : (stepsX i).length = min i 256 := by unfold stepsX; simp
theorem stepsX_get {i k : Nat} (h : k < min i 256) : (stepsX i)[k]? = some (stepX (i - min i 256 + k)) := by
  unfold stepsX
  rw [List.getElem?_map, List.getElem?_range h]
  rfl
theorem stepsX_next (i : Nat) : lim (stepsX i ++ [stepX i]) = stepsX (i + 1) := by
  have hl : (stepsX i ++ [stepX i]).length = min i 256 + 1 := by rw [List.length_append, stepsX_len]; rfl
  unfold lim
  rw [hl]
  apply List.ext_getElem?
  intro k
  have hget : ∀ k, (stepsX i ++ [stepX i])[k]? = if k < min i 256 + 1 then some (stepX (i - min i 256 + k)) else none := by
    intro k
    rcases Nat.lt_trichotomy k (min i 256) with h | h | h
    · rw [List.getElem?_append_left (by rw [stepsX_len]; exact h), stepsX_get h, if_pos (by omega)]
    · rw [List.getElem?_append_right (by rw [stepsX_len]; omega), stepsX_len, h, Nat.sub_self, if_pos (by omega)]
      rw [List.getElem?_cons_zero]
      congr 2
      omega
    · rw [if_neg (by omega), List.getElem?_eq_none (by rw [hl]; omega)]
  have hr : (stepsX (i + 1))[k]? = if k < min (i + 1) 256 then some (stepX (i + 1 - min (i + 1) 256 + k)) else none := by
    by_cases h : k < min (i + 1) 256
    · rw [stepsX_get h, if_pos h]
    · rw [if_neg h, List.getElem?_eq_none (by rw [stepsX_len]; omega)]
  rw [hr]
  by_cases h256 : 256 < min i 256 + 1
  · rw [if_pos h256, List.getElem?_drop, hget]
    by_cases h : k < min (i + 1) 256
    · rw [if_pos (by omega), if_pos h]
      congr 2
      omega
    · rw [if_neg (by omega), if_neg h]
  · rw [if_neg h256, hget]
    by_cases h : k < min (i + 1) 256
    · rw [if_pos (by omega), if_pos h]
      congr 2
      omega
    · rw [if_neg (by omega), if_neg h]
theorem typed_x : typedB tX = tX := by decide +kernel
theorem ins_x (i : Nat) (hi : i < 400) : insT (stX i) tX = (true, stX (i + 1)) := by
  have hm : mkT (-1) i = (i, i) := by unfold mkT; rw [if_pos (by omega)]
  have htk : (rep i).take i = rep i := by rw [List.take_of_length_le (by rw [rep_len]; exact Nat.le_refl _)]
  have hdr : (rep i).drop i = [] := by rw [List.drop_of_length_le (by rw [rep_len]; exact Nat.le_refl _)]
  have ha : aheadI (stX i) tX = textB (rep (i + 1)) := by
    show textB ((rep i).take (mkT (-1) i).1) ++ typedB tX = _
    rw [hm]
    dsimp only
    rw [htk, typed_x, rep_snoc, ← textB_snoc]
  have hE : ∀ s : ByteArray, s ++ textB [] = s := fun s => by apply utf.bs_inj; rw [bs_app, bs_textB]; show _ ++ [] = _; rw [List.append_nil]
  have hL : lineT (textB (rep (i + 1))) = rep (i + 1) := (lin_rep (i + 1)).line (bs_textB _)
  have hi2 : insL (stX i) tX = rep (i + 1) := by
    show lineT (aheadI (stX i) tX ++ textB ((rep i).drop (mkT (-1) i).2)) = _
    rw [ha, hm]
    dsimp only
    rw [hdr, hE, hL]
  unfold insT
  rw [ha, hi2, hL, rep_size, rep_len, if_neg (by omega)]
  unfold becomeT
  rw [if_neg (by
    rintro ⟨e, -⟩
    have := congrArg List.length e
    rw [rep_len] at this
    have h2 : (stX i).F.length = i := rep_len i
    omega)]
  have hs : (stX i).L.take (stX i).dn ++ [(⟨(stX i).F, (stX i).ca, rep (i + 1), i + 1⟩ : St)] = stepsX i ++ [stepX i] := by
    show (stepsX i).take (min i 256) ++ [stepX i] = _
    rw [List.take_of_length_le (by rw [stepsX_len]; exact Nat.le_refl _)]
  rw [hs, stepsX_next, stepsX_len]
  rfl
theorem new_x : newE ⟨#[]⟩ = stX 0 := by
  have h1 : newT ⟨#[]⟩ = [] := by decide +kernel
  unfold newE
  rw [h1]
  rfl
theorem ok_x : ∀ i, i ≤ 400 → EdOk (stX i)
  | 0, _ => by rw [← new_x]; exact ok_new _
  | i + 1, h => by
    have := ok_ins (ok_x i (by omega)) tX
    rw [ins_x i (by omega)] at this
    exact this
/-- behind k Undos -/
def stU (n k : Nat) : Sta := ⟨rep (n - k), n - k, -1, stepsX n, min n 256 - k⟩
theorem undo_x {n k : Nat} (h : k < min n 256) : undoT (stU n k) = (true, stU n (k + 1)) := by
  obtain ⟨m, hm⟩ : ∃ m, min n 256 - k = m + 1 := ⟨min n 256 - k - 1, by omega⟩
  have hg := stepsX_get (i := n) (k := m) (by omega)
  have e1 : n - min n 256 + m = n - (k + 1) := by omega
  have e2 : m = min n 256 - (k + 1) := by omega
  unfold stU undoT
  rw [hm]
  dsimp only
  rw [hg, e1]
  dsimp only [stepX]
  rw [e2]
theorem undo_y {n : Nat} : undoT (stU n (min n 256)) = (false, stU n (min n 256)) := by
  unfold stU undoT
  rw [Nat.sub_self]
theorem ok_u (n : Nat) (hn : n ≤ 400) : ∀ k, k ≤ min n 256 → EdOk (stU n k)
  | 0, _ => by
    have h := ok_x n hn
    show EdOk ⟨rep (n - 0), n - 0, -1, stepsX n, min n 256 - 0⟩
    rw [Nat.sub_zero, Nat.sub_zero]
    exact h
  | k + 1, h => by
    have := ok_undo (ok_u n hn k (by omega))
    rw [undo_x (by omega)] at this
    exact this
theorem st_u (n : Nat) : stU n 0 = stX n := rfl
theorem tmod400 (k : Int) : -400 < k.tmod 400 ∧ k.tmod 400 < 400 := by
  have h2 := Int.tmod_lt_of_pos k (b := (400 : Int)) (by omega)
  have h3 := Int.tmod_lt_of_pos (-k) (b := (400 : Int)) (by omega)
  rw [Int.neg_tmod] at h3
  omega
theorem textB_rep (i : Nat) : (textB (rep i)).size = i := rep_size i
set_option maxRecDepth 100000 in
set_option maxHeartbeats 8000000 in
theorem lawForgets_any (many : Int) (w : World) : Calls Try.prog 3 #[.int .i64 many] w fun e w' => e = .returned (.bool true) ∧ Below w.heap.size w w' := by
  obtain ⟨hm1, hm2⟩ := tmod400 many
  have HNEW := run.hid (new_l ⟨#[]⟩ w (by decide))
  rw [new_x] at HNEW
  have HINS := run.hid (fun (i : Nat) (b : Nat) (X : World) (hi : i < 400) (h : EdL w.heap.size b (stX i) X) (hB : w.heap.size ≤ X.heap.size) => ins_l h (ok_x i (by omega)) hB tX (by decide))
  have HI2 := run.hid (fun (i : Nat) (hi : i < 400) => ins_x i hi)
  have HUN := run.hid (fun (n k : Nat) (b : Nat) (X : World) (hn : n ≤ 400) (hk : k ≤ min n 256) (h : EdL w.heap.size b (stU n k) X) (hB : w.heap.size ≤ X.heap.size) => undo_l h (ok_u n hn k hk) hB)
  have HU2 := run.hid (fun (n k : Nat) (hk : k < min n 256) => @undo_x n k hk)
  have HU3 := run.hid (fun (n : Nat) => @undo_y n)
  have HTX := run.hid (fun (n k : Nat) (b : Nat) (X : World) (hn : n ≤ 400) (hk : k ≤ min n 256) (h : EdL w.heap.size b (stU n k) X) => text_l h (ok_u n hn k hk))
  have HCA := run.hid (fun (n k : Nat) (b : Nat) (X : World) (h : EdL w.heap.size b (stU n k) X) => caret_l h)
  go_enter Try.func3, Try.ntmps3
  go_upto_if 10 with fail
  go_cut [3] (fun p wx => ∃ r : Nat, r < 400 ∧ p = .int .i64 r ∧ wx = w)
  case first =>
    clear HNEW HINS HI2 HUN HU2 HU3 HTX HCA
    by_cases hlt : many.tmod 400 < 0
    · go_wp2_with fail
      go_meet
      exact ⟨(many.tmod 400 + 400).toNat, by omega, congrArg (Value.int .i64) (by omega), rfl⟩
    · go_wp2_with fail
      go_meet
      exact ⟨(many.tmod 400).toNat, by omega, congrArg (Value.int .i64) (by omega), rfl⟩
  case rest =>
    obtain ⟨r, hr, rfl, hwc⟩ := hcut
    rw [hwc]
    clear hwc hm1 hm2
    obtain ⟨n, hn⟩ : ∃ n : Nat, n = r + 1 := ⟨_, rfl⟩
    have hnI : (r : Int) + 1 = (n : Int) := by omega
    have hn1 : n ≤ 400 := by omega
    clear hn
    go_wp2_with fail
    refine HNEW.out.mono ?_
    rintro e w1 ⟨b, rfl, hE1, hb1⟩
    have HE1 := run.hid (And.intro hE1 hb1)
    clear HNEW hE1 hb1
    go_upto_block 0 with fail
    go_cut [5] (fun p wx => EdL w.heap.size b (stX n) wx ∧ Below w.heap.size w wx)
    case first =>
      clear HUN HU2 HU3 HTX HCA
      go_wp2
      go_loopw [5] (fun vi wr => ∃ i : Nat, i ≤ n ∧ vi = .int .i64 i ∧ EdL w.heap.size b (stX i) wr ∧ Below w.heap.size w wr) (fun vi _ => ((n : Int) - intOf vi).toNat)
      case atStart => exact ⟨0, Nat.zero_le _, rfl, HE1.out.1, HE1.out.2⟩
      case round =>
        obtain ⟨i, hi, rfl, hE, hbel⟩ := hrel
        by_cases hlt : i < n
        · have HI := run.hid (HINS.out i b wr (by omega) hE hbel.size)
          rw [HI2.out i (by omega)] at HI
          have HB := run.hid hbel
          clear hE hbel HINS HI2
          go_wp2_with fail
          refine HI.out.mono ?_
          rintro e w2 ⟨rfl, hE2, hb2⟩
          have HF := run.hid (And.intro hE2 (HB.out.trans hb2))
          clear HI HB hE2 hb2
          go_wp2
          go_roundw
          case rel => exact ⟨i + 1, by omega, by go_num, HF.out.1, HF.out.2⟩
          case measure => simp [intOf]; omega
        · obtain rfl : i = n := by omega
          have HF := run.hid (And.intro hE hbel)
          clear hE hbel HINS HI2
          go_wp2
          go_meet
          exact HF.out
    case rest =>
      obtain ⟨hE, hbel⟩ := hcut
      have HE := run.hid (And.intro hE hbel)
      clear hE hbel HINS HI2 HE1
      generalize wc = wd at *
      go_upto_block 2 with fail
      go_cut [6] (fun p wx => p = .int .i64 (min n 256 : Nat) ∧ EdL w.heap.size b (stU n (min n 256)) wx ∧ Below w.heap.size w wx)
      case first =>
        clear HTX HCA
        go_wp2
        go_loopw [6] (fun vk wr => ∃ k : Nat, k ≤ min n 256 ∧ vk = .int .i64 k ∧ EdL w.heap.size b (stU n k) wr ∧ Below w.heap.size w wr) (fun vk _ => ((n : Int) - intOf vk).toNat)
        case atStart => exact ⟨0, Nat.zero_le _, rfl, by rw [st_u]; exact HE.out.1, HE.out.2⟩
        case round =>
          obtain ⟨k, hk, rfl, hE, hbel⟩ := hrel
          have hkn : (k : Int) ≤ (n : Int) := by omega
          have HI := run.hid (HUN.out n k b wr hn1 hk hE hbel.size)
          have HB := run.hid hbel
          clear hE hbel HUN HE
          by_cases hlt : k < min n 256
          · rw [HU2.out n k hlt] at HI
            clear HU2 HU3
            go_wp2_with fail
            refine HI.out.mono ?_
            rintro e w2 ⟨rfl, hE2, hb2⟩
            have HF := run.hid (And.intro hE2 (HB.out.trans hb2))
            clear HI HB hE2 hb2
            go_wp2
            go_roundw
            case rel => exact ⟨k + 1, by omega, by go_num, HF.out.1, HF.out.2⟩
            case measure => simp [intOf]; omega
          · obtain rfl : k = min n 256 := by omega
            rw [HU3.out n] at HI
            clear HU2 HU3
            go_wp2_with fail
            refine HI.out.mono ?_
            rintro e w2 ⟨rfl, hE2, hb2⟩
            have HF := run.hid (And.intro hE2 (HB.out.trans hb2))
            clear HI HB hE2 hb2
            go_wp2
            go_meet
            exact ⟨rfl, HF.out.1, HF.out.2⟩
      case rest =>
        obtain ⟨rfl, hE, hbel⟩ := hcut
        have HT := run.hid (HTX.out n (min n 256) b wc hn1 (Nat.le_refl _) hE)
        have HED := run.hid (fun (X : World) (hX : Below wc.heap.size wc X) => HCA.out n (min n 256) b X (hE.below hX))
        have HB := run.hid hbel
        have hsz : (textB (stU n (min n 256)).F).size = n - min n 256 := textB_rep _
        have hcaU : (stU n (min n 256)).ca = n - min n 256 := rfl
        rw [hcaU] at HED
        generalize textB (stU n (min n 256)).F = TT at *
        have hmm : min (n : Int) 256 = ((min n 256 : Nat) : Int) := by omega
        obtain ⟨d, hd⟩ : ∃ d : Nat, d = n - min n 256 := ⟨_, rfl⟩
        have hdI : (n : Int) - ((min n 256 : Nat) : Int) = (d : Int) := by omega
        rw [← hd] at HED hsz
        have HSZ := run.hid hsz
        clear hE hbel HUN HU2 HU3 HTX HCA hcaU hd hsz HE
        generalize min n 256 = mn at *
        go_wp2_with fail
        refine HT.out.mono ?_
        rintro e w5 ⟨rfl, hb5⟩
        have hsz := HSZ.out
        have HB5 := run.hid hb5
        clear hb5 HT
        go_wp2_with fail
        refine (HED.out w5 HB5.out).mono ?_
        rintro e w6 ⟨rfl, hb6⟩
        have HB6 := run.hid (HB.out.trans ((HB5.out.trans (hb6.mono HB5.out.size)).mono HB.out.size))
        clear hb6 HB5 HED HB
        go_wp2_with fail
        refine (alive_any w6).mono ?_
        rintro e w7 ⟨rfl, hb7⟩
        have HF := run.hid (HB6.out.trans (hb7.mono HB6.out.size))
        clear hb7 HB6
        go_wp2
        go_ret
        exact ⟨rfl, HF.out⟩
end Go.Proofs.Ytgfjaegjkklcpaa.ed
