/-
  The walks of helpers of the laws of layer canvas: near, tells.
-/
import Derived.Test.YtbfheehaagcmeaaDoorCanAlive
namespace Go.Proofs.YtbfheehaagcmeaaDoor.can
open Go.RowKit Go.Proofs
set_option linter.unusedVariables false

def nearT (n lo hi : Int) : Int := lo + n % (hi - lo + 1)
theorem near_in {n lo hi : Int} (h : lo ≤ hi) : lo ≤ nearT n lo hi ∧ nearT n lo hi ≤ hi := by
  unfold nearT
  have h1 := Int.emod_nonneg n (show hi - lo + 1 ≠ 0 by omega)
  have h2 := Int.emod_lt_of_pos n (show 0 < hi - lo + 1 by omega)
  omega
theorem tmod_near {n m : Int} (hm : 0 < m) : n % m = if n.tmod m < 0 then n.tmod m + m else n.tmod m := by
  rcases Int.le_total 0 n with h | h
  · rw [Int.tmod_eq_emod_of_nonneg h, if_neg (by have := Int.emod_nonneg n (show m ≠ 0 by omega); omega)]
  · obtain ⟨k, rfl⟩ : ∃ k, n = -k := ⟨-n, by omega⟩
    rw [Int.neg_tmod, Int.tmod_eq_emod_of_nonneg (by omega)]
    have h1 := Int.emod_nonneg k (show m ≠ 0 by omega)
    have h2 := Int.emod_lt_of_pos k hm
    have h3 := Int.mul_ediv_add_emod k m
    split
    · rename_i h4
      have : (-k) = m * (-(k / m) - 1) + (-(k % m) + m) := by rw [Int.mul_sub, Int.mul_neg]; omega
      rw [this, Int.mul_add_emod_self_left, Int.emod_eq_of_lt (by omega) (by omega)]
    · rename_i h4
      have h5 : k % m = 0 := by omega
      have : (-k) = m * (-(k / m)) := by rw [Int.mul_neg]; omega
      rw [this, Int.mul_emod_right, h5]; rfl

set_option maxHeartbeats 1000000 in
theorem near_any (n lo hi : Int) (w : World) (hn : -9223372036854775808 ≤ n ∧ n ≤ 9223372036854775807) (h1 : lo ≤ hi) (h2 : -1000000 ≤ lo) (h3 : hi ≤ 1000000) :
    Calls Tryd.prog 17 #[.int .i64 n, .int .i64 lo, .int .i64 hi] w fun e w' => e = .returned (.int .i64 (nearT n lo hi)) ∧ w = w' := by
  obtain ⟨m, hm⟩ : ∃ m, m = hi - lo + 1 := ⟨_, rfl⟩
  have hT := run.hid (show nearT n lo hi = lo + (if n.tmod m < 0 then n.tmod m + m else n.tmod m) by rw [hm, ← tmod_near (by omega)]; rfl)
  have hb := run.hid (near_in (n := n) h1)
  have hr1 : -m < n.tmod m ∧ n.tmod m < m := by
    have h1 := Int.tmod_lt_of_pos n (show 0 < m by omega)
    have h2 := Int.tmod_lt_of_pos (-n) (show 0 < m by omega)
    rw [Int.neg_tmod] at h2
    omega
  have hk : binOp .rem 3 (.int .i64 n) (.int .i64 m) = pure (.int .i64 (n.tmod m)) := by
    show Op.intDiv .rem .i64 n m = _
    unfold Op.intDiv
    rw [if_neg (by omega)]
  obtain ⟨r, hr⟩ : ∃ r, r = n.tmod m := ⟨_, rfl⟩
  rw [← hr] at hT hr1 hk
  have hms : hi - lo + 1 = m := hm.symm
  have hm2 : m ≤ 2000001 ∧ 1 ≤ m := by omega
  clear hr hm
  by_cases h0 : r < 0
  · rw [if_pos h0] at hT
    go_enter Tryd.func17, Tryd.ntmps17
    go_wp2
    go_ret
    exact ⟨by rw [hT.out]; rfl, rfl⟩
  · rw [if_neg h0] at hT
    go_enter Tryd.func17, Tryd.ntmps17
    go_wp2
    go_ret
    exact ⟨by rw [hT.out]; rfl, rfl⟩
end Go.Proofs.YtbfheehaagcmeaaDoor.can
namespace Go.Proofs.YtbfheehaagcmeaaDoor.can
open Go.RowKit Go.Proofs
set_option linter.unusedVariables false

/-- the world of a law whose canvas is made: it stays as it is drawn -/
structure St (w0 : World) (B b g W H : Nat) (S : Int → Int → Bool) (w : World) : Prop where
  canvas : Canvas B b g W H S w
  dots : Dots w
  below : Below w0.heap.size w0 w
  low : 2 < w0.heap.size
theorem St.next {w0 w w' : World} {B b g W H : Nat} {S : Int → Int → Bool} (h : St w0 B b g W H S w) (hb : Below w.heap.size w w') : St w0 B b g W H S w' :=
  ⟨h.canvas.below hb, h.dots.below hb (Nat.lt_of_lt_of_le h.low h.below.size), h.below.trans (hb.mono h.below.size), h.low⟩
theorem has_st {w0 w : World} {B b g W H : Nat} {S : Int → Int → Bool} (h : St w0 B b g W H S w) (i k : Nat) (hi : i < 2 * W) (hk : k < 4 * H) :
    Calls Tryd.prog 22 #[.pointer (some ⟨b, 0, none⟩), .int .i64 i, .int .i64 k] w fun e w' => e = .returned (.bool (S i k)) ∧ St w0 B b g W H S w' :=
  (has_any B b g W H S i k w h.dots h.canvas).mono fun e w' ⟨he, hb⟩ => ⟨by
    rw [he, show inside W H i k = true by unfold inside; simp; omega, Bool.true_and], h.next hb⟩

def partB (S : Int → Int → Bool) (x y k : Nat) : Nat := ((List.range k).map fun i => if S ((2 * x + i / 4 : Nat) : Int) ((4 * y + i % 4 : Nat) : Int) then bitv i else 0).sum
theorem partB_succ (S : Int → Int → Bool) (x y k : Nat) : partB S x y (k + 1) = partB S x y k + if S ((2 * x + k / 4 : Nat) : Int) ((4 * y + k % 4 : Nat) : Int) then bitv k else 0 := by
  unfold partB
  rw [List.range_succ, List.map_append, List.sum_append]
  simp
theorem bitv_le (k : Nat) (hk : k < 8) : bitv k ≤ 128 := by
  have h : k = 0 ∨ k = 1 ∨ k = 2 ∨ k = 3 ∨ k = 4 ∨ k = 5 ∨ k = 6 ∨ k = 7 := by omega
  rcases h with rfl | rfl | rfl | rfl | rfl | rfl | rfl | rfl <;> decide
theorem partB_le (S : Int → Int → Bool) (x y : Nat) : ∀ k, k ≤ 8 → partB S x y k ≤ 128 * k
  | 0, _ => by simp [partB]
  | k + 1, h => by
    have := partB_le S x y k (by omega)
    have := bitv_le k (by omega)
    rw [partB_succ]
    split <;> omega
theorem bits_cell (w : World) (k : Nat) (hk : k < 8) : (w.alloc (.cells #[.int .i64 1, .int .i64 2, .int .i64 4, .int .i64 64, .int .i64 8, .int .i64 16, .int .i64 32, .int .i64 128] 100)).cell? ⟨w.heap.size, k, none⟩ = some (.int .i64 (bitv k)) := by
  rw [World.cell?_alloc_at _ _ _ _ rfl]
  have h : k = 0 ∨ k = 1 ∨ k = 2 ∨ k = 3 ∨ k = 4 ∨ k = 5 ∨ k = 6 ∨ k = 7 := by omega
  rcases h with rfl | rfl | rfl | rfl | rfl | rfl | rfl | rfl <;> rfl

set_option maxRecDepth 100000 in
set_option maxHeartbeats 4000000 in
theorem tells_any {w0 w : World} {B b g W H : Nat} {S : Int → Int → Bool} (h : St w0 B b g W H S w) (x y : Nat) (hx : x < W) (hy : y < H) (hW : W ≤ 4096) (hH : H ≤ 4096) :
    Calls Tryd.prog 25 #[.pointer (some ⟨b, 0, none⟩), .int .i64 x, .int .i64 y, .int .i32 (glyphC (cellByte S x y))] w fun e w' => e = .returned (.bool true) ∧ Below w.heap.size w w' := by
  have HS := run.hid h
  have HB := run.hid (run.below_one w (.cells #[.int .i64 1, .int .i64 2, .int .i64 4, .int .i64 64, .int .i64 8, .int .i64 16, .int .i64 32, .int .i64 128] 100))
  have HC := run.hid (fun k hk => bits_cell w k hk)
  have HP := run.hid (fun k => partB_succ S x y k)
  have HL := run.hid (fun k hk => partB_le S x y k hk)
  have H0 := run.hid (show partB S x y 0 = 0 from rfl)
  have H8 : cellByte S x y = partB S x y 8 := rfl
  rw [H8]
  clear H8 h
  generalize hpB : partB S x y = pB at *
  clear hpB
  go_enter Tryd.func25, Tryd.ntmps25
  go_wp2
  have HS1 := run.hid (HS.out.next HB.out)
  have hsz : (w.alloc (.cells #[.int .i64 1, .int .i64 2, .int .i64 4, .int .i64 64, .int .i64 8, .int .i64 16, .int .i64 32, .int .i64 128] 100)).heap.size = w.heap.size + 1 := by simp
  clear HS
  generalize w.alloc (.cells #[.int .i64 1, .int .i64 2, .int .i64 4, .int .i64 64, .int .i64 8, .int .i64 16, .int .i64 32, .int .i64 128] 100) = w1 at *
  generalize hr : w.heap.size = r at *
  go_loopw [10, 11] (fun vn vi wr => ∃ i : Nat, i ≤ 8 ∧ vi = .int .i64 i ∧ vn = .int .i64 (pB i) ∧ Hid (St w0 B b g W H S wr) ∧ Hid (Below w1.heap.size w1 wr)) (fun _ vi _ => (8 - intOf vi).toNat)
  case atStart => exact ⟨0, by omega, rfl, by rw [H0.out]; rfl, HS1, Below.refl _ _⟩
  case round =>
    obtain ⟨i, hi, rfl, rfl, HSr, HBr⟩ := hrel
    have hsr := HBr.out.size
    by_cases hil : i < 8
    · have hle := HL.out i (by omega)
      have hbv := bitv_le i hil
      have HPi := run.hid (HP.out i)
      have hI : inside W H (2 * x + i / 4 : Nat) (4 * y + i % 4 : Nat) = true := by unfold inside; simp; omega
      have HH := run.hid (has_any B b g W H S (2 * x + i / 4 : Nat) (4 * y + i % 4 : Nat) wr HSr.out.dots HSr.out.canvas)
      rw [hI, Bool.true_and] at HH
      have e1 : ((2 * x + i / 4 : Nat) : Int) = 2 * (x : Int) + (i : Int) / 4 := by omega
      have e2 : ((4 * y + i % 4 : Nat) : Int) = 4 * (y : Int) + (i : Int) % 4 := by omega
      rw [e1, e2] at HH HPi
      clear e1 e2 hI
      have hc := HC.out i hil
      have HCi := run.hid ((HBr.out.cell (p := ⟨r, i, none⟩) (by simp; omega)).trans hc)
      clear hc
      generalize hS : S (2 * (x : Int) + (i : Int) / 4) (4 * (y : Int) + (i : Int) % 4) = sv at *
      clear hS
      go_wp2_with fail
      refine HH.out.mono ?_
      rintro e w3 ⟨rfl, hb3⟩
      have HS3 := run.hid (HSr.out.next hb3)
      have HB3 := run.hid (HBr.out.trans (hb3.mono hsr))
      have hc3 := (hb3.cell (p := ⟨r, i, none⟩) (by simp; omega)).trans HCi.out
      clear HSr HBr hb3 HCi HH
      cases sv with
      | true =>
        simp only [if_true] at HPi
        generalize bitv i = bv at *
        go_wp2
        clear hc3
        go_roundw
        case rel => exact ⟨i + 1, by omega, by go_num, by rw [HPi.out]; go_num, HS3, HB3⟩
        case measure => simp [intOf]; omega
      | false =>
        simp only [Bool.false_eq_true, if_false, Nat.add_zero] at HPi
        clear hc3
        go_wp2
        go_roundw
        case rel => exact ⟨i + 1, by omega, by go_num, by rw [HPi.out], HS3, HB3⟩
        case measure => simp [intOf]; omega
    · obtain rfl : i = 8 := by omega
      have hle := HL.out 8 (by omega)
      have HF := run.hid (HB.out.trans (HBr.out.mono (by omega)))
      generalize pB 8 = nb at *
      by_cases h0 : nb = 0
      · subst h0
        go_wp2
        go_ret
        exact ⟨rfl, by rw [hr]; exact HF.out⟩
      · have hg : glyphC nb = 10240 + (nb : Int) := by unfold glyphC; rw [if_neg h0]
        rw [hg]
        go_wp2
        go_ret
        exact ⟨rfl, by rw [hr]; exact HF.out⟩
end Go.Proofs.YtbfheehaagcmeaaDoor.can
