/-
  The walk of the layer width: the stretches of every class; the law WidthWhole.
-/
import Derived.Test.YtmgammodbpjnbaaWidNarrow
namespace Go.Proofs.Ytmgammodbpjnbaa.wid
open Go.RowKit Go.Proofs
set_option linter.unusedVariables false

theorem own_new (w : World) (l : List (Int × Int)) (hl : l.length ≤ 85) : (w.alloc (.cells (flat l).toArray 53)).ownsRow w.heap.size 53 2 (.slice (some ⟨w.heap.size, 0, none⟩) l.length l.length) l.length (flat l) := by
  refine ⟨flat_len l, .inr ⟨w.heap.size, l.length, (flat l).toArray, rfl, Nat.le_refl _, run.heap_new _ _, Nat.le_refl _, by unfold maxLen; omega, by simp [flat_len], ?_⟩⟩
  rw [List.take_of_length_le (by simp [flat_len])]

set_option maxRecDepth 100000 in
set_option maxHeartbeats 1000000 in
theorem told_none (c : Int) (hc : c < 0 ∨ 8 < c) (hw : -128 ≤ c ∧ c ≤ 127) (w : World) : Calls Try.prog 39 #[.int .i8 c] w fun e w' => e = .returned (.slice none 0 0) ∧ w' = w := by
  have h0 : (c == 0) = false := by simp; omega
  have h1 : (c == 1) = false := by simp; omega
  have h2 : (c == 2) = false := by simp; omega
  have h3 : (c == 3) = false := by simp; omega
  have h4 : (c == 4) = false := by simp; omega
  have h5 : (c == 5) = false := by simp; omega
  have h6 : (c == 6) = false := by simp; omega
  have h7 : (c == 7) = false := by simp; omega
  have h8 : (c == 8) = false := by simp; omega
  clear hc hw
  go_enter Try.func39, Try.ntmps39
  go_wp2
  go_ret
  exact ⟨rfl, rfl⟩

set_option maxHeartbeats 1000000 in
theorem ranges_none (c : Int) (hc : c < 0 ∨ 9 < c) (hw : -128 ≤ c ∧ c ≤ 127) (w : World) : Calls Try.prog 18 #[.int .i8 c] w fun e w' => e = .returned (.slice none 0 0) ∧ w' = w := by
  have H := run.hid (told_none c (by omega) hw w)
  have h9 : (c == 9) = false := by simp; omega
  clear hc hw
  go_enter Try.func18, Try.ntmps18
  go_wp2_with fail
  refine H.out.mono ?_
  rintro e w1 ⟨rfl, rfl⟩
  go_wp2
  go_ret
  exact ⟨rfl, rfl⟩

theorem ranges_any (c : Int) (hw : -128 ≤ c ∧ c ≤ 127) (w : World) : Calls Try.prog 18 #[.int .i8 c] w fun e w' => ∃ v, e = .returned v ∧ w'.ownsRow w.heap.size 53 2 v (rangesT c).length (flat (rangesT c)) ∧ Below w.heap.size w w' := by
  by_cases h9 : c = 9
  · subst h9
    exact ranges_narrow w
  by_cases h8 : 0 ≤ c ∧ c ≤ 8
  · obtain ⟨k, rfl⟩ : ∃ k : Nat, c = k := ⟨c.toNat, by omega⟩
    have e : rangesT (k : Int) = tab k := by unfold rangesT; rw [if_neg h9, if_pos h8]; rfl
    rw [e]
    refine (ranges_told k (by omega) w).mono ?_
    rintro e w' ⟨rfl, rfl⟩
    exact ⟨_, rfl, own_new w (tab k) (by have := (tab_le k (by omega)).2; omega), run.below_one _ _⟩
  · have e : rangesT c = [] := by unfold rangesT; rw [if_neg h9, if_neg h8]
    rw [e]
    refine (ranges_none c (by omega) hw w).mono ?_
    rintro e w' ⟨rfl, rfl⟩
    exact ⟨_, rfl, World.ownsRow_nil _ _ _ _, Below.refl _ _⟩

/-- a stretch's two numbers -/
theorem row_at {w : World} {B n : Nat} {v : Value} {l : List (Int × Int)} (h : w.ownsRow B 53 2 v n (flat l)) {k : Nat} (hk : k < n) :
    ∃ g c, v = .slice (some ⟨g, 0, none⟩) n c ∧ w.cell? ⟨g, k * 2, none⟩ = some (.int .i32 (l.getD k (0, 0)).1) ∧ w.cell? ⟨g, k * 2 + 1, none⟩ = some (.int .i32 (l.getD k (0, 0)).2) := by
  obtain ⟨g, c, rfl⟩ := own_some h (by omega)
  have hl : l.length = n := by have := h.1; rw [flat_len] at this; omega
  have h3 := flat_at l k (by omega)
  exact ⟨g, c, rfl, (h.cellAt (k * 2) (by omega)).trans h3.1, (h.cellAt (k * 2 + 1) (by omega)).trans h3.2⟩

/-! ### All together -/
def sumT (l : List (Int × Int)) : Int := (l.map fun p => p.2 - p.1 + 1).sum
def sumUp (c : Nat) : Int := ((List.range c).map fun (j : Nat) => sumT (rangesT j)).sum
theorem sum_all : sumUp 10 = 1114112 := by decide +kernel
theorem ranges_in : ∀ c ∈ List.range 10, ∀ p ∈ rangesT (c : Nat), 0 ≤ p.1 ∧ p.1 ≤ p.2 ∧ p.2 ≤ 0x10ffff := by decide +kernel
theorem sumUp_succ (c : Nat) : sumUp (c + 1) = sumUp c + sumT (rangesT c) := by unfold sumUp; rw [List.range_succ, List.map_append, List.sum_append]; simp
theorem sumT_succ {l : List (Int × Int)} {k : Nat} (h : k < l.length) : sumT (l.take (k + 1)) = sumT (l.take k) + ((l.getD k (0, 0)).2 - (l.getD k (0, 0)).1 + 1) := by
  unfold sumT
  rw [List.take_succ_eq_append_getElem h, List.map_append, List.sum_append]
  simp [List.getD_eq_getElem?_getD, h]
theorem sumT_bound {l : List (Int × Int)} (h : ∀ p ∈ l, 0 ≤ p.1 ∧ p.1 ≤ p.2 ∧ p.2 ≤ 0x10ffff) : 0 ≤ sumT l ∧ sumT l ≤ l.length * 1114112 := by
  unfold sumT
  induction l with
  | nil => simp
  | cons p l ih =>
    have h1 := h p (by simp)
    have h2 := ih fun q hq => h q (by simp [hq])
    simp only [List.map_cons, List.sum_cons, List.length_cons]
    omega
theorem part_bound {c : Nat} (hc : c < 10) (i : Nat) : 0 ≤ sumT ((rangesT c).take i) ∧ sumT ((rangesT c).take i) ≤ 94699520 := by
  have h := sumT_bound (l := (rangesT c).take i) (fun p hp => ranges_in c (by simpa using hc) p (List.mem_of_mem_take hp))
  have h2 := ranges_len (c : Nat)
  have h3 : ((rangesT c).take i).length ≤ 85 := by rw [List.length_take]; omega
  omega
theorem up_bound {c : Nat} (hc : c ≤ 10) : 0 ≤ sumUp c ∧ sumUp c ≤ c * 94699520 := by
  induction c with
  | zero => unfold sumUp; simp
  | succ c ih =>
    have h1 := ih (by omega)
    have h2 := part_bound (show c < 10 by omega) (rangesT c).length
    rw [List.take_length] at h2
    rw [sumUp_succ]
    omega

set_option maxRecDepth 100000 in
set_option maxHeartbeats 4000000 in
theorem lawWhole_any (w : World) : Calls Try.prog 7 #[] w fun e w' => e = .returned (.bool true) ∧ Below w.heap.size w w' := by
  go_enter Try.func7, Try.ntmps7
  go_wp2
  go_loopw [1, 2] (fun nv cv wr => ∃ c : Nat, c ≤ 10 ∧ cv = .int .i8 c ∧ nv = .int .i64 (sumUp c) ∧ Hid (Below w.heap.size w wr)) (fun _ v _ => 10 - (intOf v).toNat)
  case atStart => exact ⟨0, by omega, rfl, rfl, Below.refl _ _⟩
  case round =>
    obtain ⟨c, hc, rfl, rfl, HB⟩ := hrel
    have hb := up_bound hc
    have hsz := HB.out.size
    by_cases hlt : c < 10
    · have HR := run.hid (fun w' => ranges_any c (by omega) w')
      have HL := run.hid (ranges_len (c : Nat))
      have HS := run.hid (sumUp_succ c)
      have HIN := run.hid (fun p hp => ranges_in c (by simpa using hlt) p hp)
      have HPB := run.hid (fun i => part_bound hlt i)
      generalize rangesT (c : Nat) = l at *
      generalize hSC : sumUp c = SC at *
      go_wp2_with fail
      refine (HR.out _).mono ?_
      rintro e w3 ⟨v, rfl, hown, hb3⟩
      have HO := run.hid hown
      have HB3 := run.hid (HB.out.trans (hb3.mono hsz))
      clear hown hb3 HB
      obtain ⟨a, cp, rfl⟩ := run.own_value HO.out
      obtain ⟨n, hn⟩ : ∃ n, n = l.length := ⟨_, rfl⟩
      rw [← hn] at HO HL ⊢
      have HN := run.hid hn
      have hn85 : n ≤ 85 := HL.out
      clear hn HR
      generalize wr = w4 at *
      go_wp2
      go_loopw [1, 13] (fun nv iv wr => ∃ i : Nat, i ≤ n ∧ iv = .int .i64 i ∧ nv = .int .i64 (SC + sumT (l.take i)) ∧ Hid (Below w3.heap.size w3 wr)) (fun _ v _ => n - (intOf v).toNat)
      case atStart => exact ⟨0, by omega, rfl, by simp [sumT], Below.refl _ _⟩
      case round =>
        obtain ⟨i, hi, rfl, rfl, HBi⟩ := hrel
        have hp := HPB.out i
        by_cases hlt2 : i < n
        · obtain ⟨g, cq, hv, c1, c2⟩ := row_at HO.out hlt2
          cases hv
          have hgl := (HO.out.lt g rfl).2
          replace c1 := (HBi.out.cell (p := ⟨g, i * 2, none⟩) hgl).trans c1
          replace c2 := (HBi.out.cell (p := ⟨g, i * 2 + 1, none⟩) hgl).trans c2
          have hil : i < l.length := by rw [← HN.out]; exact hlt2
          have HNX := run.hid (sumT_succ hil)
          obtain ⟨b1, b2, b3⟩ := HIN.out (l.getD i (0, 0)) (by simp [List.getD_eq_getElem?_getD, hil])
          clear hil
          generalize l.getD i (0, 0) = p at *
          obtain ⟨p1, p2⟩ := p
          generalize hsq : sumT (l.take i) = sq at *
          simp only at c1 c2 b1 b2 b3
          have hx1 : IntKind.i32.wrap (p2 - p1) = p2 - p1 := IntWalk.i32_in _ (by omega)
          have hx2 : IntKind.i64.wrap (p2 - p1) = p2 - p1 := IntWalk.i64_in _ (by omega)
          have hx3 : IntKind.i64.wrap (p2 - p1 + 1) = p2 - p1 + 1 := IntWalk.i64_in _ (by omega)
          have hx4 : IntKind.i64.wrap (SC + sq + (p2 - p1 + 1)) = SC + sq + (p2 - p1 + 1) := IntWalk.i64_in _ (by omega)
          go_upto_region 9 with fail
          go_quiet (fail)
          have HB5 := run.hid (HBi.out.trans (show Below w3.heap.size wr (wr.drewN nq) from ⟨rfl, rfl, rfl, Nat.le_refl _, fun _ _ => rfl⟩))
          clear hx1 hx2 hx3 hx4 c1 c2 HBi
          go_wp2
          go_roundw
          case rel => exact ⟨i + 1, by omega, by go_num, by rw [HNX.out]; simp only; congr 1; omega, HB5⟩
          case measure => simp [intOf]; omega
        · obtain rfl : i = n := by omega
          have hfull : sumT (l.take i) = sumT l := by rw [HN.out, List.take_length]
          rw [hfull]
          have HB5 := run.hid (HB3.out.trans (HBi.out.mono (by have := HB3.out.size; omega)))
          go_wp2
          go_roundw
          case rel => exact ⟨c + 1, by omega, by go_num, by rw [HS.out], HB5⟩
          case measure => simp [intOf]; omega
    · obtain rfl : c = 10 := by omega
      rw [sum_all]
      go_wp2_with fail
      refine (works_any _).mono ?_
      rintro e w5 ⟨rfl, hb5⟩
      have HB5 := run.hid (HB.out.trans (hb5.mono hsz))
      clear hb5
      go_wp2
      go_ret
      exact ⟨rfl, HB5.out⟩
end Go.Proofs.Ytmgammodbpjnbaa.wid
