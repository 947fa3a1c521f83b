/-
  The walks of the layer utf: the document's first character of a text: its table, a row held against a text, the rows one by one.
-/
import Derived.Test.YtbhhfagifdjmmaaGreatUtfDec
import Derived.Test.YtbhhfagifdjmmaaGreatUtfRefPlain
namespace Go.Proofs.YtbhhfagifdjmmaaGreat.utf
open Go.RowKit Go.Proofs
set_option linter.unusedVariables false

def six (x : Row) : List Value := [.int .i64 x.1, .int .i64 x.2.1, .int .i64 x.2.2.1, .int .i64 x.2.2.2.1, .int .i64 x.2.2.2.2.1, .int .i64 x.2.2.2.2.2]
theorem rows_run (w : World) : Calls Tryz.prog 93 #[] w fun e w' => e = .returned (.slice (some ⟨w.heap.size, 0, none⟩) 9 9) ∧ w' = w.alloc (.cells (rows.flatMap six).toArray 142) := run.calls (by kernel_rfl)

structure HasRow (w : World) (b i : Nat) : Prop where
  c0 : w.cell? ⟨b, i * 6, none⟩ = some (.int .i64 (row i).1)
  c1 : w.cell? ⟨b, i * 6 + 1, none⟩ = some (.int .i64 (row i).2.1)
  c2 : w.cell? ⟨b, i * 6 + 2, none⟩ = some (.int .i64 (row i).2.2.1)
  c3 : w.cell? ⟨b, i * 6 + 3, none⟩ = some (.int .i64 (row i).2.2.2.1)
  c4 : w.cell? ⟨b, i * 6 + 4, none⟩ = some (.int .i64 (row i).2.2.2.2.1)
  c5 : w.cell? ⟨b, i * 6 + 5, none⟩ = some (.int .i64 (row i).2.2.2.2.2)
def HasRows (w : World) (b : Nat) : Prop := ∀ i, i < 9 → HasRow w b i

theorem hasRows_new (w : World) : HasRows (w.alloc (.cells (rows.flatMap six).toArray 142)) w.heap.size := by
  intro i hi
  have hh := run.heap_new w (.cells (rows.flatMap six).toArray 142)
  have key : ∀ j, j < 54 → (w.alloc (.cells (rows.flatMap six).toArray 142)).cell? ⟨w.heap.size, j, none⟩ = (rows.flatMap six).toArray[j]? := by
    intro j _; simp only [World.cell?]; rw [hh]; rfl
  match i, hi with
  | 0, _ | 1, _ | 2, _ | 3, _ | 4, _ | 5, _ | 6, _ | 7, _ | 8, _ =>
    constructor <;> (rw [key _ (by omega)]; rfl)
theorem HasRows.below {w w' : World} {b B : Nat} (h : HasRows w b) (hb : Below B w w') (hlt : b < B) : HasRows w' b := by
  intro i hi
  have h := h i hi
  exact ⟨(hb.cell (p := ⟨b, _, none⟩) hlt).trans h.c0, (hb.cell (p := ⟨b, _, none⟩) hlt).trans h.c1, (hb.cell (p := ⟨b, _, none⟩) hlt).trans h.c2, (hb.cell (p := ⟨b, _, none⟩) hlt).trans h.c3, (hb.cell (p := ⟨b, _, none⟩) hlt).trans h.c4, (hb.cell (p := ⟨b, _, none⟩) hlt).trans h.c5⟩
theorem rows_any (w : World) : Calls Tryz.prog 93 #[] w fun e w' => e = .returned (.slice (some ⟨w.heap.size, 0, none⟩) 9 9) ∧ HasRows w' w.heap.size ∧ w.heap.size < w'.heap.size ∧ Below w.heap.size w w' :=
  (rows_run w).mono fun _ _ ⟨he, hw⟩ => ⟨he, hw ▸ hasRows_new w, by rw [hw]; simp, by rw [hw]; exact run.below_one _ _⟩

theorem i64_eq {a b : Nat} (h : a = b) : Value.int .i64 a = Value.int .i64 b := by rw [h]
theorem fits_below {b : Nat} {t : List Nat} {x : Row} (h : b < x.1) : fits (b :: t) x = 0 := by simp only [fits]; rw [if_pos (.inl h)]
theorem fits_above {b : Nat} {t : List Nat} {x : Row} (h : x.2.1 < b) : fits (b :: t) x = 0 := by simp only [fits]; rw [if_pos (.inr h)]
theorem fits_in {b : Nat} {t : List Nat} {x : Row} (h1 : x.1 ≤ b) (h2 : b ≤ x.2.1) : fits (b :: t) x = 1 + fit (x.2.2.1 - 1) x.2.2.2.1 x.2.2.2.2.1 t := by simp only [fits]; rw [if_neg (by omega)]
theorem fit_bad {c lo hi : Nat} (k : Nat) (u : List Nat) (h : c < lo ∨ hi < c) : fit (k + 1) lo hi (c :: u) = 0 := by simp only [fit]; rw [if_pos h]
theorem fit_good {c lo hi : Nat} (k : Nat) (u : List Nat) (h : ¬ (c < lo ∨ hi < c)) : fit (k + 1) lo hi (c :: u) = 1 + fit k 0x80 0xBF u := by simp only [fit]; rw [if_neg h]
def RowFits (x : Row) : Prop := x.1 < 256 ∧ x.2.1 < 256 ∧ 1 ≤ x.2.2.1 ∧ x.2.2.1 ≤ 4 ∧ x.2.2.2.1 < 256 ∧ x.2.2.2.2.1 < 256 ∧ x.2.2.2.2.2 < 256

/-- the bounds of the byte at k -/
def loAt (k lo2 : Nat) : Nat := if k = 1 then lo2 else 0x80
def hiAt (k hi2 : Nat) : Nat := if k = 1 then hi2 else 0xBF

theorem six_box (w : World) (x : Row) (t : TypeId) : (w.alloc (.cells (six x).toArray t)).cell? ⟨w.heap.size, 0, none⟩ = some (.int .i64 x.1) ∧ (w.alloc (.cells (six x).toArray t)).cell? ⟨w.heap.size, 1, none⟩ = some (.int .i64 x.2.1) ∧
    (w.alloc (.cells (six x).toArray t)).cell? ⟨w.heap.size, 2, none⟩ = some (.int .i64 x.2.2.1) ∧ (w.alloc (.cells (six x).toArray t)).cell? ⟨w.heap.size, 3, none⟩ = some (.int .i64 x.2.2.2.1) ∧
    (w.alloc (.cells (six x).toArray t)).cell? ⟨w.heap.size, 4, none⟩ = some (.int .i64 x.2.2.2.2.1) ∧ (w.alloc (.cells (six x).toArray t)).cell? ⟨w.heap.size, 5, none⟩ = some (.int .i64 x.2.2.2.2.2) := by
  have hh := run.heap_new w (.cells (six x).toArray t)
  refine ⟨?_, ?_, ?_, ?_, ?_, ?_⟩ <;> (simp only [World.cell?]; rw [hh]; rfl)

set_option maxHeartbeats 2000000 in
theorem fits_any (s : ByteArray) (lo hi n lo2 hi2 off : Nat) (w : World) (hs : s.size < 4611686018427387904) (hx : RowFits (lo, hi, n, lo2, hi2, off)) :
    Calls Tryz.prog 94 #[.string s, .agg #[.int .i64 lo, .int .i64 hi, .int .i64 n, .int .i64 lo2, .int .i64 hi2, .int .i64 off]] w fun e w' => e = .returned (.int .i64 (fits (bs s) (lo, hi, n, lo2, hi2, off))) ∧ Below w.heap.size w w' := by
  obtain ⟨x1, x2, x3, x4, x5, x6, x7⟩ := hx
  simp only at x1 x2 x3 x4 x5 x6 x7
  obtain ⟨k0, k1, k2, k3, k4, k5⟩ := six_box w (lo, hi, n, lo2, hi2, off) 142
  have bel := run.below_one w (Obj.cells (six (lo, hi, n, lo2, hi2, off)).toArray 142)
  have hsz := run.size_one w (Obj.cells (six (lo, hi, n, lo2, hi2, off)).toArray 142)
  simp only [six] at k0 k1 k2 k3 k4 k5 bel hsz
  by_cases h0 : s.size = 0
  · have hn := run.hid (show fits (bs s) (lo, hi, n, lo2, hi2, off) = 0 by rw [List.length_eq_zero_iff.1 (show (bs s).length = 0 by rw [bs_length]; exact h0)]; rfl)
    have hd : ((s.size : Int) == 0) = true := by simp [h0]
    go_enter Tryz.func94, Tryz.ntmps94
    go_wp2
    generalize (w.alloc (Obj.cells #[Value.int IntKind.i64 ↑lo, Value.int IntKind.i64 ↑hi, Value.int IntKind.i64 ↑n, Value.int IntKind.i64 ↑lo2, Value.int IntKind.i64 ↑hi2, Value.int IntKind.i64 ↑off] 142)) = W at *
    go_quiet (fail)
    go_wp2
    go_ret
    exact ⟨ret_eq (i64_eq hn.out.symm), below_drewN bel _⟩
  have hd : ((s.size : Int) == 0) = false := by simp [h0]
  have hpos : 0 < s.size := by omega
  obtain ⟨b, t, hbt, hst⟩ := bs_cons hpos
  have hb : b < 256 := bs_byte s b (by rw [hbt]; simp)
  have hg0 : (s[0]'hpos).toNat = b := by rw [← bs_get s 0 hpos, hbt]; rfl
  have HBT := run.hid hbt
  have HST := run.hid hst
  clear hst
  rw [hbt]
  clear hbt
  by_cases h1 : b < lo
  · have hn := run.hid (fits_below (t := t) (x := (lo, hi, n, lo2, hi2, off)) h1)
    go_enter Tryz.func94, Tryz.ntmps94
    go_wp2
    generalize (w.alloc (Obj.cells #[Value.int IntKind.i64 ↑lo, Value.int IntKind.i64 ↑hi, Value.int IntKind.i64 ↑n, Value.int IntKind.i64 ↑lo2, Value.int IntKind.i64 ↑hi2, Value.int IntKind.i64 ↑off] 142)) = W at *
    go_quiet (fail)
    go_wp2
    go_ret
    exact ⟨ret_eq (i64_eq hn.out.symm), below_drewN bel _⟩
  by_cases h2 : hi < b
  · have hn := run.hid (fits_above (t := t) (x := (lo, hi, n, lo2, hi2, off)) h2)
    go_enter Tryz.func94, Tryz.ntmps94
    go_wp2
    generalize (w.alloc (Obj.cells #[Value.int IntKind.i64 ↑lo, Value.int IntKind.i64 ↑hi, Value.int IntKind.i64 ↑n, Value.int IntKind.i64 ↑lo2, Value.int IntKind.i64 ↑hi2, Value.int IntKind.i64 ↑off] 142)) = W at *
    go_quiet (fail)
    go_wp2
    go_ret
    exact ⟨ret_eq (i64_eq hn.out.symm), below_drewN bel _⟩
  have hn := run.hid (fits_in (t := t) (x := (lo, hi, n, lo2, hi2, off)) (b := b) (by simp only; omega) (by simp only; omega))
  go_enter Tryz.func94, Tryz.ntmps94
  go_wp2
  generalize (w.alloc (Obj.cells #[Value.int IntKind.i64 ↑lo, Value.int IntKind.i64 ↑hi, Value.int IntKind.i64 ↑n, Value.int IntKind.i64 ↑lo2, Value.int IntKind.i64 ↑hi2, Value.int IntKind.i64 ↑off] 142)) = W at *
  go_quiet (fail)
  go_wp2
  go_loopw [5] (fun vk wr => ∃ k m : Nat, ∃ u : List Nat, k + m ≤ n ∧ n ≤ k + m ∧ 1 ≤ k ∧ k ≤ s.size ∧ vk = .int .i64 k ∧ Below (w.heap.size + 1) W wr ∧ Hid (u = (bs s).drop k) ∧ Hid (fits (b :: t) (lo, hi, n, lo2, hi2, off) = k + fit m (loAt k lo2) (hiAt k hi2) u)) (fun k _ => (4 - intOf k).toNat)
  case atStart => exact ⟨1, n - 1, t, by omega, by omega, by omega, by omega, rfl, below_drewN (Below.refl _ _) _, run.hid (by rw [HBT.out]; rfl), run.hid (hn.out.trans (by simp [loAt, hiAt]))⟩
  case round =>
    clear hn hg0 hd
    obtain ⟨k, m, u, hk1, hk2, hk3, hk4, rfl, hbel, HU, HN⟩ := hrel
    have bel2 := bel.trans (hbel.mono (by omega))
    have j2 := (hbel.cell (p := ⟨w.heap.size, 2, none⟩) (by show w.heap.size < _; omega)).trans k2
    have j3 := (hbel.cell (p := ⟨w.heap.size, 3, none⟩) (by show w.heap.size < _; omega)).trans k3
    have j4 := (hbel.cell (p := ⟨w.heap.size, 4, none⟩) (by show w.heap.size < _; omega)).trans k4
    clear k0 k1 k2 k3 k4 k5
    match m with
    | 0 =>
      have hkn : k = n := by omega
      have hd4 : decide ((k : Int) < (n : Int)) = false := by simp; omega
      go_wp2
      go_ret
      exact ⟨ret_eq (i64_eq HN.out.symm), bel2⟩
    | m + 1 =>
      have hd4 : decide ((k : Int) < (n : Int)) = true := by simp; omega
      match u with
      | [] =>
        have hlen0 : s.size ≤ k := by have := drop_nil HU.out; rw [bs_length] at this; exact this
        have hd5 : decide ((k : Int) < (s.size : Int)) = false := by simp; omega
        go_wp2
        go_ret
        exact ⟨ret_eq (i64_eq HN.out.symm), bel2⟩
      | c :: u =>
        have hc := drop_cons HU.out
        have hks : k < s.size := by have := hc.1; rw [bs_length] at this; exact this
        have hcb : c < 256 := bs_byte s c (by rw [← hc.2.1]; exact getD_mem hc.1)
        have hgk : (s[k]'hks).toNat = c := by rw [← bs_get s k hks]; exact hc.2.1
        have HU2 := run.hid hc.2.2
        have hd5 : decide ((k : Int) < (s.size : Int)) = true := by simp; omega
        clear hc
        by_cases hk : k = 1
        · subst hk
          have HN2 := run.hid (HN.out.trans (show 1 + fit (m + 1) (loAt 1 lo2) (hiAt 1 hi2) (c :: u) = 1 + fit (m + 1) lo2 hi2 (c :: u) from rfl))
          clear HN
          by_cases hbad1 : c < lo2
          · have HN3 := run.hid (HN2.out.trans (congrArg (1 + ·) (fit_bad m u (.inl hbad1))))
            go_wp2
            go_quiet (fail)
            go_wp2
            go_ret
            exact ⟨ret_eq (i64_eq HN3.out.symm), below_drewN bel2 _⟩
          · by_cases hbad2 : hi2 < c
            · have HN3 := run.hid (HN2.out.trans (congrArg (1 + ·) (fit_bad m u (.inr hbad2))))
              go_wp2
              go_quiet (fail)
              go_wp2
              go_ret
              exact ⟨ret_eq (i64_eq HN3.out.symm), below_drewN bel2 _⟩
            · have HN3 := run.hid (HN2.out.trans (congrArg (1 + ·) (fit_good m u (by omega))))
              go_wp2
              go_quiet (fail)
              go_wp2
              go_roundw
              case rel => exact ⟨2, m, u, by omega, by omega, by omega, by omega, rfl, below_drewN hbel _, HU2, run.hid (HN3.out.trans (by simp [loAt, hiAt]; omega))⟩
              case measure => simp [intOf]
        · have hl : loAt k lo2 = 0x80 := by simp [loAt, hk]
          have hh : hiAt k hi2 = 0xBF := by simp [hiAt, hk]
          rw [hl, hh] at HN
          clear hl hh
          have hd6 : ((k : Int) == 1) = false := by simp; omega
          by_cases hbad : c < 0x80 ∨ 0xBF < c
          · have HN3 := run.hid (HN.out.trans (congrArg (k + ·) (fit_bad m u hbad)))
            rcases hbad with hb1 | hb1
            all_goals
              go_wp2
              go_ret
              exact ⟨ret_eq (i64_eq HN3.out.symm), bel2⟩
          · have HN3 := run.hid (HN.out.trans (congrArg (k + ·) (fit_good m u hbad)))
            obtain ⟨hb1, hb2⟩ : 0x80 ≤ c ∧ c ≤ 0xBF := by omega
            go_wp2
            go_roundw
            case rel => exact ⟨k + 1, m, u, by omega, by omega, by omega, by omega, by go_num, hbel, HU2, run.hid (HN3.out.trans (by have e1 : loAt (k + 1) lo2 = 0x80 := by simp [loAt]; omega
                                                                                                                                     have e2 : hiAt (k + 1) hi2 = 0xBF := by simp [hiAt]; omega
                                                                                                                                     rw [e1, e2]; omega))⟩
            case measure => simp [intOf]; omega
end Go.Proofs.YtbhhfagifdjmmaaGreat.utf
