/-
  Plain facts on the document's table of characters, row by row. No program in sight.
  The walks of the layer utf: the document's first character of a text: its table, a row held against a text, the rows one by one.
  The walk of the layer utf: the document's first character of a text.
  The walks of the layer utf: the document's bytes of a number, of numbers; its characters; its clean text; two lists held against each other.
-/
import Derived.Test.YtdgcfmfjgidbjaaGreatUtfAll
import Derived.Lib.AppendStr
section
namespace Go.Proofs.YtdgcfmfjgidbjaaGreat.utf

/-- a row: lo, hi, n, lo2, hi2, off -/
abbrev Row := Nat × Nat × Nat × Nat × Nat × Nat
def rows : List Row := [(0x00, 0x7f, 1, 0, 0, 0), (0xc2, 0xdf, 2, 0x80, 0xbf, 0xc0), (0xe0, 0xe0, 3, 0xa0, 0xbf, 0xe0), (0xe1, 0xec, 3, 0x80, 0xbf, 0xe0), (0xee, 0xef, 3, 0x80, 0xbf, 0xe0),
  (0xed, 0xed, 3, 0x80, 0x9f, 0xe0), (0xf0, 0xf0, 4, 0x90, 0xbf, 0xf0), (0xf1, 0xf3, 4, 0x80, 0xbf, 0xf0), (0xf4, 0xf4, 4, 0x80, 0x8f, 0xf0)]
def row (i : Nat) : Row := rows.getD i (0, 0, 0, 0, 0, 0)

/-- how many of k further bytes fit -/
def fit : Nat → Nat → Nat → List Nat → Nat
  | 0, _, _, _ => 0
  | _ + 1, _, _, [] => 0
  | k + 1, lo, hi, c :: t => if c < lo ∨ hi < c then 0 else 1 + fit k 0x80 0xBF t
def fits (l : List Nat) (x : Row) : Nat := match l with | [] => 0 | b :: t => if b < x.1 ∨ x.2.1 < b then 0 else 1 + fit (x.2.2.1 - 1) x.2.2.2.1 x.2.2.2.2.1 t
def vals : Nat → List Nat → Nat
  | r, [] => r
  | r, c :: t => vals (r * 64 + c % 64) t

theorem fit_le : ∀ k lo hi t, fit k lo hi t ≤ k ∧ fit k lo hi t ≤ t.length
  | 0, _, _, _ => by simp [fit]
  | k + 1, _, _, [] => by simp [fit]
  | k + 1, lo, hi, c :: t => by
    have := fit_le k 0x80 0xBF t
    simp only [fit, List.length_cons]
    split <;> omega

theorem cont_fit : ∀ k r i lo hi t, (cont k r i lo hi t).2.1 = i + fit k lo hi t ∧ (fit k lo hi t < k → (cont k r i lo hi t).1 = 0xfffd) ∧ (fit k lo hi t = k → (cont k r i lo hi t).1 = vals r (t.take k))
  | 0, r, i, _, _, t => by simp [cont, fit, vals]
  | k + 1, r, i, _, _, [] => by simp [cont, fit]
  | k + 1, r, i, lo, hi, c :: t => by
    have ih := cont_fit k (r * 64 + c % 64) (i + 1) 0x80 0xBF t
    simp only [cont, fit, List.take_succ_cons, vals]
    split
    · simp
    · refine ⟨by rw [ih.1]; omega, fun h => ih.2.1 (by omega), fun h => ih.2.2 (by omega)⟩

theorem fit_range : ∀ k lo hi t, fit k lo hi t = k → 0x80 ≤ lo → hi ≤ 0xBF → ∀ j, j < k → 0x80 ≤ t.getD j 0 ∧ t.getD j 0 ≤ 0xBF
  | 0, _, _, _, _, _, _, j, hj => by omega
  | k + 1, _, _, [], h, _, _, _, _ => by simp [fit] at h
  | k + 1, lo, hi, c :: t, h, hl, hh, j, hj => by
    simp only [fit] at h
    split at h
    · omega
    · cases j with
      | zero => simp; omega
      | succ j => simpa using fit_range k 0x80 0xBF t (by omega) (by omega) (by omega) j (by omega)

theorem vals_snoc : ∀ r t c, vals r (t ++ [c]) = vals r t * 64 + c % 64
  | r, [], c => rfl
  | r, d :: t, c => by simp only [List.cons_append, vals]; exact vals_snoc _ t c
theorem vals_take (r : Nat) (t : List Nat) (j : Nat) (h : j < t.length) : vals r (t.take (j + 1)) = vals r (t.take j) * 64 + t.getD j 0 % 64 := by
  rw [List.take_succ_eq_append_getElem h, vals_snoc]; simp [List.getD_eq_getElem?_getD, h]
theorem vals_bound (r : Nat) (t : List Nat) (j : Nat) (hj : j ≤ 3) (hr : r < 256) : vals r (t.take j) < 67108864 := by
  have h1 : ∀ c : Nat, c % 64 < 64 := fun c => Nat.mod_lt _ (by omega)
  match j, t with
  | 0, _ => simp [vals]; omega
  | 1, [] | 2, [] | 3, [] => simp [vals]; omega
  | 1, a :: t => simp [vals]; have := h1 a; omega
  | 2, [a] | 3, [a] => simp [vals]; have := h1 a; omega
  | 2, a :: b :: t => simp [vals]; have := h1 a; have := h1 b; omega
  | 3, [a, b] => simp [vals]; have := h1 a; have := h1 b; omega
  | 3, a :: b :: c :: t => simp [vals]; have := h1 a; have := h1 b; have := h1 c; omega

/-- WHAT A ROW SAYS OF A FIRST BYTE -/
theorem row_lead (i b : Nat) (hi : i < 9) (h1 : (row i).1 ≤ b) (h2 : b ≤ (row i).2.1) :
    lead b = ((row i).2.2.1, (row i).2.2.2.1, (row i).2.2.2.2.1) ∧ (row i).2.2.2.2.2 ≤ b ∧ 1 ≤ (row i).2.2.1 ∧ (row i).2.2.1 ≤ 4 ∧
    ((row i).2.2.1 = 1 → b - (row i).2.2.2.2.2 = b) ∧ ((row i).2.2.1 ≠ 1 → b - (row i).2.2.2.2.2 = low (row i).2.2.1 b ∧ 0x80 ≤ (row i).2.2.2.1 ∧ (row i).2.2.2.2.1 ≤ 0xBF) := by
  match i, hi with
  | 0, _ | 1, _ | 2, _ | 3, _ | 4, _ | 5, _ | 6, _ | 7, _ | 8, _ =>
    simp only [row, rows, List.getD_cons_zero, List.getD_cons_succ] at h1 h2 ⊢
    refine ⟨?_, by omega, by omega, by omega, by omega, fun _ => ?_⟩
    · rcases lead_cases b with h | h | h | h | h | h | h | h | h
      all_goals first
        | exact h.1
        | (exfalso; have := h.2; omega)
    · simp [low]; try omega

theorem no_row (b : Nat) (h : ∀ i, i < 9 → ¬ ((row i).1 ≤ b ∧ b ≤ (row i).2.1)) : (lead b).1 = 0 := by
  have h0 := h 0 (by omega); have h1 := h 1 (by omega); have h2 := h 2 (by omega); have h3 := h 3 (by omega); have h4 := h 4 (by omega)
  have h5 := h 5 (by omega); have h6 := h 6 (by omega); have h7 := h 7 (by omega); have h8 := h 8 (by omega)
  simp only [row, rows, List.getD_cons_zero, List.getD_cons_succ] at h0 h1 h2 h3 h4 h5 h6 h7 h8
  rcases lead_cases b with h | h | h | h | h | h | h | h | h
  all_goals first
    | (exfalso; have := h.2; omega)
    | (rw [h.1])

theorem fits_zero {l : List Nat} {x : Row} (h : fits l x = 0) {b : Nat} {t : List Nat} (hl : l = b :: t) : ¬ (x.1 ≤ b ∧ b ≤ x.2.1) := by
  subst hl
  simp only [fits] at h
  split at h
  · omega
  · omega
theorem fits_pos {x : Row} {b : Nat} {t : List Nat} (h : fits (b :: t) x ≠ 0) : x.1 ≤ b ∧ b ≤ x.2.1 ∧ fits (b :: t) x = 1 + fit (x.2.2.1 - 1) x.2.2.2.1 x.2.2.2.2.1 t := by
  simp only [fits] at h ⊢
  split at h
  · omega
  · rename_i hh; rw [if_neg hh]; omega

/-- A ROW THAT FITS, but not to its end. -/
theorem first_part {i b : Nat} {t : List Nat} (hi : i < 9) (h0 : fits (b :: t) (row i) ≠ 0) (h : fits (b :: t) (row i) < (row i).2.2.1) :
    (first (b :: t)).1 = 0xfffd ∧ (first (b :: t)).2.1 = fits (b :: t) (row i) := by
  obtain ⟨h1, h2, h3⟩ := fits_pos h0
  obtain ⟨e, _, hn1, hn4, _, _⟩ := row_lead i b hi h1 h2
  rw [h3] at h ⊢
  simp only [first, e]
  rw [if_neg (by omega), if_neg (by omega)]
  have := cont_fit ((row i).2.2.1 - 1) (low (row i).2.2.1 b) 1 (row i).2.2.2.1 (row i).2.2.2.2.1 t
  exact ⟨this.2.1 (by omega), this.1⟩
/-- A ROW THAT FITS to its end. -/
theorem first_whole {i b : Nat} {t : List Nat} (hi : i < 9) (h0 : fits (b :: t) (row i) ≠ 0) (h : ¬ fits (b :: t) (row i) < (row i).2.2.1) :
    (first (b :: t)).1 = vals (b - (row i).2.2.2.2.2) (t.take (fits (b :: t) (row i) - 1)) ∧ (first (b :: t)).2.1 = fits (b :: t) (row i) ∧ (row i).2.2.2.2.2 ≤ b ∧ 1 ≤ fits (b :: t) (row i) ∧ fits (b :: t) (row i) ≤ 4 ∧
    fits (b :: t) (row i) ≤ t.length + 1 ∧ ∀ j, j < fits (b :: t) (row i) - 1 → 0x80 ≤ t.getD j 0 ∧ t.getD j 0 ≤ 0xBF := by
  obtain ⟨h1, h2, h3⟩ := fits_pos h0
  obtain ⟨e, ho, hn1, hn4, e1, e2⟩ := row_lead i b hi h1 h2
  have hle := fit_le ((row i).2.2.1 - 1) (row i).2.2.2.1 (row i).2.2.2.2.1 t
  have hfull : fit ((row i).2.2.1 - 1) (row i).2.2.2.1 (row i).2.2.2.2.1 t = (row i).2.2.1 - 1 := by omega
  rw [h3, hfull]
  have hk : 1 + ((row i).2.2.1 - 1) - 1 = (row i).2.2.1 - 1 := by omega
  rw [hk]
  have := cont_fit ((row i).2.2.1 - 1) (low (row i).2.2.1 b) 1 (row i).2.2.2.1 (row i).2.2.2.2.1 t
  by_cases hn : (row i).2.2.1 = 1
  · rw [e1 hn]
    simp only [first, e, hn]
    simp [vals]; omega
  · obtain ⟨e3, e4, e5⟩ := e2 hn
    rw [e3]
    simp only [first, e]
    rw [if_neg (by omega), if_neg (by omega)]
    refine ⟨this.2.2 hfull, by rw [this.1, hfull], ho, by omega, by omega, by omega, ?_⟩
    exact fit_range _ _ _ _ hfull e4 e5
theorem first_none {b : Nat} {t : List Nat} (h : ∀ i, i < 9 → ¬ ((row i).1 ≤ b ∧ b ≤ (row i).2.1)) : first (b :: t) = (0xfffd, 1, false) := by
  simp only [first]; rw [if_pos (no_row b h)]
theorem none_start (b : Nat) : ∀ i, i < 0 → ¬ ((row i).1 ≤ b ∧ b ≤ (row i).2.1) := by intro i hi; omega
theorem none_next {b k : Nat} (h : ∀ i, i < k → ¬ ((row i).1 ≤ b ∧ b ≤ (row i).2.1)) (hk : ¬ ((row k).1 ≤ b ∧ b ≤ (row k).2.1)) : ∀ i, i < k + 1 → ¬ ((row i).1 ≤ b ∧ b ≤ (row i).2.1) := by
  intro i hi
  by_cases e : i = k
  · subst e; exact hk
  · exact h i (by omega)

end Go.Proofs.YtdgcfmfjgidbjaaGreat.utf
end
section
namespace Go.Proofs.YtdgcfmfjgidbjaaGreat.utf
open Go.RowKit Go.Proofs
set_option linter.unusedVariables false

def six (x : Row) : List Value := [.int .i64 x.1, .int .i64 x.2.1, .int .i64 x.2.2.1, .int .i64 x.2.2.2.1, .int .i64 x.2.2.2.2.1, .int .i64 x.2.2.2.2.2]
theorem rows_run (w : World) : Calls Tryz.prog 110 #[] w fun e w' => e = .returned (.slice (some ⟨w.heap.size, 0, none⟩) 9 9) ∧ w' = w.alloc (.cells (rows.flatMap six).toArray 165) := run.calls (by kernel_rfl)

structure HasRow (w : World) (b i : Nat) : Prop where
  c0 : w.cell? ⟨b, i * 6, none⟩ = some (.int .i64 (row i).1)
  c1 : w.cell? ⟨b, i * 6 + 1, none⟩ = some (.int .i64 (row i).2.1)
  c2 : w.cell? ⟨b, i * 6 + 2, none⟩ = some (.int .i64 (row i).2.2.1)
  c3 : w.cell? ⟨b, i * 6 + 3, none⟩ = some (.int .i64 (row i).2.2.2.1)
  c4 : w.cell? ⟨b, i * 6 + 4, none⟩ = some (.int .i64 (row i).2.2.2.2.1)
  c5 : w.cell? ⟨b, i * 6 + 5, none⟩ = some (.int .i64 (row i).2.2.2.2.2)
def HasRows (w : World) (b : Nat) : Prop := ∀ i, i < 9 → HasRow w b i

theorem hasRows_new (w : World) : HasRows (w.alloc (.cells (rows.flatMap six).toArray 165)) w.heap.size := by
  intro i hi
  have hh := run.heap_new w (.cells (rows.flatMap six).toArray 165)
  have key : ∀ j, j < 54 → (w.alloc (.cells (rows.flatMap six).toArray 165)).cell? ⟨w.heap.size, j, none⟩ = (rows.flatMap six).toArray[j]? := by
    intro j _; simp only [World.cell?]; rw [hh]; rfl
  match i, hi with
  | 0, _ | 1, _ | 2, _ | 3, _ | 4, _ | 5, _ | 6, _ | 7, _ | 8, _ =>
    constructor <;> (rw [key _ (by omega)]; rfl)
theorem HasRows.below {w w' : World} {b B : Nat} (h : HasRows w b) (hb : Below B w w') (hlt : b < B) : HasRows w' b := by
  intro i hi
  have h := h i hi
  exact ⟨(hb.cell (p := ⟨b, _, none⟩) hlt).trans h.c0, (hb.cell (p := ⟨b, _, none⟩) hlt).trans h.c1, (hb.cell (p := ⟨b, _, none⟩) hlt).trans h.c2, (hb.cell (p := ⟨b, _, none⟩) hlt).trans h.c3, (hb.cell (p := ⟨b, _, none⟩) hlt).trans h.c4, (hb.cell (p := ⟨b, _, none⟩) hlt).trans h.c5⟩
theorem rows_any (w : World) : Calls Tryz.prog 110 #[] w fun e w' => e = .returned (.slice (some ⟨w.heap.size, 0, none⟩) 9 9) ∧ HasRows w' w.heap.size ∧ w.heap.size < w'.heap.size ∧ Below w.heap.size w w' :=
  (rows_run w).mono fun _ _ ⟨he, hw⟩ => ⟨he, hw ▸ hasRows_new w, by rw [hw]; simp, by rw [hw]; exact run.below_one _ _⟩

theorem i64_eq {a b : Nat} (h : a = b) : Value.int .i64 a = Value.int .i64 b := by rw [h]
theorem fits_below {b : Nat} {t : List Nat} {x : Row} (h : b < x.1) : fits (b :: t) x = 0 := by simp only [fits]; rw [if_pos (.inl h)]
theorem fits_above {b : Nat} {t : List Nat} {x : Row} (h : x.2.1 < b) : fits (b :: t) x = 0 := by simp only [fits]; rw [if_pos (.inr h)]
theorem fits_in {b : Nat} {t : List Nat} {x : Row} (h1 : x.1 ≤ b) (h2 : b ≤ x.2.1) : fits (b :: t) x = 1 + fit (x.2.2.1 - 1) x.2.2.2.1 x.2.2.2.2.1 t := by simp only [fits]; rw [if_neg (by omega)]
theorem fit_bad {c lo hi : Nat} (k : Nat) (u : List Nat) (h : c < lo ∨ hi < c) : fit (k + 1) lo hi (c :: u) = 0 := by simp only [fit]; rw [if_pos h]
theorem fit_good {c lo hi : Nat} (k : Nat) (u : List Nat) (h : ¬ (c < lo ∨ hi < c)) : fit (k + 1) lo hi (c :: u) = 1 + fit k 0x80 0xBF u := by simp only [fit]; rw [if_neg h]
def RowFits (x : Row) : Prop := x.1 < 256 ∧ x.2.1 < 256 ∧ 1 ≤ x.2.2.1 ∧ x.2.2.1 ≤ 4 ∧ x.2.2.2.1 < 256 ∧ x.2.2.2.2.1 < 256 ∧ x.2.2.2.2.2 < 256

/-- the bounds of the byte at k -/
def loAt (k lo2 : Nat) : Nat := if k = 1 then lo2 else 0x80
def hiAt (k hi2 : Nat) : Nat := if k = 1 then hi2 else 0xBF

theorem six_box (w : World) (x : Row) (t : TypeId) : (w.alloc (.cells (six x).toArray t)).cell? ⟨w.heap.size, 0, none⟩ = some (.int .i64 x.1) ∧ (w.alloc (.cells (six x).toArray t)).cell? ⟨w.heap.size, 1, none⟩ = some (.int .i64 x.2.1) ∧
    (w.alloc (.cells (six x).toArray t)).cell? ⟨w.heap.size, 2, none⟩ = some (.int .i64 x.2.2.1) ∧ (w.alloc (.cells (six x).toArray t)).cell? ⟨w.heap.size, 3, none⟩ = some (.int .i64 x.2.2.2.1) ∧
    (w.alloc (.cells (six x).toArray t)).cell? ⟨w.heap.size, 4, none⟩ = some (.int .i64 x.2.2.2.2.1) ∧ (w.alloc (.cells (six x).toArray t)).cell? ⟨w.heap.size, 5, none⟩ = some (.int .i64 x.2.2.2.2.2) := by
  have hh := run.heap_new w (.cells (six x).toArray t)
  refine ⟨?_, ?_, ?_, ?_, ?_, ?_⟩ <;> (simp only [World.cell?]; rw [hh]; rfl)

set_option maxHeartbeats 2000000 in
theorem fits_any (s : ByteArray) (lo hi n lo2 hi2 off : Nat) (w : World) (hs : s.size < 4611686018427387904) (hx : RowFits (lo, hi, n, lo2, hi2, off)) :
    Calls Tryz.prog 111 #[.string s, .agg #[.int .i64 lo, .int .i64 hi, .int .i64 n, .int .i64 lo2, .int .i64 hi2, .int .i64 off]] w fun e w' => e = .returned (.int .i64 (fits (bs s) (lo, hi, n, lo2, hi2, off))) ∧ Below w.heap.size w w' := by
  obtain ⟨x1, x2, x3, x4, x5, x6, x7⟩ := hx
  simp only at x1 x2 x3 x4 x5 x6 x7
  obtain ⟨k0, k1, k2, k3, k4, k5⟩ := six_box w (lo, hi, n, lo2, hi2, off) 165
  have bel := run.below_one w (Obj.cells (six (lo, hi, n, lo2, hi2, off)).toArray 165)
  have hsz := run.size_one w (Obj.cells (six (lo, hi, n, lo2, hi2, off)).toArray 165)
  simp only [six] at k0 k1 k2 k3 k4 k5 bel hsz
  by_cases h0 : s.size = 0
  · have hn := run.hid (show fits (bs s) (lo, hi, n, lo2, hi2, off) = 0 by rw [List.length_eq_zero_iff.1 (show (bs s).length = 0 by rw [bs_length]; exact h0)]; rfl)
    have hd : ((s.size : Int) == 0) = true := by simp [h0]
    go_enter Tryz.func111, Tryz.ntmps111
    go_wp2
    generalize (w.alloc (Obj.cells #[Value.int IntKind.i64 ↑lo, Value.int IntKind.i64 ↑hi, Value.int IntKind.i64 ↑n, Value.int IntKind.i64 ↑lo2, Value.int IntKind.i64 ↑hi2, Value.int IntKind.i64 ↑off] 165)) = W at *
    go_quiet (fail)
    go_wp2
    go_ret
    exact ⟨ret_eq (i64_eq hn.out.symm), below_drewN bel _⟩
  have hd : ((s.size : Int) == 0) = false := by simp [h0]
  have hpos : 0 < s.size := by omega
  obtain ⟨b, t, hbt, hst⟩ := bs_cons hpos
  have hb : b < 256 := bs_byte s b (by rw [hbt]; simp)
  have hg0 : (s[0]'hpos).toNat = b := by rw [← bs_get s 0 hpos, hbt]; rfl
  have HBT := run.hid hbt
  have HST := run.hid hst
  clear hst
  rw [hbt]
  clear hbt
  by_cases h1 : b < lo
  · have hn := run.hid (fits_below (t := t) (x := (lo, hi, n, lo2, hi2, off)) h1)
    go_enter Tryz.func111, Tryz.ntmps111
    go_wp2
    generalize (w.alloc (Obj.cells #[Value.int IntKind.i64 ↑lo, Value.int IntKind.i64 ↑hi, Value.int IntKind.i64 ↑n, Value.int IntKind.i64 ↑lo2, Value.int IntKind.i64 ↑hi2, Value.int IntKind.i64 ↑off] 165)) = W at *
    go_quiet (fail)
    go_wp2
    go_ret
    exact ⟨ret_eq (i64_eq hn.out.symm), below_drewN bel _⟩
  by_cases h2 : hi < b
  · have hn := run.hid (fits_above (t := t) (x := (lo, hi, n, lo2, hi2, off)) h2)
    go_enter Tryz.func111, Tryz.ntmps111
    go_wp2
    generalize (w.alloc (Obj.cells #[Value.int IntKind.i64 ↑lo, Value.int IntKind.i64 ↑hi, Value.int IntKind.i64 ↑n, Value.int IntKind.i64 ↑lo2, Value.int IntKind.i64 ↑hi2, Value.int IntKind.i64 ↑off] 165)) = W at *
    go_quiet (fail)
    go_wp2
    go_ret
    exact ⟨ret_eq (i64_eq hn.out.symm), below_drewN bel _⟩
  have hn := run.hid (fits_in (t := t) (x := (lo, hi, n, lo2, hi2, off)) (b := b) (by simp only; omega) (by simp only; omega))
  go_enter Tryz.func111, Tryz.ntmps111
  go_wp2
  generalize (w.alloc (Obj.cells #[Value.int IntKind.i64 ↑lo, Value.int IntKind.i64 ↑hi, Value.int IntKind.i64 ↑n, Value.int IntKind.i64 ↑lo2, Value.int IntKind.i64 ↑hi2, Value.int IntKind.i64 ↑off] 165)) = W at *
  go_quiet (fail)
  go_wp2
  go_loopw [5] (fun vk wr => ∃ k m : Nat, ∃ u : List Nat, k + m ≤ n ∧ n ≤ k + m ∧ 1 ≤ k ∧ k ≤ s.size ∧ vk = .int .i64 k ∧ Below (w.heap.size + 1) W wr ∧ Hid (u = (bs s).drop k) ∧ Hid (fits (b :: t) (lo, hi, n, lo2, hi2, off) = k + fit m (loAt k lo2) (hiAt k hi2) u)) (fun k _ => (4 - intOf k).toNat)
  case atStart => exact ⟨1, n - 1, t, by omega, by omega, by omega, by omega, rfl, below_drewN (Below.refl _ _) _, run.hid (by rw [HBT.out]; rfl), run.hid (hn.out.trans (by simp [loAt, hiAt]))⟩
  case round =>
    clear hn hg0 hd
    obtain ⟨k, m, u, hk1, hk2, hk3, hk4, rfl, hbel, HU, HN⟩ := hrel
    have bel2 := bel.trans (hbel.mono (by omega))
    have j2 := (hbel.cell (p := ⟨w.heap.size, 2, none⟩) (by show w.heap.size < _; omega)).trans k2
    have j3 := (hbel.cell (p := ⟨w.heap.size, 3, none⟩) (by show w.heap.size < _; omega)).trans k3
    have j4 := (hbel.cell (p := ⟨w.heap.size, 4, none⟩) (by show w.heap.size < _; omega)).trans k4
    clear k0 k1 k2 k3 k4 k5
    match m with
    | 0 =>
      have hkn : k = n := by omega
      have hd4 : decide ((k : Int) < (n : Int)) = false := by simp; omega
      go_wp2
      go_ret
      exact ⟨ret_eq (i64_eq HN.out.symm), bel2⟩
    | m + 1 =>
      have hd4 : decide ((k : Int) < (n : Int)) = true := by simp; omega
      match u with
      | [] =>
        have hlen0 : s.size ≤ k := by have := drop_nil HU.out; rw [bs_length] at this; exact this
        have hd5 : decide ((k : Int) < (s.size : Int)) = false := by simp; omega
        go_wp2
        go_ret
        exact ⟨ret_eq (i64_eq HN.out.symm), bel2⟩
      | c :: u =>
        have hc := drop_cons HU.out
        have hks : k < s.size := by have := hc.1; rw [bs_length] at this; exact this
        have hcb : c < 256 := bs_byte s c (by rw [← hc.2.1]; exact getD_mem hc.1)
        have hgk : (s[k]'hks).toNat = c := by rw [← bs_get s k hks]; exact hc.2.1
        have HU2 := run.hid hc.2.2
        have hd5 : decide ((k : Int) < (s.size : Int)) = true := by simp; omega
        clear hc
        by_cases hk : k = 1
        · subst hk
          have HN2 := run.hid (HN.out.trans (show 1 + fit (m + 1) (loAt 1 lo2) (hiAt 1 hi2) (c :: u) = 1 + fit (m + 1) lo2 hi2 (c :: u) from rfl))
          clear HN
          by_cases hbad1 : c < lo2
          · have HN3 := run.hid (HN2.out.trans (congrArg (1 + ·) (fit_bad m u (.inl hbad1))))
            go_wp2
            go_quiet (fail)
            go_wp2
            go_ret
            exact ⟨ret_eq (i64_eq HN3.out.symm), below_drewN bel2 _⟩
          · by_cases hbad2 : hi2 < c
            · have HN3 := run.hid (HN2.out.trans (congrArg (1 + ·) (fit_bad m u (.inr hbad2))))
              go_wp2
              go_quiet (fail)
              go_wp2
              go_ret
              exact ⟨ret_eq (i64_eq HN3.out.symm), below_drewN bel2 _⟩
            · have HN3 := run.hid (HN2.out.trans (congrArg (1 + ·) (fit_good m u (by omega))))
              go_wp2
              go_quiet (fail)
              go_wp2
              go_roundw
              case rel => exact ⟨2, m, u, by omega, by omega, by omega, by omega, rfl, below_drewN hbel _, HU2, run.hid (HN3.out.trans (by simp [loAt, hiAt]; omega))⟩
              case measure => simp [intOf]
        · have hl : loAt k lo2 = 0x80 := by simp [loAt, hk]
          have hh : hiAt k hi2 = 0xBF := by simp [hiAt, hk]
          rw [hl, hh] at HN
          clear hl hh
          have hd6 : ((k : Int) == 1) = false := by simp; omega
          by_cases hbad : c < 0x80 ∨ 0xBF < c
          · have HN3 := run.hid (HN.out.trans (congrArg (k + ·) (fit_bad m u hbad)))
            rcases hbad with hb1 | hb1
            all_goals
              go_wp2
              go_ret
              exact ⟨ret_eq (i64_eq HN3.out.symm), bel2⟩
          · have HN3 := run.hid (HN.out.trans (congrArg (k + ·) (fit_good m u hbad)))
            obtain ⟨hb1, hb2⟩ : 0x80 ≤ c ∧ c ≤ 0xBF := by omega
            go_wp2
            go_roundw
            case rel => exact ⟨k + 1, m, u, by omega, by omega, by omega, by omega, by go_num, hbel, HU2, run.hid (HN3.out.trans (by have e1 : loAt (k + 1) lo2 = 0x80 := by simp [loAt]; omega
                                                                                                                                     have e2 : hiAt (k + 1) hi2 = 0xBF := by simp [hiAt]; omega
                                                                                                                                     rw [e1, e2]; omega))⟩
            case measure => simp [intOf]; omega
end Go.Proofs.YtdgcfmfjgidbjaaGreat.utf
end
section
namespace Go.Proofs.YtdgcfmfjgidbjaaGreat.utf
open Go.RowKit Go.Proofs
set_option linter.unusedVariables false

theorem row_fits (i : Nat) (hi : i < 9) : RowFits (row i) := by
  match i, hi with
  | 0, _ | 1, _ | 2, _ | 3, _ | 4, _ | 5, _ | 6, _ | 7, _ | 8, _ => simp [RowFits, row, rows]

theorem empty_first {s : ByteArray} (h : s.size = 0) : first (bs s) = (0, 0, false) := by
  rw [List.length_eq_zero_iff.1 (show (bs s).length = 0 by rw [bs_length]; exact h)]; rfl

theorem tail_get {s : ByteArray} {b : Nat} {t : List Nat} (h : bs s = b :: t) {j : Nat} (hj : j < s.size) (h1 : 1 ≤ j) : (s[j]'hj).toNat = t.getD (j - 1) 0 := by
  rw [← bs_get s j hj, h]
  obtain ⟨m, rfl⟩ : ∃ m, j = m + 1 := ⟨j - 1, by omega⟩
  simp
theorem step_val {r : Nat} {t : List Nat} {j : Nat} (hj : j < t.length) (h : 0x80 ≤ t.getD j 0 ∧ t.getD j 0 ≤ 0xBF) : vals r (t.take (j + 1)) = vals r (t.take j) * 64 + t.getD j 0 - 0x80 := by
  rw [vals_take r t j hj]; omega

set_option maxHeartbeats 2000000 in
theorem refDecode_any (s : ByteArray) (w : World) (hs : s.size < 4611686018427387904) :
    Calls Tryz.prog 99 #[.string s] w fun e w' => e = .returned (.tuple #[.int .i32 (first (bs s)).1, .int .i64 (first (bs s)).2.1]) ∧ Below w.heap.size w w' := by
  by_cases h0 : s.size = 0
  · have hn := run.hid (empty_first h0)
    have hd : ((s.size : Int) == 0) = true := by simp [h0]
    go_enter Tryz.func99, Tryz.ntmps99
    go_wp2
    go_ret2
    exact ⟨by rw [hn.out]; rfl, Below.refl _ _⟩
  have hd : ((s.size : Int) == 0) = false := by simp [h0]
  have hpos : 0 < s.size := by omega
  obtain ⟨b, t, hbt, hst⟩ := bs_cons hpos
  have hb : b < 256 := bs_byte s b (by rw [hbt]; simp)
  have hg0 : (s[0]'hpos).toNat = b := by rw [← bs_get s 0 hpos, hbt]; rfl
  have HBT := run.hid hbt
  have hst1 : s.size ≤ t.length + 1 := by omega
  have hst2 : t.length + 1 ≤ s.size := by omega
  clear hst
  rw [hbt]
  clear hbt
  go_enter Tryz.func99, Tryz.ntmps99
  go_wp2_with fail
  refine (rows_any w).mono ?_
  rintro e w1 ⟨rfl, hrows, hlt, hb1⟩
  have HT := run.hid hrows
  clear hrows
  go_wp2_with fail
  obtain ⟨B, hB⟩ : ∃ B, B = w.heap.size := ⟨_, rfl⟩
  rw [← hB] at HT hlt ⊢
  have HW := run.hid hB
  clear hB
  go_loopw [5] (fun vi wr => ∃ i : Nat, i ≤ 9 ∧ vi = .int .i64 i ∧ Below w1.heap.size w1 wr ∧ Hid (∀ j, j < i → ¬ ((row j).1 ≤ b ∧ b ≤ (row j).2.1))) (fun i _ => (9 - intOf i).toNat)
  case atStart => exact ⟨0, by omega, rfl, Below.refl _ _, run.hid (none_start b)⟩
  case round =>
    obtain ⟨i, hi9, rfl, hbel, HN⟩ := hrel
    have hb2 := hb1.trans (hbel.mono hb1.size)
    by_cases hi : i < 9
    · have hrow := (HT.out.below hbel hlt) i hi
      have hfit := run.hid (row_fits i hi)
      have HP := run.hid (fun h0 h => @first_part i b t hi h0 h)
      have HF := run.hid (fun h0 h => @first_whole i b t hi h0 h)
      have HZ := run.hid (fun h => none_next HN.out (fits_zero (l := b :: t) (x := row i) (b := b) (t := t) h rfl))
      clear HN
      obtain ⟨c0, c1, c2, c3, c4, c5⟩ := hrow
      generalize row i = x at *
      obtain ⟨lo, hi', n, lo2, hi2, off⟩ := x
      have hf1 := hfit.out.2.2.2.1
      have hf2 := hfit.out.2.2.2.2.2.2
      simp only at c0 c1 c2 c3 c4 c5 hf1 hf2
      have FA := run.hid (fun w => fits_any s lo hi' n lo2 hi2 off w hs hfit.out)
      rw [HBT.out] at FA
      go_wp2_with fail
      refine (FA.out wr).mono ?_
      generalize hk : fits (b :: t) (lo, hi', n, lo2, hi2, off) = k at *
      have HK := run.hid hk
      clear hk
      rintro e w2 ⟨rfl, hb3⟩
      have hbel2 := hbel.trans (hb3.mono hbel.size)
      have hb4 := hb2.trans (hb3.mono hb2.size)
      have hBw : B < w1.heap.size := hlt
      have d2 := (hbel2.cell (p := ⟨B, i * 6 + 2, none⟩) hBw).trans ((hbel.cell (p := ⟨B, i * 6 + 2, none⟩) hBw).symm.trans c2)
      have d5 := (hbel2.cell (p := ⟨B, i * 6 + 5, none⟩) hBw).trans ((hbel.cell (p := ⟨B, i * 6 + 5, none⟩) hBw).symm.trans c5)
      clear c0 c1 c2 c3 c4 c5 hb3
      by_cases hk0 : k = 0
      · have hz := run.hid (HZ.out hk0)
        subst hk0
        go_wp2
        go_roundw
        case rel => exact ⟨i + 1, by omega, by go_num, hbel2, hz⟩
        case measure => simp [intOf]; omega
      · have hd1 : ((k : Int) == 0) = false := by simp; omega
        by_cases hkn : k < n
        · have hp := run.hid (HP.out hk0 hkn)
          clear HP HF HZ
          go_wp2
          go_ret2
          exact ⟨by rw [hp.out.1, hp.out.2]; rfl, hb4⟩
        · have hw := HF.out hk0 hkn
          try simp only at hw
          obtain ⟨v1, v2, v3, v4, v5, v6, v7⟩ := hw
          have HV1 := run.hid v1
          have HV2 := run.hid v2
          have HV7 := run.hid v7
          clear HP HF HZ v1 v2 v7
          go_wp2
          go_quiet (fail)
          go_wp2
          go_loopw [7, 8] (fun vn vj wr => ∃ j m : Nat, 1 ≤ j ∧ j ≤ k ∧ m < 67108864 ∧ vj = .int .i64 j ∧ vn = .int .i64 m ∧ Below w1.heap.size w1 wr ∧ Below w.heap.size w wr ∧ Hid (m = vals (b - off) (t.take (j - 1)))) (fun _ j _ => (4 - intOf j).toNat)
          case atStart => exact ⟨1, b - off, by omega, by omega, by omega, rfl, by go_num, below_drewN hbel2 _, below_drewN hb4 _, run.hid (by simp [vals])⟩
          case round =>
            clear hbel hbel2 hb2 hb4 d2 d5
            obtain ⟨j, m, hj1, hjk, hm, rfl, rfl, hbel, hb5, HM⟩ := hrel
            by_cases hjl : j < k
            · have hjs : j < s.size := by omega
              have hgj := tail_get HBT.out hjs hj1
              have hv := HV7.out (j - 1) (by omega)
              have hs1 := step_val (r := b - off) (t := t) (j := j - 1) (by omega) hv
              have hbd := vals_bound (b - off) t j (by omega) (by omega)
              rw [show j - 1 + 1 = j by omega] at hs1
              rw [hs1, ← HM.out] at hbd
              rw [← HM.out] at hs1
              have HS := run.hid hs1
              clear hs1
              generalize t.getD (j - 1) 0 = c at *
              obtain ⟨hc1, hc2⟩ := hv
              go_wp2
              go_roundw
              case rel => exact ⟨j + 1, m * 64 + c - 128, by omega, by omega, hbd, by go_num, by go_num, hbel, hb5, run.hid (HS.out.symm.trans (by rw [Nat.add_sub_cancel]))⟩
              case measure => simp [intOf]; omega
            · obtain rfl : j = k := by omega
              have hmv := run.hid (HV1.out.trans HM.out.symm)
              go_wp2
              go_ret2
              exact ⟨by rw [hmv.out, HV2.out]; rfl, hb5⟩
    · obtain rfl : i = 9 := by omega
      have hn := run.hid (first_none (t := t) HN.out)
      go_wp2
      go_ret2
      exact ⟨by rw [hn.out]; rfl, hb2⟩
end Go.Proofs.YtdgcfmfjgidbjaaGreat.utf
end
section
namespace Go.Proofs.YtdgcfmfjgidbjaaGreat.utf
open Go.RowKit Go.Proofs
set_option linter.unusedVariables false

theorem char_1 {r : Int} (h : r < 0) : isChar r = false := by unfold isChar; rw [decide_eq_false (by omega)]; rfl
theorem char_2 {r : Int} (h : 0x10FFFF < r) : isChar r = false := by unfold isChar; rw [decide_eq_false (show ¬ r ≤ 0x10FFFF by omega)]; simp
theorem char_3 {r : Int} (h : 0 ≤ r) (h1 : r < 0xD800) : isChar r = true := char_of ⟨h, by omega, .inl h1⟩
theorem char_4 {r : Int} (h : 0xDFFF < r) (h1 : r ≤ 0x10FFFF) : isChar r = true := char_of ⟨by omega, h1, .inr h⟩
theorem char_5 {r : Int} (h : 0xD800 ≤ r) (h1 : r ≤ 0xDFFF) : isChar r = false := by
  cases e : isChar r with
  | false => rfl
  | true => have := char_bounds e; omega

set_option maxRecDepth 100000 in
set_option maxHeartbeats 1000000 in
theorem character_any (r : Int) (w : World) : Calls Tryz.prog 114 #[.int .i32 r] w fun e w' => e = .returned (.bool (isChar r)) ∧ w' = w := by
  by_cases h0 : r < 0
  · have hc := run.hid (char_1 h0)
    go_enter Tryz.func114, Tryz.ntmps114
    go_wp2
    go_ret
    exact ⟨by rw [hc.out]; simp; try omega, rfl⟩
  by_cases h1 : 0x10FFFF < r
  · have hc := run.hid (char_2 h1)
    go_enter Tryz.func114, Tryz.ntmps114
    go_wp2
    go_ret
    exact ⟨by rw [hc.out]; simp; try omega, rfl⟩
  by_cases h2 : r < 0xD800
  · have hc := run.hid (char_3 (by omega) h2)
    go_enter Tryz.func114, Tryz.ntmps114
    go_wp2
    go_ret
    exact ⟨by rw [hc.out]; simp; try omega, rfl⟩
  by_cases h3 : 0xDFFF < r
  · have hc := run.hid (char_4 h3 (by omega))
    go_enter Tryz.func114, Tryz.ntmps114
    go_wp2
    go_ret
    exact ⟨by rw [hc.out]; simp; try omega, rfl⟩
  · have hc := run.hid (char_5 (r := r) (by omega) (by omega))
    go_enter Tryz.func114, Tryz.ntmps114
    go_wp2
    go_ret
    exact ⟨by rw [hc.out]; simp; try omega, rfl⟩

theorem conv_lit (xs : List Int) (w : World) (t : TypeId) :
    (convert 129 9 (.slice (some ⟨w.heap.size, 0, none⟩) xs.length xs.length)).run Tryz.prog (w.alloc (.cells (xs.map (Value.int .u8)).toArray t)) = .ok (.string (strOfNums xs)) (w.alloc (.cells (xs.map (Value.int .u8)).toArray t)) := by
  refine run_convert_bytes_arg (P := Tryz.prog) _ 129 5 Tryz.underlying129 Tryz.underlying5 _ 0 _ _ xs rfl ?_ 9 Tryz.underlying9
  intro i hi
  have hh := run.heap_new w (.cells (xs.map (Value.int .u8)).toArray t)
  simp only [World.cell?, Nat.zero_add]; rw [hh]
  simp [List.getD_eq_getElem?_getD, hi]
theorem nums_enc {xs : List Int} {l : List Nat} (h : xs.map Int.toNat = l) : strOfNums xs = str l := by
  subst h
  simp only [strOfNums, str, List.map_map]
  rfl
theorem enc_a {n : Int} (h0 : 0 ≤ n) (h : n < 0x80) : [n].map Int.toNat = enc n.toNat := by unfold enc; rw [if_pos (by omega)]; rfl
theorem enc_b {n : Int} (h0 : 0x80 ≤ n) (h : n < 0x800) : [192 + n / 64, 128 + n % 64].map Int.toNat = enc n.toNat := by unfold enc; rw [if_neg (by omega), if_pos (by omega)]; simp; omega
theorem enc_c {n : Int} (h0 : 0x800 ≤ n) (h : n < 0x10000) : [224 + n / 4096, 128 + n / 64 % 64, 128 + n % 64].map Int.toNat = enc n.toNat := by unfold enc; rw [if_neg (by omega), if_neg (by omega), if_pos (by omega)]; simp; omega
theorem enc_d {n : Int} (h0 : 0x10000 ≤ n) : [240 + n / 262144, 128 + n / 4096 % 64, 128 + n / 64 % 64, 128 + n % 64].map Int.toNat = enc n.toNat := by unfold enc; rw [if_neg (by omega), if_neg (by omega), if_neg (by omega)]; simp; omega
theorem put_bad {r : Int} (h : isChar r = false) : put r = enc 0xfffd := by unfold put fix; rw [h]; rfl
theorem put_good {r : Int} (h : isChar r = true) : put r = enc r.toNat := by unfold put; rw [fix_of_char h]

set_option maxRecDepth 100000 in
set_option maxHeartbeats 1000000 in
theorem bytes_1 (n : Int) (w : World) (h1 : n < 0x80) (hch : isChar n = true) : Calls Tryz.prog 104 #[.int .i32 n] w fun e w' => e = .returned (.string (str (put n))) ∧ Below w.heap.size w w' := by
  have hb := char_bounds hch
  obtain ⟨s, hs⟩ : ∃ s, s = str (put n) := ⟨_, rfl⟩
  have hconv := conv_lit [n] w 5
  have he : strOfNums [n] = s := by rw [hs, put_good hch]; exact nums_enc (enc_a (by omega) h1)
  rw [he] at hconv
  simp only [List.map_cons, List.map_nil, List.length_cons, List.length_nil, Nat.zero_add] at hconv
  rw [← hs]
  clear he hs
  have hcall := run.hid (character_any n w)
  rw [hch] at hcall
  clear hch
  obtain ⟨hb0, hb1, _⟩ := hb
  go_enter Tryz.func104, Tryz.ntmps104
  go_wp2_with fail
  refine (hcall.out).mono ?_
  rintro e w1 ⟨rfl, rfl⟩
  go_wp2
  go_ret
  exact ⟨rfl, run.below_one _ _⟩

set_option maxRecDepth 100000 in
set_option maxHeartbeats 1000000 in
theorem bytes_2 (n : Int) (w : World) (h1 : 0x80 ≤ n) (h2 : n < 0x800) (hch : isChar n = true) : Calls Tryz.prog 104 #[.int .i32 n] w fun e w' => e = .returned (.string (str (put n))) ∧ Below w.heap.size w w' := by
  have hb := char_bounds hch
  obtain ⟨s, hs⟩ : ∃ s, s = str (put n) := ⟨_, rfl⟩
  have hconv := conv_lit [192 + n / 64, 128 + n % 64] w 5
  have he : strOfNums [192 + n / 64, 128 + n % 64] = s := by rw [hs, put_good hch]; exact nums_enc (enc_b h1 h2)
  rw [he] at hconv
  simp only [List.map_cons, List.map_nil, List.length_cons, List.length_nil, Nat.zero_add, Nat.reduceAdd] at hconv
  rw [← hs]
  clear he hs
  have hcall := run.hid (character_any n w)
  rw [hch] at hcall
  clear hch
  obtain ⟨hb0, hb1, _⟩ := hb
  go_enter Tryz.func104, Tryz.ntmps104
  go_wp2_with fail
  refine (hcall.out).mono ?_
  rintro e w1 ⟨rfl, rfl⟩
  go_wp2
  go_ret
  exact ⟨rfl, run.below_one _ _⟩

set_option maxRecDepth 100000 in
set_option maxHeartbeats 1000000 in
theorem bytes_3 (n : Int) (w : World) (h1 : 0x800 ≤ n) (h2 : n < 0x10000) (hch : isChar n = true) : Calls Tryz.prog 104 #[.int .i32 n] w fun e w' => e = .returned (.string (str (put n))) ∧ Below w.heap.size w w' := by
  have hb := char_bounds hch
  obtain ⟨s, hs⟩ : ∃ s, s = str (put n) := ⟨_, rfl⟩
  have hconv := conv_lit [224 + n / 4096, 128 + n / 64 % 64, 128 + n % 64] w 5
  have he : strOfNums [224 + n / 4096, 128 + n / 64 % 64, 128 + n % 64] = s := by rw [hs, put_good hch]; exact nums_enc (enc_c h1 h2)
  rw [he] at hconv
  simp only [List.map_cons, List.map_nil, List.length_cons, List.length_nil, Nat.zero_add, Nat.reduceAdd] at hconv
  rw [← hs]
  clear he hs
  have hcall := run.hid (character_any n w)
  rw [hch] at hcall
  clear hch
  obtain ⟨hb0, hb1, _⟩ := hb
  go_enter Tryz.func104, Tryz.ntmps104
  go_wp2_with fail
  refine (hcall.out).mono ?_
  rintro e w1 ⟨rfl, rfl⟩
  go_wp2
  go_ret
  exact ⟨rfl, run.below_one _ _⟩

set_option maxRecDepth 100000 in
set_option maxHeartbeats 1000000 in
theorem bytes_4 (n : Int) (w : World) (h1 : 0x10000 ≤ n) (hch : isChar n = true) : Calls Tryz.prog 104 #[.int .i32 n] w fun e w' => e = .returned (.string (str (put n))) ∧ Below w.heap.size w w' := by
  have hb := char_bounds hch
  obtain ⟨s, hs⟩ : ∃ s, s = str (put n) := ⟨_, rfl⟩
  have hconv := conv_lit [240 + n / 262144, 128 + n / 4096 % 64, 128 + n / 64 % 64, 128 + n % 64] w 5
  have he : strOfNums [240 + n / 262144, 128 + n / 4096 % 64, 128 + n / 64 % 64, 128 + n % 64] = s := by rw [hs, put_good hch]; exact nums_enc (enc_d h1)
  rw [he] at hconv
  simp only [List.map_cons, List.map_nil, List.length_cons, List.length_nil, Nat.zero_add, Nat.reduceAdd] at hconv
  rw [← hs]
  clear he hs
  have hcall := run.hid (character_any n w)
  rw [hch] at hcall
  clear hch
  obtain ⟨hb0, hb1, _⟩ := hb
  go_enter Tryz.func104, Tryz.ntmps104
  go_wp2_with fail
  refine (hcall.out).mono ?_
  rintro e w1 ⟨rfl, rfl⟩
  go_wp2
  go_ret
  exact ⟨rfl, run.below_one _ _⟩

theorem bad_nums : strOfNums [239, 191, 189] = str (enc 0xfffd) := by decide
set_option maxRecDepth 100000 in
set_option maxHeartbeats 1000000 in
theorem bytes_bad (n : Int) (w : World) (hch : isChar n = false) : Calls Tryz.prog 104 #[.int .i32 n] w fun e w' => e = .returned (.string (str (put n))) ∧ Below w.heap.size w w' := by
  obtain ⟨s, hs⟩ : ∃ s, s = str (put n) := ⟨_, rfl⟩
  have hconv := conv_lit [239, 191, 189] w 5
  have he : strOfNums [239, 191, 189] = s := by rw [hs, put_bad hch]; exact bad_nums
  rw [he] at hconv
  simp only [List.map_cons, List.map_nil, List.length_cons, List.length_nil, Nat.zero_add, Nat.reduceAdd] at hconv
  rw [← hs]
  clear he hs
  have hcall := run.hid (character_any n w)
  rw [hch] at hcall
  clear hch
  go_enter Tryz.func104, Tryz.ntmps104
  go_wp2_with fail
  refine (hcall.out).mono ?_
  rintro e w1 ⟨rfl, rfl⟩
  go_wp2
  go_ret
  exact ⟨rfl, run.below_one _ _⟩

theorem bytes_any (n : Int) (w : World) : Calls Tryz.prog 104 #[.int .i32 n] w fun e w' => e = .returned (.string (str (put n))) ∧ Below w.heap.size w w' := by
  cases hch : isChar n with
  | false => exact bytes_bad n w hch
  | true =>
    by_cases h1 : n < 0x80
    · exact bytes_1 n w h1 hch
    by_cases h2 : n < 0x800
    · exact bytes_2 n w (by omega) h2 hch
    by_cases h3 : n < 0x10000
    · exact bytes_3 n w (by omega) h3 hch
    · exact bytes_4 n w (by omega) hch

theorem cells_bs (l : List Nat) (hb : ∀ c ∈ l, c < 256) : Lib.strCells (str l) = bv l := by
  simp only [Lib.strCells, str, bv, List.map_map]
  apply List.map_congr_left
  intro c hc
  have := hb c hc
  have e : (UInt8.ofNat c).toNat = c := by simp [UInt8.toNat_ofNat']; omega
  simp only [Function.comp_def, e]

set_option maxHeartbeats 2000000 in
theorem refText_any (v : Value) (xs : List Int) (w : World) (hv : run.Reads w v (rv xs)) (hl : xs.length ≤ 35184372088832) : Calls Tryz.prog 86 #[v] w fun e w' => e = .returned (.string (str (text xs))) ∧ Below w.heap.size w w' := by
  obtain ⟨i0, hi, hz0, hz1, hz2⟩ := info_parts info_byte
  obtain ⟨a, cap, rfl, hc, _⟩ := hv
  rw [rv_length]
  have HC := run.hid hc
  clear hc
  go_enter Tryz.func86, Tryz.ntmps86
  go_wp2
  go_loopw [3, 4] (fun vb vk wr => ∃ k : Nat, k ≤ xs.length ∧ vk = .int .i64 k ∧ wr.ownsRow w.heap.size 5 1 vb (text (xs.take k)).length (bv (text (xs.take k))) ∧ Below w.heap.size w wr) (fun _ k _ => (xs.length - intOf k).toNat)
  case atStart => exact ⟨0, by omega, rfl, World.ownsRow_nil _ _ _ _, Below.refl _ _⟩
  case round =>
    obtain ⟨k, hk, rfl, hown, hbel⟩ := hrel
    have hsz := hbel.size
    have hbd := text_take_len xs k
    by_cases hkl : k < xs.length
    · obtain ⟨b, off, ha, hlt, hcell⟩ := HC.out (by intro h; have := congrArg List.length h; rw [rv_length] at this; simp at this; simp [this] at hkl)
      subst ha
      have hck := (hbel.cell (p := ⟨b, off + k, none⟩) hlt).trans (hcell k _ (rv_get hkl))
      have HT := run.hid (text_take hkl)
      clear hcell
      generalize xs.getD k 0 = r at *
      generalize text (xs.take k) = tk at *
      have hpl := put_length r
      have HP := run.hid (put_byte r)
      go_wp2_with fail
      refine (bytes_any r wr).mono ?_
      rintro e w1 ⟨rfl, hb1⟩
      have hown1 := run.own_below hown hb1
      have hbel1 := hbel.trans (hb1.mono hsz)
      have hsz1 := hbel1.size
      have hstr := str_size (put r)
      have HC := run.hid (cells_bs (put r) HP.out)
      generalize put r = p at *
      generalize str p = sp at *
      clear hown hbel hb1 hck
      go_wp2_with (at_builtin; refine Lib.wpList_append_own_string _ rfl _ _ 129 9 rfl w.heap.size 5 i0 Tryz.underlying129 Tryz.underlying9 hi hz0 hz1 hz2 _ _ _ rfl hown1 _ rfl (by unfold maxLen; omega) (by omega) hsz1 ?_)
      intro v' w2 hown2 hgrow hnil
      have hbel2 := run.below_append hbel1 hown1 hgrow hsz1
      rw [HC.out, bv_append, ← List.length_append, ← HT.out] at hown2
      clear hown1 hgrow hnil hbel1 hstr
      go_wp2
      go_roundw
      case rel => exact ⟨k + 1, by omega, by go_num, hown2, hbel2⟩
      case measure => simp [intOf]; omega
    · obtain rfl : k = xs.length := by omega
      rw [List.take_of_length_le (Nat.le_refl _)] at hown
      have hconv := conv_own hown
      clear hown hbd
      go_wp2
      go_ret
      exact ⟨rfl, hbel⟩

theorem drop_bs (s : ByteArray) (k : Nat) (h : k ≤ s.size) : (s.extract k s.size).size = s.size - k := by rw [← bs_length, bs_drop, List.length_drop, bs_length]
theorem extract_again (s t : ByteArray) (n : Nat) {l : List Nat} {k : Nat} (h : bs t = l.drop k) : bs (t.extract n t.size) = l.drop (k + n) := by rw [bs_drop, h, List.drop_drop]

theorem run_more2 {l : List Nat} {t : ByteArray} {xs ys : List Int} {r : Int} (h : runes l = xs ++ runes (bs t)) (h2 : runes (bs t) = r :: ys) : xs.length + 1 ≤ (runes l).length := by
  rw [h, h2]; simp
theorem step2 {t : ByteArray} (h : 0 < t.size) : runes (bs t) = ((first (bs t)).1 : Int) :: runes (bs (t.extract (first (bs t)).2.1 t.size)) ∧ 1 ≤ (first (bs t)).2.1 ∧ (first (bs t)).2.1 ≤ t.size := by
  have hne : bs t ≠ [] := by
    intro e
    have h0 : (bs t).length = 0 := by rw [e]; rfl
    rw [bs_length] at h0; omega
  have hc := first_count _ hne
  rw [bs_length] at hc
  exact ⟨by rw [runes_step _ hne, bs_drop], hc.1, hc.2.2⟩

set_option maxHeartbeats 2000000 in
theorem refRunes_any (s : ByteArray) (w : World) (hs : s.size < 4611686018427387904) (hn : (runes (bs s)).length ≤ 35184372088832) : Calls Tryz.prog 83 #[.string s] w (Runes s w) := by
  obtain ⟨i0, hi, hz0, hz1, hz2⟩ := info_parts info_rune
  go_enter Tryz.func83, Tryz.ntmps83
  go_wp2
  go_loopw [0, 3] (fun vs v wr => ∃ t : ByteArray, ∃ xs : List Int, t.size ≤ s.size ∧ xs.length ≤ s.size ∧ vs = .string t ∧ wr.ownsRow w.heap.size 21 1 v xs.length (rv xs) ∧ Below w.heap.size w wr ∧ Hid (runes (bs s) = xs ++ runes (bs t)) ∧ Hid (v = .slice none 0 0 ↔ xs = []) ∧ xs.length + t.size ≤ s.size) (fun vs _ _ => (match vs with | .string t => t.size | _ => 0))
  case atStart => exact ⟨s, [], by omega, by simp, rfl, World.ownsRow_nil _ _ _ _, Below.refl _ _, run.hid rfl, run.hid ⟨fun _ => rfl, fun _ => rfl⟩, by simp⟩
  case round =>
    obtain ⟨t, xs, ht, hxs, rfl, hown, hbel, HX, HV, hsum⟩ := hrel
    have hsz := hbel.size
    by_cases hks : 0 < t.size
    · obtain ⟨h2, h3, h4⟩ := step2 hks
      have hmore := run_more2 HX.out h2
      have HR := run.hid h2
      have hex := drop_bs t (first (bs t)).2.1 h4
      have HD := run.hid (fun w => refDecode_any t w (by omega))
      clear h2
      generalize first (bs t) = q at *
      obtain ⟨r, n, o⟩ := q
      simp only at h3 h4
      have HEX := run.hid hex
      clear hex
      go_wp2_with fail
      refine (HD.out wr).mono ?_
      rintro e w1 ⟨rfl, hb1⟩
      have hown1 := run.own_below hown (hb1.mono (Nat.le_refl _))
      have hbel1 := hbel.trans (hb1.mono hsz)
      have hsz1 := hbel1.size
      clear hown hbel hsz HD hb1
      go_wp2_with (at_builtin; refine wpList_append_own _ rfl _ _ 97 rfl w.heap.size 21 i0 (.int .i32 0) 1 4 Tryz.underlying97 hi hz0 hz1 hz2 rfl (by decide) _ _ _ rfl (hown1.alloc _) ⟨w1.heap.size, 0, none⟩ 1 1 [.int .i32 r] rfl rfl (run.news_one _ _ _) (by intro u hu; simp at hu; subst hu; rfl) (by unfold maxLen; omega) (by omega) (by simp; omega) ?_)
      intro v' w2 hown2 hgrow hnil
      rw [rv_snoc] at hown2
      have hbel2 := run.below_append (hbel1.alloc hsz1 _) (hown1.alloc _) hgrow (by simp; omega)
      have hx2 := run.hid (HX.out.trans (by rw [HR.out]; simp : _ = (xs ++ [(r : Int)]) ++ runes (bs (t.extract n t.size))))
      have hn2 := run.hid (show v' = .slice none 0 0 ↔ xs ++ [(r : Int)] = [] from ⟨fun h => (hnil h).elim, fun h => by simp at h⟩)
      have ho3 : w2.ownsRow w.heap.size 21 1 v' (xs ++ [(r : Int)]).length (rv (xs ++ [(r : Int)])) := by rw [List.length_append]; exact hown2
      have hl3 : (xs ++ [(r : Int)]).length = xs.length + 1 := by simp
      clear hown1 hown2 hgrow hnil hbel1
      have HL3 := run.hid hl3
      clear hl3
      go_wp2
      go_roundw
      case rel => exact ⟨t.extract n t.size, _, by rw [HEX.out]; omega, by rw [HL3.out]; omega, rfl, ho3, hbel2, hx2, hn2, by rw [HEX.out, HL3.out]; omega⟩
      case measure => show (t.extract n t.size).size < t.size; rw [HEX.out]; omega
    · have ht0 : bs t = [] := List.length_eq_zero_iff.1 (by rw [bs_length]; omega)
      have hfin := run.hid (show runes (bs s) = xs by rw [HX.out, ht0, runes_nil, List.append_nil])
      clear ht0
      go_wp2
      go_ret
      exact ⟨_, rfl, by rw [hfin.out]; exact hown, hbel, by rw [hfin.out]; exact HV.out⟩
theorem refRunes_use (s : ByteArray) (w : World) (hs : s.size < 4611686018427387904) (hn : (runes (bs s)).length ≤ 35184372088832) : Calls Tryz.prog 83 #[.string s] w fun e w' =>
    ∃ v, e = .returned v ∧ w'.ownsRow w.heap.size 21 1 v (runes (bs s)).length (rv (runes (bs s))) ∧ run.Reads w' v (rv (runes (bs s))) ∧ Below w.heap.size w w' ∧ (v = .slice none 0 0 ↔ runes (bs s) = []) :=
  (refRunes_any s w hs hn).mono fun _ _ ⟨v, he, ho, hb, hn⟩ => ⟨v, he, ho, run.reads_own ho, hb, hn⟩

theorem reads_at {w : World} {a : Option Addr} {xs : List Int} {k : Nat} (hc : rv xs ≠ [] → ∃ b off, a = some ⟨b, off, none⟩ ∧ b < w.heap.size ∧ ∀ i u, (rv xs)[i]? = some u → w.cell? ⟨b, off + i, none⟩ = some u) (hk : k < xs.length) :
    ∃ b off, a = some ⟨b, off, none⟩ ∧ b < w.heap.size ∧ w.cell? ⟨b, off + k, none⟩ = some (.int .i32 (xs.getD k 0)) := by
  obtain ⟨b, off, ha, hlt, hcell⟩ := hc (by intro h; have := congrArg List.length h; rw [rv_length] at this; simp at this; simp [this] at hk)
  exact ⟨b, off, ha, hlt, hcell k _ (rv_get hk)⟩
theorem eq_start (xs ys : List Int) : ∀ j, j < 0 → xs.getD j 0 = ys.getD j 0 := by intro j hj; omega
theorem eq_next {xs ys : List Int} {k : Nat} (h : ∀ j, j < k → xs.getD j 0 = ys.getD j 0) (hk : xs.getD k 0 = ys.getD k 0) : ∀ j, j < k + 1 → xs.getD j 0 = ys.getD j 0 := by
  intro j hj
  by_cases e : j = k
  · subst e; exact hk
  · exact h j (by omega)
theorem eq_end {xs ys : List Int} (hl : xs.length = ys.length) (h : ∀ j, j < xs.length → xs.getD j 0 = ys.getD j 0) : xs = ys := by
  apply List.ext_getElem hl
  intro i h1 h2
  have := h i h1
  simpa [List.getD_eq_getElem?_getD, h1, h2] using this
theorem ne_at {xs ys : List Int} {k : Nat} (h : xs.getD k 0 ≠ ys.getD k 0) : xs ≠ ys := by intro e; subst e; exact h rfl
theorem ne_len {xs ys : List Int} (h : xs.length ≠ ys.length) : xs ≠ ys := by intro e; subst e; exact h rfl
theorem bool_eq {a b : Bool} (h : a = b) : Value.bool a = Value.bool b := by rw [h]

end Go.Proofs.YtdgcfmfjgidbjaaGreat.utf
end
