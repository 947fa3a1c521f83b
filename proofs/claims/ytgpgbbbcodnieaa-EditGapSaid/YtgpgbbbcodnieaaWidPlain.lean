/-
  Plain facts on classes of numbers: the tables, a search in a rising table, the class of a number. No program in sight.
-/
namespace Go.Proofs.Ytgpgbbbcodnieaa.wid

def tab : Nat → List (Int × Int)
  | 0 => [(55296, 57343)]
  | 1 => [(0, 31), (127, 159)]
  | 2 => [(0x300, 0x36f), (0x483, 0x489), (0x591, 0x5bd), (0x610, 0x61a), (0x64b, 0x65f), (0x6d6, 0x6dc), (0x900, 0x902), (0x93c, 0x93c), (0x941, 0x948), (0xe34, 0xe3a), (0xe47, 0xe4e), (0x1ab0, 0x1ace), (0x1dc0, 0x1dff), (0x200b, 0x200c), (0x200e, 0x200f), (0x202a, 0x202e), (0x2060, 0x2064), (0x20d0, 0x20f0), (0xfe20, 0xfe2f), (0xfeff, 0xfeff), (0xe0020, 0xe007f), (0xe0100, 0xe01ef)]
  | 3 => [(0x200d, 0x200d)]
  | 4 => [(0xfe00, 0xfe0f)]
  | 5 => [(0x1f3fb, 0x1f3ff)]
  | 6 => [(0x1f1e6, 0x1f1ff)]
  | 7 => [(0x1100, 0x115f), (0x231a, 0x231b), (0x23e9, 0x23ec), (0x25fd, 0x25fe), (0x2614, 0x2615), (0x2648, 0x2653), (0x26a1, 0x26a1), (0x26aa, 0x26ab), (0x26bd, 0x26be), (0x26d4, 0x26d4), (0x26f2, 0x26f5), (0x2705, 0x2705), (0x270a, 0x270b), (0x2728, 0x2728), (0x274c, 0x274c), (0x2753, 0x2757), (0x2795, 0x2797), (0x2e80, 0x303e), (0x3041, 0x4dbf), (0x4e00, 0xa4cf), (0xa960, 0xa97c), (0xac00, 0xd7a3), (0xf900, 0xfaff), (0xfe30, 0xfe6f), (0xff01, 0xff60), (0xffe0, 0xffe6), (0x1f300, 0x1f3fa), (0x1f400, 0x1f64f), (0x1f680, 0x1f6ff), (0x1f900, 0x1f9ff), (0x20000, 0x2fffd), (0x30000, 0x3fffd)]
  | 8 => [(0xa9, 0xa9), (0xae, 0xae), (0x203c, 0x203c), (0x2049, 0x2049), (0x2122, 0x2122), (0x2190, 0x21ff), (0x2300, 0x2319), (0x231c, 0x23e8), (0x23ed, 0x23ff), (0x2600, 0x2613), (0x2616, 0x2647), (0x2654, 0x26a0), (0x26a2, 0x26a9), (0x26ac, 0x26bc), (0x26bf, 0x26d3), (0x26d5, 0x26f1), (0x26f6, 0x2704), (0x2706, 0x2709), (0x270c, 0x2727), (0x2729, 0x274b), (0x274d, 0x2752), (0x2758, 0x2794), (0x2798, 0x27bf)]
  | _ => []

theorem getD_lt (l : List (Int × Int)) {k : Nat} (h : k < l.length) : l.getD k (0, 0) = l[k] := by simp [List.getD_eq_getElem?_getD, h]

def hit (l : List (Int × Int)) (r : Int) : Bool := l.any fun p => decide (p.1 ≤ r) && decide (r ≤ p.2)

/-- the first class from c on, of the next n, whose table has r; else 9 -/
def firstKind (r : Int) : Nat → Nat → Nat
  | _, 0 => 9
  | c, n + 1 => if hit (tab c) r then c else firstKind r (c + 1) n

def kind (r : Int) : Nat := if r < 0 ∨ 0x10ffff < r then 0 else firstKind r 0 9

def cellsOf (k : Nat) : Nat := if k = 1 ∨ k = 2 ∨ k = 3 ∨ k = 4 then 0 else if k = 7 ∨ k = 5 then 2 else 1
def cellsAt (r : Int) : Nat := cellsOf (kind r)

/-- A RISING TABLE: each stretch begins no higher than it ends and ends below the next one's beginning. -/
def rises : List (Int × Int) → Bool
  | [] => true
  | [p] => decide (p.1 ≤ p.2)
  | p :: q :: l => decide (p.1 ≤ p.2) && (decide (p.2 < q.1) && rises (q :: l))

theorem tab_rises (c : Nat) : rises (tab c) = true := by
  match c with
  | 0 | 1 | 2 | 3 | 4 | 5 | 6 | 7 | 8 => decide
  | n + 9 => rfl

/-- the ends at or above r: all behind the first of them -/
theorem rises_mono : ∀ (l : List (Int × Int)), rises l = true → ∀ i j, i < j → j < l.length → (l.getD i (0, 0)).2 < (l.getD j (0, 0)).1 ∧ (l.getD i (0, 0)).1 ≤ (l.getD i (0, 0)).2 ∧ (l.getD j (0, 0)).1 ≤ (l.getD j (0, 0)).2
  | [], _, i, j, hij, hj => by simp at hj
  | [p], _, i, j, hij, hj => by simp at hj; omega
  | p :: q :: l, h, i, j, hij, hj => by
    simp only [rises, Bool.and_eq_true, decide_eq_true_eq] at h
    obtain ⟨h1, h2, h3⟩ := h
    have ih := rises_mono (q :: l) h3
    match i, j with
    | 0, 0 => omega
    | i + 1, 0 => omega
    | 0, 1 =>
      have hq : q.1 ≤ q.2 := by
        cases l with
        | nil => simpa [rises] using h3
        | cons a l => simp only [rises, Bool.and_eq_true, decide_eq_true_eq] at h3; exact h3.1
      exact ⟨h2, h1, hq⟩
    | 0, j + 2 =>
      have := ih 0 (j + 1) (by omega) (by simpa using hj)
      simp only [List.getD_cons_zero, List.getD_cons_succ] at this ⊢
      omega
    | i + 1, j + 1 =>
      have := ih i j (by omega) (by simpa using hj)
      simpa using this

theorem rises_le (l : List (Int × Int)) (h : rises l = true) (i : Nat) (hi : i < l.length) : (l.getD i (0, 0)).1 ≤ (l.getD i (0, 0)).2 := by
  cases l with
  | nil => simp at hi
  | cons p l =>
    cases i with
    | zero =>
      cases l with
      | nil => simpa [rises] using h
      | cons a l => simp only [rises, Bool.and_eq_true, decide_eq_true_eq] at h; exact h.1
    | succ i => exact (rises_mono (p :: l) h 0 (i + 1) (by omega) hi).2.2

/-- THE SEARCH: k is the first index whose stretch ends at or above r: then r is hit just where k's stretch begins at or below r. -/
theorem hit_of_first (l : List (Int × Int)) (h : rises l = true) (r : Int) (k : Nat) (hk : k ≤ l.length) (hlow : ∀ j, j < k → ¬ r ≤ (l.getD j (0, 0)).2) (hup : k < l.length → r ≤ (l.getD k (0, 0)).2) :
    hit l r = (decide (k < l.length) && decide ((l.getD k (0, 0)).1 ≤ r)) := by
  rw [Bool.eq_iff_iff]
  simp only [hit, List.any_eq_true, Bool.and_eq_true, decide_eq_true_eq]
  constructor
  · rintro ⟨p, hp, h1, h2⟩
    obtain ⟨j, hj, rfl⟩ := List.getElem_of_mem hp
    have hjk : ¬ j < k := fun hjk => hlow j hjk (by rw [getD_lt _ hj]; exact h2)
    have hkl : k < l.length := by omega
    refine ⟨hkl, ?_⟩
    by_cases e : j = k
    · subst e; rw [getD_lt _ hj]; exact h1
    · have := rises_mono l h k j (by omega) hj
      rw [getD_lt _ hj] at this
      omega
  · rintro ⟨hkl, h1⟩
    refine ⟨l[k], List.getElem_mem _, ?_, ?_⟩
    · rw [getD_lt _ hkl] at h1; exact h1
    · have := hup hkl; rw [getD_lt _ hkl] at this; exact this

theorem firstKind_hit {r : Int} {c n : Nat} (h : hit (tab c) r = true) : firstKind r c (n + 1) = c := by simp [firstKind, h]
theorem firstKind_miss {r : Int} {c n : Nat} (h : hit (tab c) r = false) : firstKind r c (n + 1) = firstKind r (c + 1) n := by simp [firstKind, h]
theorem firstKind_le (r : Int) : ∀ n c, c + n = 9 → firstKind r c n ≤ 9
  | 0, c, _ => by simp [firstKind]
  | n + 1, c, h => by
    simp only [firstKind]
    split
    · omega
    · exact firstKind_le r n (c + 1) (by omega)
theorem kind_le (r : Int) : kind r ≤ 9 := by
  unfold kind
  split
  · omega
  · exact firstKind_le r 9 0 rfl

/-! THE DOCUMENT's TABLES: all stretches, rising, each with its class. -/
def low : List (Int × Int × Nat) := [(0, 0x1f, 1), (0x7f, 0x9f, 1), (0xa9, 0xa9, 8), (0xae, 0xae, 8), (0x300, 0x36f, 2), (0x483, 0x489, 2), (0x591, 0x5bd, 2), (0x610, 0x61a, 2), (0x64b, 0x65f, 2), (0x6d6, 0x6dc, 2),
  (0x900, 0x902, 2), (0x93c, 0x93c, 2), (0x941, 0x948, 2), (0xe34, 0xe3a, 2), (0xe47, 0xe4e, 2), (0x1100, 0x115f, 7), (0x1ab0, 0x1ace, 2), (0x1dc0, 0x1dff, 2), (0x200b, 0x200c, 2), (0x200d, 0x200d, 3),
  (0x200e, 0x200f, 2), (0x202a, 0x202e, 2), (0x203c, 0x203c, 8), (0x2049, 0x2049, 8), (0x2060, 0x2064, 2), (0x20d0, 0x20f0, 2), (0x2122, 0x2122, 8), (0x2190, 0x21ff, 8)]
def middle : List (Int × Int × Nat) := [(0x2300, 0x2319, 8), (0x231a, 0x231b, 7), (0x231c, 0x23e8, 8), (0x23e9, 0x23ec, 7), (0x23ed, 0x23ff, 8), (0x25fd, 0x25fe, 7), (0x2600, 0x2613, 8), (0x2614, 0x2615, 7), (0x2616, 0x2647, 8), (0x2648, 0x2653, 7),
  (0x2654, 0x26a0, 8), (0x26a1, 0x26a1, 7), (0x26a2, 0x26a9, 8), (0x26aa, 0x26ab, 7), (0x26ac, 0x26bc, 8), (0x26bd, 0x26be, 7), (0x26bf, 0x26d3, 8), (0x26d4, 0x26d4, 7), (0x26d5, 0x26f1, 8), (0x26f2, 0x26f5, 7),
  (0x26f6, 0x2704, 8), (0x2705, 0x2705, 7), (0x2706, 0x2709, 8), (0x270a, 0x270b, 7), (0x270c, 0x2727, 8), (0x2728, 0x2728, 7), (0x2729, 0x274b, 8), (0x274c, 0x274c, 7), (0x274d, 0x2752, 8), (0x2753, 0x2757, 7),
  (0x2758, 0x2794, 8), (0x2795, 0x2797, 7), (0x2798, 0x27bf, 8)]
def high : List (Int × Int × Nat) := [(0x2e80, 0x303e, 7), (0x3041, 0x4dbf, 7), (0x4e00, 0xa4cf, 7), (0xa960, 0xa97c, 7), (0xac00, 0xd7a3, 7), (0xd800, 0xdfff, 0), (0xf900, 0xfaff, 7), (0xfe00, 0xfe0f, 4), (0xfe20, 0xfe2f, 2), (0xfe30, 0xfe6f, 7),
  (0xfeff, 0xfeff, 2), (0xff01, 0xff60, 7), (0xffe0, 0xffe6, 7), (0x1f1e6, 0x1f1ff, 6), (0x1f300, 0x1f3fa, 7), (0x1f3fb, 0x1f3ff, 5), (0x1f400, 0x1f64f, 7), (0x1f680, 0x1f6ff, 7), (0x1f900, 0x1f9ff, 7),
  (0x20000, 0x2fffd, 7), (0x30000, 0x3fffd, 7), (0xe0020, 0xe007f, 2), (0xe0100, 0xe01ef, 2)]
def all : List (Int × Int × Nat) := low ++ middle ++ high

def scan (l : List (Int × Int × Nat)) (r : Int) : Nat := match l.find? fun p => decide (p.1 ≤ r) && decide (r ≤ p.2.1) with | some p => p.2.2 | none => 9
def part (r : Int) : List (Int × Int × Nat) := if 10175 < r then high else if 8960 ≤ r then middle else low
def refKind (r : Int) : Nat := if r < 0 ∨ 0x10ffff < r then 0 else if 0x20 ≤ r ∧ r < 0x7f then 9 else scan (part r) r

def stretches (l : List (Int × Int × Nat)) (c : Nat) : List (Int × Int) := (l.filter fun p => p.2.2 == c).map fun p => (p.1, p.2.1)
def sortedFrom (a : Int) : List (Int × Int × Nat) → Bool
  | [] => true
  | p :: l => decide (a ≤ p.1) && (decide (p.1 ≤ p.2.1) && sortedFrom (p.2.1 + 1) l)

theorem hit_append (l m : List (Int × Int)) (r : Int) : hit (l ++ m) r = (hit l r || hit m r) := by simp [hit, List.any_append]

theorem scan_none {l : List (Int × Int × Nat)} {r : Int} : ∀ {a : Int}, sortedFrom a l = true → r < a → ∀ p ∈ l, ¬ (p.1 ≤ r) := by
  induction l with
  | nil => intro a _ _ p hp; simp at hp
  | cons q l ih =>
    intro a hs hr p hp
    simp only [sortedFrom, Bool.and_eq_true, decide_eq_true_eq] at hs
    rcases List.mem_cons.1 hp with rfl | hp
    · omega
    · exact ih hs.2.2 (by omega) p hp

theorem hit_stretches {l : List (Int × Int × Nat)} {c : Nat} {r : Int} : hit (stretches l c) r = true ↔ ∃ p ∈ l, p.2.2 = c ∧ p.1 ≤ r ∧ r ≤ p.2.1 := by
  simp only [hit, stretches, List.any_eq_true, List.mem_map, List.mem_filter, Bool.and_eq_true, decide_eq_true_eq, beq_iff_eq]
  constructor
  · rintro ⟨_, ⟨p, ⟨hp, hc⟩, rfl⟩, h1, h2⟩; exact ⟨p, hp, hc, h1, h2⟩
  · rintro ⟨p, hp, hc, h1, h2⟩; exact ⟨_, ⟨p, ⟨hp, hc⟩, rfl⟩, h1, h2⟩

/-- WHERE THE STRETCHES RISE, the one that has r is the first that has it, and the only one. -/
theorem scan_hit {l : List (Int × Int × Nat)} {r : Int} : ∀ {a : Int}, sortedFrom a l = true → ∀ p ∈ l, p.1 ≤ r → r ≤ p.2.1 → scan l r = p.2.2 := by
  induction l with
  | nil => intro a _ p hp; simp at hp
  | cons q l ih =>
    intro a hs p hp h1 h2
    simp only [sortedFrom, Bool.and_eq_true, decide_eq_true_eq] at hs
    by_cases hq : q.1 ≤ r ∧ r ≤ q.2.1
    · have hpq : p = q := by
        rcases List.mem_cons.1 hp with rfl | hp
        · rfl
        · exact absurd h1 (scan_none hs.2.2 (by omega) p hp)
      subst hpq
      simp [scan, List.find?, hq.1, hq.2]
    · have hp' : p ∈ l := by
        rcases List.mem_cons.1 hp with rfl | hp
        · exact absurd ⟨h1, h2⟩ hq
        · exact hp
      have := ih hs.2.2 p hp' h1 h2
      have hb : (decide (q.1 ≤ r) && decide (r ≤ q.2.1)) = false := by
        rw [Bool.eq_false_iff]; simpa [Bool.and_eq_true] using hq
      simpa [scan, List.find?, hb] using this

theorem scan_miss {l : List (Int × Int × Nat)} {r : Int} (h : ∀ p ∈ l, ¬ (p.1 ≤ r ∧ r ≤ p.2.1)) : scan l r = 9 := by
  have : (l.find? fun p => decide (p.1 ≤ r) && decide (r ≤ p.2.1)) = none := by
    rw [List.find?_eq_none]
    intro p hp hb
    exact h p hp (by simpa [Bool.and_eq_true] using hb)
  simp [scan, this]

theorem all_sorted : sortedFrom 0 all = true := by decide
theorem tab_all (c : Nat) (h : c ≤ 8) : tab c = stretches all c := by
  match c, h with
  | 0, _ | 1, _ | 2, _ | 3, _ | 4, _ | 5, _ | 6, _ | 7, _ | 8, _ => decide
theorem all_class : ∀ p ∈ all, p.2.2 ≤ 8 := by decide

/-- THE FIRST CLASS THAT HITS IS THE CLASS OF THE SCAN. -/
theorem firstKind_scan (r : Int) : ∀ n c, c + n = 9 → (∀ d, d < c → hit (tab d) r = false) → firstKind r c n = scan all r
  | 0, c, hc, hno => by
    simp only [firstKind]
    rw [scan_miss]
    intro p hp hh
    have h8 := all_class p hp
    have := hno p.2.2 (by omega)
    rw [tab_all _ h8, Bool.eq_false_iff] at this
    exact this (hit_stretches.2 ⟨p, hp, rfl, hh⟩)
  | n + 1, c, hc, hno => by
    by_cases h : hit (tab c) r = true
    · rw [firstKind_hit h]
      rw [tab_all c (by omega)] at h
      obtain ⟨p, hp, rfl, h1, h2⟩ := hit_stretches.1 h
      exact (scan_hit all_sorted p hp h1 h2).symm
    · have h : hit (tab c) r = false := by simpa using h
      rw [firstKind_miss h]
      refine firstKind_scan r n (c + 1) (by omega) fun d hd => ?_
      by_cases e : d = c
      · subst e; exact h
      · exact hno d (by omega)

theorem kind_scan {r : Int} (h0 : 0 ≤ r) (h1 : r ≤ 0x10ffff) : kind r = scan all r := by
  unfold kind
  rw [if_neg (by omega)]
  exact firstKind_scan r 9 0 rfl (by intro d hd; omega)

theorem scan_part_high {r : Int} (h : 10175 < r) : scan all r = scan high r := by
  by_cases hh : ∃ p ∈ high, p.1 ≤ r ∧ r ≤ p.2.1
  · obtain ⟨p, hp, h1, h2⟩ := hh
    rw [scan_hit all_sorted p (by simp [all, hp]) h1 h2, scan_hit (a := 0) (by decide) p hp h1 h2]
  · have hh' : ∀ p ∈ high, ¬ (p.1 ≤ r ∧ r ≤ p.2.1) := fun p hp hx => hh ⟨p, hp, hx⟩
    rw [scan_miss hh', scan_miss]
    intro p hp hx
    have hm : ∀ p ∈ low ++ middle, p.2.1 ≤ 10175 := by decide
    rcases List.mem_append.1 hp with hp | hp
    · have := hm p hp; omega
    · exact hh' p hp hx
theorem scan_part_middle {r : Int} (h0 : 8960 ≤ r) (h : r ≤ 10175) : scan all r = scan middle r := by
  by_cases hh : ∃ p ∈ middle, p.1 ≤ r ∧ r ≤ p.2.1
  · obtain ⟨p, hp, h1, h2⟩ := hh
    rw [scan_hit all_sorted p (by simp [all, hp]) h1 h2, scan_hit (a := 0) (by decide) p hp h1 h2]
  · have hh' : ∀ p ∈ middle, ¬ (p.1 ≤ r ∧ r ≤ p.2.1) := fun p hp hx => hh ⟨p, hp, hx⟩
    rw [scan_miss hh', scan_miss]
    intro p hp hx
    have hm : ∀ p ∈ low, p.2.1 < 8960 := by decide
    have hn : ∀ p ∈ high, 10175 < p.1 := by decide
    rcases List.mem_append.1 hp with hp | hp
    · rcases List.mem_append.1 hp with hp | hp
      · have := hm p hp; omega
      · exact hh' p hp hx
    · have := hn p hp; omega
theorem scan_part_low {r : Int} (h : r < 8960) : scan all r = scan low r := by
  by_cases hh : ∃ p ∈ low, p.1 ≤ r ∧ r ≤ p.2.1
  · obtain ⟨p, hp, h1, h2⟩ := hh
    rw [scan_hit all_sorted p (by simp [all, hp]) h1 h2, scan_hit (a := 0) (by decide) p hp h1 h2]
  · have hh' : ∀ p ∈ low, ¬ (p.1 ≤ r ∧ r ≤ p.2.1) := fun p hp hx => hh ⟨p, hp, hx⟩
    rw [scan_miss hh', scan_miss]
    intro p hp hx
    have hm : ∀ p ∈ middle ++ high, 8960 ≤ p.1 := by decide
    rw [all, List.append_assoc] at hp
    rcases List.mem_append.1 hp with hp | hp
    · exact hh' p hp hx
    · have := hm p hp; omega

theorem scan_part {r : Int} : scan all r = scan (part r) r := by
  unfold part
  split
  · exact scan_part_high (by omega)
  · split
    · exact scan_part_middle (by omega) (by omega)
    · exact scan_part_low (by omega)

/-- THE PROGRAM's CLASS IS THE DOCUMENT's. -/
theorem kind_eq_ref (r : Int) : kind r = refKind r := by
  unfold refKind
  split
  · rename_i h; unfold kind; rw [if_pos h]
  · rename_i h
    rw [kind_scan (by omega) (by omega)]
    split
    · rename_i h2
      apply scan_miss
      intro p hp hx
      have hm : ∀ p ∈ all, p.2.1 < 0x20 ∨ 0x7f ≤ p.1 := by decide
      have := hm p hp
      omega
    · exact scan_part

end Go.Proofs.Ytgpgbbbcodnieaa.wid
