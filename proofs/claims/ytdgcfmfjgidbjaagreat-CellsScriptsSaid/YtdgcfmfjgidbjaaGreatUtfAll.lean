/-
  Plain facts on bytes and characters: the first character of some bytes, all of them, the bytes of numbers, a decoder that is fed in pieces. No program in sight.
  The walks of the layer utf: the first character of some bytes, told by a function; of a text.
  The walks of the layer utf: the first character of a text, by the program.
  The walks of the layer utf: all characters of a text.
  The walks of the layer utf: the bytes of a number, of numbers.
  The walks of the layer utf, for use in other layers.
-/
import Derived.Test.YtdgcfmfjgidbjaaGreatProg
import Derived.Test.YtdgcfmfjgidbjaaGreatRun
import Derived.WalkKit
import Derived.WalkSpells
import Derived.WalkLawsBesides
import Derived.KernelRfl
import Derived.Deep.QuietTactic
import Derived.BigQuiet
import Derived.Test.YtdgcfmfjgidbjaaGreatRowKit
import Derived.Deep.Cut
section
namespace Go.Proofs.YtdgcfmfjgidbjaaGreat.utf

/-- how many bytes, the least and the greatest second one -/
def lead (b : Nat) : Nat × Nat × Nat :=
  if b < 0x80 then (1, 0, 0) else if b < 0xC2 then (0, 0, 0) else if b ≤ 0xDF then (2, 0x80, 0xBF) else if b = 0xE0 then (3, 0xA0, 0xBF) else if b = 0xED then (3, 0x80, 0x9F)
  else if b ≤ 0xEF then (3, 0x80, 0xBF) else if b = 0xF0 then (4, 0x90, 0xBF) else if b ≤ 0xF3 then (4, 0x80, 0xBF) else if b = 0xF4 then (4, 0x80, 0x8F) else (0, 0, 0)

/-- the rest of a character: k bytes are still wanted, i have been read -/
def cont : Nat → Nat → Nat → Nat → Nat → List Nat → Nat × Nat × Bool
  | 0, r, i, _, _, _ => (r, i, false)
  | _ + 1, _, i, _, _, [] => (0xfffd, i, true)
  | k + 1, r, i, lo, hi, c :: t => if c < lo ∨ hi < c then (0xfffd, i, false) else cont k (r * 64 + c % 64) (i + 1) 0x80 0xBF t

/-- what is left of the first byte -/
def low (n b : Nat) : Nat := if n = 2 then b % 32 else if n = 3 then b % 16 else b % 8

/-- the first character, how many bytes it takes, whether the bytes end within it -/
def first : List Nat → Nat × Nat × Bool
  | [] => (0, 0, false)
  | b :: t => if (lead b).1 = 0 then (0xfffd, 1, false) else if (lead b).1 = 1 then (b, 1, false) else cont ((lead b).1 - 1) (low (lead b).1 b) 1 (lead b).2.1 (lead b).2.2 t

theorem lead_cases (b : Nat) : (lead b = (1, 0, 0) ∧ b < 0x80) ∨ (lead b = (0, 0, 0) ∧ (0x80 ≤ b ∧ b < 0xC2 ∨ 0xF4 < b)) ∨ (lead b = (2, 0x80, 0xBF) ∧ 0xC2 ≤ b ∧ b ≤ 0xDF) ∨ (lead b = (3, 0xA0, 0xBF) ∧ b = 0xE0) ∨ (lead b = (3, 0x80, 0x9F) ∧ b = 0xED) ∨
    (lead b = (3, 0x80, 0xBF) ∧ 0xE1 ≤ b ∧ b ≤ 0xEF ∧ b ≠ 0xED) ∨ (lead b = (4, 0x90, 0xBF) ∧ b = 0xF0) ∨ (lead b = (4, 0x80, 0xBF) ∧ 0xF1 ≤ b ∧ b ≤ 0xF3) ∨ (lead b = (4, 0x80, 0x8F) ∧ b = 0xF4) := by
  unfold lead
  (repeat' split) <;> simp <;> omega

theorem cont_count : ∀ (k r i lo hi : Nat) (t : List Nat), i ≤ (cont k r i lo hi t).2.1 ∧ (cont k r i lo hi t).2.1 ≤ i + k ∧ (cont k r i lo hi t).2.1 ≤ i + t.length
  | 0, _, i, _, _, _ => by simp [cont]
  | k + 1, _, i, _, _, [] => by simp [cont]
  | k + 1, r, i, lo, hi, c :: t => by
    simp only [cont]
    split
    · simp
    · have := cont_count k (r * 64 + c % 64) (i + 1) 0x80 0xBF t
      simp only [List.length_cons]
      omega

theorem lead_le (b : Nat) : (lead b).1 ≤ 4 := by
  rcases lead_cases b with h | h | h | h | h | h | h | h | h <;> rw [h.1] <;> decide

theorem first_count (l : List Nat) (h : l ≠ []) : 1 ≤ (first l).2.1 ∧ (first l).2.1 ≤ 4 ∧ (first l).2.1 ≤ l.length := by
  match l, h with
  | b :: t, _ =>
    have hle := lead_le b
    simp only [first, List.length_cons]
    split
    · simp
    · split
      · simp
      · have := cont_count ((lead b).1 - 1) (low (lead b).1 b) 1 (lead b).2.1 (lead b).2.2 t
        omega

/-- all characters -/
def runesN : Nat → List Nat → List Int
  | 0, _ => []
  | _ + 1, [] => []
  | n + 1, b :: t => ((first (b :: t)).1 : Int) :: runesN n ((b :: t).drop (first (b :: t)).2.1)
def runes (l : List Nat) : List Int := runesN l.length l

theorem runesN_any : ∀ (n m : Nat) (l : List Nat), l.length ≤ n → l.length ≤ m → runesN n l = runesN m l
  | 0, m, l, h, _ => by
    have : l = [] := List.length_eq_zero_iff.1 (by omega)
    subst this; cases m <;> rfl
  | n + 1, 0, l, _, h => by
    have : l = [] := List.length_eq_zero_iff.1 (by omega)
    subst this; rfl
  | n + 1, m + 1, [], _, _ => rfl
  | n + 1, m + 1, b :: t, h1, h2 => by
    simp only [runesN]
    have hc := first_count (b :: t) (by simp)
    simp only [List.length_cons] at h1 h2
    rw [runesN_any n m _ (by simp only [List.length_drop, List.length_cons]; omega) (by simp only [List.length_drop, List.length_cons]; omega)]

theorem runes_nil : runes [] = [] := rfl
theorem runes_step (l : List Nat) (h : l ≠ []) : runes l = ((first l).1 : Int) :: runes (l.drop (first l).2.1) := by
  match l, h with
  | b :: t, _ =>
    have hc := first_count (b :: t) (by simp)
    simp only [runes, List.length_cons, runesN]
    rw [runesN_any t.length]
    · simp only [List.length_drop, List.length_cons]; omega
    · exact Nat.le_refl _

theorem runes_length : ∀ (n : Nat) (l : List Nat), l.length ≤ n → (runes l).length ≤ l.length
  | 0, l, h => by
    have : l = [] := List.length_eq_zero_iff.1 (by omega)
    subst this; simp [runes_nil]
  | n + 1, l, h => by
    by_cases e : l = []
    · subst e; simp [runes_nil]
    · have hc := first_count l e
      rw [runes_step l e]
      have := runes_length n (l.drop (first l).2.1) (by simp only [List.length_drop]; omega)
      simp only [List.length_cons, List.length_drop] at this ⊢
      omega

/-! THE BYTES OF A NUMBER -/
def isChar (r : Int) : Bool := decide (0 ≤ r) && (decide (r ≤ 0x10FFFF) && (decide (r < 0xD800) || decide (0xDFFF < r)))
def fix (r : Int) : Int := if isChar r then r else 0xFFFD
def enc (n : Nat) : List Nat :=
  if n < 0x80 then [n] else if n < 0x800 then [0xC0 + n / 64, 0x80 + n % 64]
  else if n < 0x10000 then [0xE0 + n / 4096, 0x80 + n / 64 % 64, 0x80 + n % 64]
  else [0xF0 + n / 262144, 0x80 + n / 4096 % 64, 0x80 + n / 64 % 64, 0x80 + n % 64]
def put (r : Int) : List Nat := enc (fix r).toNat
def text (l : List Int) : List Nat := l.flatMap put
def clean (l : List Nat) : List Nat := text (runes l)

theorem fix_char (r : Int) : isChar (fix r) = true := by
  unfold fix
  split
  · assumption
  · rfl
theorem fix_of_char {r : Int} (h : isChar r = true) : fix r = r := by unfold fix; rw [if_pos h]
theorem char_bounds {r : Int} (h : isChar r = true) : 0 ≤ r ∧ r ≤ 0x10FFFF ∧ (r < 0xD800 ∨ 0xDFFF < r) := by
  simpa [isChar, Bool.and_eq_true, Bool.or_eq_true] using h
theorem char_of {r : Int} (h : 0 ≤ r ∧ r ≤ 0x10FFFF ∧ (r < 0xD800 ∨ 0xDFFF < r)) : isChar r = true := by
  simpa [isChar, Bool.and_eq_true, Bool.or_eq_true] using h

theorem enc_byte (n : Nat) (h : n ≤ 0x10FFFF) : ∀ b ∈ enc n, b < 256 := by
  unfold enc
  (repeat' split) <;> intro b hb <;> simp at hb <;> omega
theorem put_byte (r : Int) : ∀ b ∈ put r, b < 256 := by
  have := char_bounds (fix_char r)
  exact enc_byte _ (by omega)
theorem text_byte (l : List Int) : ∀ b ∈ text l, b < 256 := by
  intro b hb
  simp only [text, List.mem_flatMap] at hb
  obtain ⟨r, _, h⟩ := hb
  exact put_byte r b h
theorem enc_length (n : Nat) : 1 ≤ (enc n).length ∧ (enc n).length ≤ 4 := by
  unfold enc
  (repeat' split) <;> simp
theorem put_length (r : Int) : 1 ≤ (put r).length ∧ (put r).length ≤ 4 := enc_length _
theorem text_cons (r : Int) (l : List Int) : text (r :: l) = put r ++ text l := rfl
theorem text_append (a b : List Int) : text (a ++ b) = text a ++ text b := by simp [text]
theorem text_length : ∀ l : List Int, l.length ≤ (text l).length ∧ (text l).length ≤ 4 * l.length
  | [] => by simp [text]
  | r :: l => by
    have h1 := put_length r
    have h2 := text_length l
    rw [text_cons, List.length_append, List.length_cons]; omega

theorem lead1 {b : Nat} (h : b < 0x80) : lead b = (1, 0, 0) := by unfold lead; rw [if_pos h]

/-- WHAT IS WRITTEN IS READ AGAIN, whatever is behind it. -/
theorem first_enc (n : Nat) (h : n ≤ 0x10FFFF) (hs : n < 0xD800 ∨ 0xDFFF < n) (t : List Nat) : first (enc n ++ t) = (n, (enc n).length, false) := by
  unfold enc
  split
  · rename_i h1; simp [first, lead1 h1]
  · split
    · rename_i h1 h2
      have e : lead (0xC0 + n / 64) = (2, 0x80, 0xBF) := by unfold lead; (repeat' split) <;> first | rfl | omega
      simp only [List.cons_append, List.nil_append, first, e, cont, low]
      rw [if_neg (by omega), if_neg (by omega), if_neg (by omega)]
      simp; omega
    · split
      · rename_i h1 h2 h3
        rcases lead_cases (0xE0 + n / 4096) with e | e | e | e | e | e | e | e | e
        all_goals first
          | (exfalso; have := e.2; omega)
          | (obtain ⟨e, e'⟩ := e
             simp only [List.cons_append, List.nil_append, first, e, cont, low]
             rw [if_neg (by omega), if_neg (by omega), if_neg (by omega), if_neg (by omega)]
             simp; omega)
      · rename_i h1 h2 h3
        rcases lead_cases (0xF0 + n / 262144) with e | e | e | e | e | e | e | e | e
        all_goals first
          | (exfalso; have := e.2; omega)
          | (obtain ⟨e, e'⟩ := e
             simp only [List.cons_append, List.nil_append, first, e, cont, low]
             rw [if_neg (by omega), if_neg (by omega), if_neg (by omega), if_neg (by omega), if_neg (by omega)]
             simp; omega)

theorem first_put (r : Int) (t : List Nat) : first (put r ++ t) = ((fix r).toNat, (put r).length, false) := by
  have h := char_bounds (fix_char r)
  exact first_enc _ (by omega) (by omega) t
theorem put_ne (r : Int) (t : List Nat) : put r ++ t ≠ [] := by
  have := put_length r
  intro h
  have h2 := congrArg List.length h
  simp at h2
  simp [h2.1] at this
theorem runes_put (r : Int) (t : List Nat) : runes (put r ++ t) = fix r :: runes t := by
  have h := char_bounds (fix_char r)
  rw [runes_step _ (put_ne r t), first_put]
  simp only [List.drop_left]
  rw [Int.toNat_of_nonneg h.1]

/-- P1.6: behind what is clean any bytes are read as they would be alone. -/
theorem runes_text_append : ∀ (l : List Int) (b : List Nat), runes (text l ++ b) = l.map fix ++ runes b
  | [], b => rfl
  | r :: l, b => by rw [text_cons, List.append_assoc, runes_put, runes_text_append l b]; rfl
theorem runes_text (l : List Int) : runes (text l) = l.map fix := by
  have := runes_text_append l []
  simpa [runes_nil] using this
theorem put_fix (r : Int) : put (fix r) = put r := by unfold put; rw [fix_of_char (fix_char r)]
theorem text_fix (l : List Int) : text (l.map fix) = text l := by
  induction l with
  | nil => rfl
  | cons r l ih => rw [List.map_cons, text_cons, text_cons, put_fix, ih]
theorem clean_text (l : List Int) : clean (text l) = text l := by unfold clean; rw [runes_text, text_fix]

/-! WHAT IS READ IS A CHARACTER -/
theorem char_fffd : isChar ((0xfffd : Nat) : Int) = true := char_of (by omega)
theorem cont_char : ∀ (k r i lo hi : Nat) (t : List Nat), 1 ≤ k →
    (∀ c r', lo ≤ c → c ≤ hi → r' = r * 64 + c % 64 → r' * 64 ^ (k - 1) ≤ 0x10FFFF ∧ r' * 64 ^ (k - 1) + (64 ^ (k - 1) - 1) ≤ 0x10FFFF ∧ (r' * 64 ^ (k - 1) + (64 ^ (k - 1) - 1) < 0xD800 ∨ 0xDFFF < r' * 64 ^ (k - 1))) →
    isChar (cont k r i lo hi t).1 = true
  | 0, _, _, _, _, _, h, _ => by omega
  | k + 1, r, i, lo, hi, [], _, _ => by simp only [cont]; exact char_fffd
  | k + 1, r, i, lo, hi, c :: t, _, h => by
    simp only [cont]
    split
    · exact char_fffd
    · rename_i hc
      have h0 := h c _ (by omega) (by omega) rfl
      match k with
      | 0 => simp [cont] at h0 ⊢; exact char_of (by omega)
      | k + 1 =>
        apply cont_char (k + 1) _ _ _ _ t (by omega)
        intro c' r' h1 h2 h3
        simp only [Nat.add_sub_cancel] at h0 ⊢
        have hp : 0 < 64 ^ k := Nat.pow_pos (by omega)
        rw [Nat.pow_succ] at h0
        have hm : c' % 64 ≤ 63 := by omega
        generalize hq : r * 64 + c % 64 = q at *
        have e1 : r' * 64 ^ k = q * (64 ^ k * 64) + c' % 64 * 64 ^ k := by rw [h3, Nat.add_mul, Nat.mul_assoc, Nat.mul_comm 64]
        have e2 : c' % 64 * 64 ^ k ≤ 63 * 64 ^ k := Nat.mul_le_mul_right _ hm
        generalize 64 ^ k = p at *
        generalize q * (p * 64) = z at *
        generalize c' % 64 * p = y at *
        omega

theorem first_char (l : List Nat) (h : l ≠ []) : isChar (first l).1 = true := by
  match l, h with
  | b :: t, _ =>
    simp only [first]
    rcases lead_cases b with ⟨e, hb⟩ | ⟨e, hb⟩ | ⟨e, hb⟩ | ⟨e, hb⟩ | ⟨e, hb⟩ | ⟨e, hb⟩ | ⟨e, hb⟩ | ⟨e, hb⟩ | ⟨e, hb⟩
    all_goals simp only [e]
    · exact char_of (by simp; omega)
    · exact char_fffd
    all_goals
      simp only [show ¬ ((2 : Nat) = 0) by decide, show ¬ ((2 : Nat) = 1) by decide, show ¬ ((3 : Nat) = 0) by decide, show ¬ ((3 : Nat) = 1) by decide, show ¬ ((4 : Nat) = 0) by decide, show ¬ ((4 : Nat) = 1) by decide, if_false]
      apply cont_char _ _ _ _ _ t (by omega)
      intro c r' h1 h2 h3
      simp [low] at h3 ⊢
      omega

theorem runes_char : ∀ (n : Nat) (l : List Nat), l.length ≤ n → ∀ r ∈ runes l, isChar r = true
  | 0, l, h => by
    have : l = [] := List.length_eq_zero_iff.1 (by omega)
    subst this; intro r hr; simp [runes_nil] at hr
  | n + 1, l, h => by
    by_cases e : l = []
    · subst e; intro r hr; simp [runes_nil] at hr
    · have hc := first_count l e
      rw [runes_step l e]
      intro r hr
      rcases List.mem_cons.1 hr with rfl | hr
      · exact first_char l e
      · exact runes_char n _ (by simp only [List.length_drop]; omega) r hr
theorem map_fix_of_char {l : List Int} (h : ∀ r ∈ l, isChar r = true) : l.map fix = l := by
  induction l with
  | nil => rfl
  | cons r l ih => rw [List.map_cons, fix_of_char (h r (by simp)), ih fun x hx => h x (by simp [hx])]
theorem runes_clean (l : List Nat) : runes (clean l) = runes l := by
  unfold clean; rw [runes_text, map_fix_of_char (runes_char _ l (Nat.le_refl _))]
theorem clean_clean (l : List Nat) : clean (clean l) = clean l := clean_text _

/-! PIECES: a beginning that is open is held -/
theorem cont_open : ∀ (k r i lo hi : Nat) (t : List Nat), (cont k r i lo hi t).2.2 = true → (cont k r i lo hi t).1 = 0xfffd ∧ (cont k r i lo hi t).2.1 = i + t.length ∧ t.length < k
  | 0, _, _, _, _, _, h => by simp [cont] at h
  | k + 1, _, i, _, _, [], _ => by simp [cont]
  | k + 1, r, i, lo, hi, c :: t, h => by
    simp only [cont] at h ⊢
    split
    · rename_i hc; rw [if_pos hc] at h; simp at h
    · rename_i hc
      rw [if_neg hc] at h
      have := cont_open k _ _ _ _ t h
      simp only [List.length_cons]
      omega
theorem first_open (l : List Nat) (h : (first l).2.2 = true) : (first l).1 = 0xfffd ∧ (first l).2.1 = l.length ∧ 1 ≤ l.length ∧ l.length ≤ 3 := by
  match l with
  | [] => simp [first] at h
  | b :: t =>
    have hle := lead_le b
    simp only [first] at h ⊢
    split
    · rename_i h0; rw [if_pos h0] at h; simp at h
    · rename_i h0; rw [if_neg h0] at h
      split
      · rename_i h1; rw [if_pos h1] at h; simp at h
      · rename_i h1; rw [if_neg h1] at h
        have := cont_open _ _ _ _ _ _ h
        simp only [List.length_cons]
        omega
theorem cont_more : ∀ (k r i lo hi : Nat) (t u : List Nat), (cont k r i lo hi t).2.2 = false → cont k r i lo hi (t ++ u) = cont k r i lo hi t
  | 0, _, _, _, _, _, _, _ => by simp [cont]
  | k + 1, _, i, _, _, [], _, h => by simp [cont] at h
  | k + 1, r, i, lo, hi, c :: t, u, h => by
    simp only [cont, List.cons_append] at h ⊢
    split
    · rfl
    · rename_i hc; rw [if_neg hc] at h; exact cont_more k _ _ _ _ t u h
theorem first_more (l u : List Nat) (hl : l ≠ []) (h : (first l).2.2 = false) : first (l ++ u) = first l := by
  match l, hl with
  | b :: t, _ =>
    simp only [first, List.cons_append] at h ⊢
    split
    · rfl
    · rename_i h0; rw [if_neg h0] at h
      split
      · rfl
      · rename_i h1; rw [if_neg h1] at h; exact cont_more _ _ _ _ _ _ _ h

/-- what a decoder tells of some bytes, and what it holds of them -/
def feedN : Nat → List Nat → List Int × List Nat
  | 0, _ => ([], [])
  | _ + 1, [] => ([], [])
  | n + 1, b :: t => if (first (b :: t)).2.2 then ([], b :: t) else (((first (b :: t)).1 : Int) :: (feedN n ((b :: t).drop (first (b :: t)).2.1)).1, (feedN n ((b :: t).drop (first (b :: t)).2.1)).2)
def feed (l : List Nat) : List Int × List Nat := feedN l.length l
theorem feedN_any : ∀ (n m : Nat) (l : List Nat), l.length ≤ n → l.length ≤ m → feedN n l = feedN m l
  | 0, m, l, h, _ => by
    have : l = [] := List.length_eq_zero_iff.1 (by omega)
    subst this; cases m <;> rfl
  | n + 1, 0, l, _, h => by
    have : l = [] := List.length_eq_zero_iff.1 (by omega)
    subst this; rfl
  | n + 1, m + 1, [], _, _ => rfl
  | n + 1, m + 1, b :: t, h1, h2 => by
    simp only [feedN]
    have hc := first_count (b :: t) (by simp)
    simp only [List.length_cons] at h1 h2
    rw [feedN_any n m _ (by simp only [List.length_drop, List.length_cons]; omega) (by simp only [List.length_drop, List.length_cons]; omega)]
theorem feed_nil : feed [] = ([], []) := rfl
theorem feed_open (l : List Nat) (h : (first l).2.2 = true) : feed l = ([], l) := by
  match l with
  | [] => simp [first] at h
  | b :: t => simp only [feed, List.length_cons, feedN, h, if_true]
theorem feed_step (l : List Nat) (hl : l ≠ []) (h : (first l).2.2 = false) : feed l = (((first l).1 : Int) :: (feed (l.drop (first l).2.1)).1, (feed (l.drop (first l).2.1)).2) := by
  match l, hl with
  | b :: t, _ =>
    have hc := first_count (b :: t) (by simp)
    simp only [feed, List.length_cons, feedN, h, Bool.false_eq_true, if_false]
    rw [feedN_any t.length]
    · simp only [List.length_drop, List.length_cons]; omega
    · exact Nat.le_refl _
/-- what is held is empty or open -/
theorem feed_held : ∀ (n : Nat) (l : List Nat), l.length ≤ n → (feed l).2 = [] ∨ (first (feed l).2).2.2 = true
  | 0, l, h => by
    have : l = [] := List.length_eq_zero_iff.1 (by omega)
    subst this; exact .inl rfl
  | n + 1, l, h => by
    by_cases e : l = []
    · subst e; exact .inl rfl
    · have hc := first_count l e
      cases ho : (first l).2.2 with
      | true => rw [feed_open l ho]; exact .inr ho
      | false =>
        rw [feed_step l e ho]
        exact feed_held n _ (by simp only [List.length_drop]; omega)
theorem held_length {l : List Nat} (h : l = [] ∨ (first l).2.2 = true) : l.length ≤ 3 := by
  rcases h with rfl | h
  · simp
  · exact (first_open l h).2.2.2
theorem runes_open (l : List Nat) (h : (first l).2.2 = true) : runes l = [0xfffd] := by
  have ho := first_open l h
  have hne : l ≠ [] := by intro e; subst e; simp at ho
  rw [runes_step l hne, ho.1, ho.2.1]
  simp [runes_nil]
/-- THE PIECES: what is told of some bytes, and then of what is held with more behind it. -/
theorem runes_feed : ∀ (n : Nat) (l u : List Nat), l.length ≤ n → runes (l ++ u) = (feed l).1 ++ runes ((feed l).2 ++ u)
  | 0, l, u, h => by
    have : l = [] := List.length_eq_zero_iff.1 (by omega)
    subst this; rfl
  | n + 1, l, u, h => by
    by_cases e : l = []
    · subst e; rfl
    · have hc := first_count l e
      cases ho : (first l).2.2 with
      | true => rw [feed_open l ho]; rfl
      | false =>
        rw [feed_step l e ho, runes_step (l ++ u) (by simp [e]), first_more l u e ho, List.drop_append_of_le_length hc.2.2]
        simp only [List.cons_append, List.cons.injEq, true_and]
        exact runes_feed n _ u (by simp only [List.length_drop]; omega)
theorem feed_bytes : ∀ (n : Nat) (l : List Nat), l.length ≤ n → (feed l).2.length ≤ l.length ∧ (feed l).1.length ≤ l.length ∧ ∃ k, (feed l).2 = l.drop k
  | 0, l, h => by
    have : l = [] := List.length_eq_zero_iff.1 (by omega)
    subst this; exact ⟨by simp [feed_nil], by simp [feed_nil], 0, rfl⟩
  | n + 1, l, h => by
    by_cases e : l = []
    · subst e; exact ⟨by simp [feed_nil], by simp [feed_nil], 0, rfl⟩
    · have hc := first_count l e
      cases ho : (first l).2.2 with
      | true => rw [feed_open l ho]; exact ⟨by simp, by simp, 0, rfl⟩
      | false =>
        rw [feed_step l e ho]
        obtain ⟨h1, h2, k, hk⟩ := feed_bytes n (l.drop (first l).2.1) (by simp only [List.length_drop]; omega)
        simp only [List.length_drop] at h1 h2
        refine ⟨by simp only; omega, by simp only [List.length_cons]; omega, (first l).2.1 + k, ?_⟩
        simp only [hk, List.drop_drop]

end Go.Proofs.YtdgcfmfjgidbjaaGreat.utf
end
section
namespace Go.Proofs.YtdgcfmfjgidbjaaGreat.utf
open Go.RowKit Go.Proofs

theorem lead_fits (b : Nat) : (lead b).1 ≤ 4 ∧ (lead b).2.1 < 256 ∧ (lead b).2.2 < 256 := by
  rcases lead_cases b with h | h | h | h | h | h | h | h | h <;> rw [h.1] <;> decide

set_option maxRecDepth 100000 in
set_option maxHeartbeats 1000000 in
theorem lead_any (b : Nat) (hb : b < 256) (w : World) : Calls Tryz.prog 107 #[.int .u8 b] w fun e w' => e = .returned (.tuple #[.int .i64 (lead b).1, .int .u8 (lead b).2.1, .int .u8 (lead b).2.2]) ∧ w' = w := by
  have hc := lead_cases b
  generalize lead b = q at *
  rcases hc with ⟨rfl, h1⟩ | ⟨rfl, ⟨h1, h2⟩ | h1⟩ | ⟨rfl, h1, h2⟩ | ⟨rfl, h1⟩ | ⟨rfl, h1⟩ | ⟨rfl, h1, h2, h3⟩ | ⟨rfl, h1⟩ | ⟨rfl, h1, h2⟩ | ⟨rfl, h1⟩
  all_goals try subst h1
  all_goals
    go_enter Tryz.func107, Tryz.ntmps107
    go_wp2
    go_ret3
    exact ⟨rfl, rfl⟩

/-- a function that tells the bytes of l -/
def Tells (f : FuncId) (x : Value) (l : List Nat) (w : World) : Prop :=
  ∀ (i : Nat) (w1 : World), i < l.length → Below w.heap.size w w1 → Calls Tryz.prog f #[.int .i64 i, x] w1 fun e w' => e = .returned (.int .u8 (l.getD i 0)) ∧ Below w1.heap.size w1 w'

theorem first_cons (b : Nat) (t : List Nat) : first (b :: t) = if (lead b).1 = 0 then (0xfffd, 1, false) else if (lead b).1 = 1 then (b, 1, false) else cont ((lead b).1 - 1) (low (lead b).1 b) 1 (lead b).2.1 (lead b).2.2 t := rfl

theorem and31 (b : Nat) (h : b < 256) : bits .and .i32 (b : Int) 31 = ((b % 32 : Nat) : Int) := (bits_mask .i32 31 (by decide) wraps_i32 5 (by decide) b (by omega) (by omega)).trans (by simp)
theorem and15 (b : Nat) (h : b < 256) : bits .and .i32 (b : Int) 15 = ((b % 16 : Nat) : Int) := (bits_mask .i32 31 (by decide) wraps_i32 4 (by decide) b (by omega) (by omega)).trans (by simp)
theorem and7 (b : Nat) (h : b < 256) : bits .and .i32 (b : Int) 7 = ((b % 8 : Nat) : Int) := (bits_mask .i32 31 (by decide) wraps_i32 3 (by decide) b (by omega) (by omega)).trans (by simp)

theorem drop_nil {l : List Nat} {i : Nat} (h : [] = l.drop i) : l.length ≤ i := by
  have := congrArg List.length h
  simp at this; omega
theorem drop_cons {l u : List Nat} {c i : Nat} (h : c :: u = l.drop i) : i < l.length ∧ l.getD i 0 = c ∧ u = l.drop (i + 1) := by
  have hl := congrArg List.length h
  simp only [List.length_cons, List.length_drop] at hl
  have hi : i < l.length := by omega
  rw [List.drop_eq_getElem_cons hi] at h
  simp only [List.cons.injEq] at h
  exact ⟨hi, by rw [h.1]; simp [List.getD_eq_getElem?_getD, hi], h.2⟩
theorem getD_mem {l : List Nat} {i : Nat} (h : i < l.length) : l.getD i 0 ∈ l := by
  rw [List.getD_eq_getElem?_getD, List.getElem?_eq_getElem h]; exact List.getElem_mem _
theorem cont_bad {c lo hi : Nat} (k r i : Nat) (u : List Nat) (h : c < lo ∨ hi < c) : cont (k + 1) r i lo hi (c :: u) = (0xfffd, i, false) := by simp only [cont]; rw [if_pos h]
theorem cont_good {c lo hi : Nat} (k r i : Nat) (u : List Nat) (h : ¬ (c < lo ∨ hi < c)) : cont (k + 1) r i lo hi (c :: u) = cont k (r * 64 + c % 64) (i + 1) 0x80 0xBF u := by simp only [cont]; rw [if_neg h]

set_option maxHeartbeats 2000000 in
theorem first_text (x : Value) (b : Nat) (t : List Nat) (w : World) (hlen : t.length < 4611686018427387904) (hbyte : ∀ c ∈ (b :: t), c < 256) (hat : Tells 94 x (b :: t) w) :
    Calls Tryz.prog 93 #[.func (.func 94) #[] #[x], .int .i64 ((b :: t).length : Nat)] w fun e w' =>
      e = .returned (.tuple #[.int .i32 (first (b :: t)).1, .int .i64 (first (b :: t)).2.1, .bool (first (b :: t)).2.2]) ∧ Below w.heap.size w w' := by
  have HA := run.hid hat
  have HB := run.hid hbyte
  have hb : b < 256 := hbyte b (by simp)
  have HF := run.hid (first_cons b t)
  clear hat hbyte
  generalize first (b :: t) = res at *
  have h0 := run.hid (HA.out 0 w (by simp) (Below.refl _ _))
  go_enter Tryz.func93, Tryz.ntmps93
  go_wp2_with fail
  refine (h0.out).mono ?_
  rintro e w1 ⟨rfl, hb1⟩
  clear h0
  go_wp2_with fail
  refine (lead_any b hb w1).mono ?_
  rintro e w2 ⟨rfl, rfl⟩
  have hlf := lead_fits b
  generalize lead b = q at *
  obtain ⟨n, lo, hi⟩ := q
  obtain ⟨hn, hlo, hhi⟩ := hlf
  simp only at hn hlo hhi
  rcases (show n = 0 ∨ n = 1 ∨ n = 2 ∨ n = 3 ∨ n = 4 by omega) with rfl | rfl | rfl | rfl | rfl
  · have hf := run.hid (HF.out.trans (if_pos rfl))
    clear HF
    go_wp2
    go_ret3
    exact ⟨by rw [hf.out]; rfl, hb1⟩
  · have hf := run.hid (HF.out.trans (by simp : _ = (b, 1, false)))
    clear HF
    go_wp2
    go_ret3
    exact ⟨by rw [hf.out]; rfl, hb1⟩
  · have ha := and31 b hb
    go_wp2
    clear ha
    go_loopw [9, 10, 11, 12] (fun vlo vhi vr vi wr => ∃ k i r lo hi : Nat, ∃ u : List Nat, i + k ≤ 2 ∧ 2 ≤ i + k ∧ 1 ≤ i ∧ (k ≠ 0 → r < 131072) ∧ (2 ≤ k → r < 2048) ∧ (3 ≤ k → r < 32) ∧ r < 8388608 ∧ lo < 256 ∧ hi < 256 ∧ vlo = .int .u8 lo ∧ vhi = .int .u8 hi ∧ vr = .int .i32 r ∧ vi = .int .i64 i ∧ i ≤ t.length + 1 ∧ Below w.heap.size w wr ∧ Hid (u = (b :: t).drop i) ∧ Hid (res = cont k r i lo hi u)) (fun _ _ _ i _ => (4 - intOf i).toNat)
    case atStart => exact ⟨1, 1, b % 32, lo, hi, t, by omega, by omega, by omega, by omega, by omega, by omega, by omega, by omega, by omega, rfl, rfl, (by first | rfl | go_num | simp), rfl, by omega, hb1, run.hid rfl, run.hid (HF.out.trans rfl)⟩
    case round =>
      clear HF hb1 hlo hhi
      obtain ⟨k, i, r, lo, hi, u, hk1, hk2, hi1, hr1, hr2, hr3, hr4, hlo, hhi, rfl, rfl, rfl, rfl, hit, hbel, HU, HR⟩ := hrel
      match k with
      | 0 =>
        obtain rfl : i = 2 := by omega
        go_wp2
        go_ret3
        exact ⟨by rw [HR.out]; rfl, hbel⟩
      | k + 1 =>
        have hiN : i < 2 := by omega
        have hr5 : r < 131072 := hr1 (by omega)
        match u with
        | [] =>
          have hlen0 : t.length + 1 ≤ i := by simpa using drop_nil HU.out
          obtain rfl : i = t.length + 1 := by omega
          go_wp2
          go_ret3
          exact ⟨by rw [HR.out]; rfl, hbel⟩
        | c :: u =>
          have hc := drop_cons HU.out
          have hi2 : i < t.length + 1 := by have := hc.1; simpa using this
          have hcb : c < 256 := HB.out c (by rw [← hc.2.1]; exact getD_mem hc.1)
          have HU2 := run.hid hc.2.2
          have H0 := run.hid (HA.out i wr hc.1 hbel)
          have HC := run.hid hc.2.1
          clear hc
          go_wp2_with fail
          refine (H0.out).mono ?_
          rw [HC.out]
          rintro e w3 ⟨rfl, hb3⟩
          have hbel2 := hbel.trans (hb3.mono hbel.size)
          clear H0 HC hb3
          by_cases h1 : c < lo
          · have HR2 := run.hid (HR.out.trans (cont_bad k r i u (.inl h1)))
            go_wp2
            go_ret3
            exact ⟨by rw [HR2.out]; rfl, hbel2⟩
          · by_cases h2 : hi < c
            · have HR2 := run.hid (HR.out.trans (cont_bad k r i u (.inr h2)))
              go_wp2
              go_ret3
              exact ⟨by rw [HR2.out]; rfl, hbel2⟩
            · have HR2 := run.hid (HR.out.trans (cont_good k r i u (by omega)))
              go_wp2
              go_roundw
              case rel => exact ⟨k, i + 1, r * 64 + c % 64, 0x80, 0xBF, u, by omega, by omega, by omega, by omega, by omega, by omega, by omega, by omega, by omega, rfl, rfl, by go_num, by go_num, by omega, hbel2, HU2, HR2⟩
              case measure => simp [intOf]; omega
  · have ha := and15 b hb
    go_wp2
    clear ha
    go_loopw [9, 10, 11, 12] (fun vlo vhi vr vi wr => ∃ k i r lo hi : Nat, ∃ u : List Nat, i + k ≤ 3 ∧ 3 ≤ i + k ∧ 1 ≤ i ∧ (k ≠ 0 → r < 131072) ∧ (2 ≤ k → r < 2048) ∧ (3 ≤ k → r < 32) ∧ r < 8388608 ∧ lo < 256 ∧ hi < 256 ∧ vlo = .int .u8 lo ∧ vhi = .int .u8 hi ∧ vr = .int .i32 r ∧ vi = .int .i64 i ∧ i ≤ t.length + 1 ∧ Below w.heap.size w wr ∧ Hid (u = (b :: t).drop i) ∧ Hid (res = cont k r i lo hi u)) (fun _ _ _ i _ => (4 - intOf i).toNat)
    case atStart => exact ⟨2, 1, b % 16, lo, hi, t, by omega, by omega, by omega, by omega, by omega, by omega, by omega, by omega, by omega, rfl, rfl, (by first | rfl | go_num | simp), rfl, by omega, hb1, run.hid rfl, run.hid (HF.out.trans rfl)⟩
    case round =>
      clear HF hb1 hlo hhi
      obtain ⟨k, i, r, lo, hi, u, hk1, hk2, hi1, hr1, hr2, hr3, hr4, hlo, hhi, rfl, rfl, rfl, rfl, hit, hbel, HU, HR⟩ := hrel
      match k with
      | 0 =>
        obtain rfl : i = 3 := by omega
        go_wp2
        go_ret3
        exact ⟨by rw [HR.out]; rfl, hbel⟩
      | k + 1 =>
        have hiN : i < 3 := by omega
        have hr5 : r < 131072 := hr1 (by omega)
        match u with
        | [] =>
          have hlen0 : t.length + 1 ≤ i := by simpa using drop_nil HU.out
          obtain rfl : i = t.length + 1 := by omega
          go_wp2
          go_ret3
          exact ⟨by rw [HR.out]; rfl, hbel⟩
        | c :: u =>
          have hc := drop_cons HU.out
          have hi2 : i < t.length + 1 := by have := hc.1; simpa using this
          have hcb : c < 256 := HB.out c (by rw [← hc.2.1]; exact getD_mem hc.1)
          have HU2 := run.hid hc.2.2
          have H0 := run.hid (HA.out i wr hc.1 hbel)
          have HC := run.hid hc.2.1
          clear hc
          go_wp2_with fail
          refine (H0.out).mono ?_
          rw [HC.out]
          rintro e w3 ⟨rfl, hb3⟩
          have hbel2 := hbel.trans (hb3.mono hbel.size)
          clear H0 HC hb3
          by_cases h1 : c < lo
          · have HR2 := run.hid (HR.out.trans (cont_bad k r i u (.inl h1)))
            go_wp2
            go_ret3
            exact ⟨by rw [HR2.out]; rfl, hbel2⟩
          · by_cases h2 : hi < c
            · have HR2 := run.hid (HR.out.trans (cont_bad k r i u (.inr h2)))
              go_wp2
              go_ret3
              exact ⟨by rw [HR2.out]; rfl, hbel2⟩
            · have HR2 := run.hid (HR.out.trans (cont_good k r i u (by omega)))
              go_wp2
              go_roundw
              case rel => exact ⟨k, i + 1, r * 64 + c % 64, 0x80, 0xBF, u, by omega, by omega, by omega, by omega, by omega, by omega, by omega, by omega, by omega, rfl, rfl, by go_num, by go_num, by omega, hbel2, HU2, HR2⟩
              case measure => simp [intOf]; omega
  · have ha := and7 b hb
    go_wp2
    clear ha
    go_loopw [9, 10, 11, 12] (fun vlo vhi vr vi wr => ∃ k i r lo hi : Nat, ∃ u : List Nat, i + k ≤ 4 ∧ 4 ≤ i + k ∧ 1 ≤ i ∧ (k ≠ 0 → r < 131072) ∧ (2 ≤ k → r < 2048) ∧ (3 ≤ k → r < 32) ∧ r < 8388608 ∧ lo < 256 ∧ hi < 256 ∧ vlo = .int .u8 lo ∧ vhi = .int .u8 hi ∧ vr = .int .i32 r ∧ vi = .int .i64 i ∧ i ≤ t.length + 1 ∧ Below w.heap.size w wr ∧ Hid (u = (b :: t).drop i) ∧ Hid (res = cont k r i lo hi u)) (fun _ _ _ i _ => (4 - intOf i).toNat)
    case atStart => exact ⟨3, 1, b % 8, lo, hi, t, by omega, by omega, by omega, by omega, by omega, by omega, by omega, by omega, by omega, rfl, rfl, (by first | rfl | go_num | simp), rfl, by omega, hb1, run.hid rfl, run.hid (HF.out.trans rfl)⟩
    case round =>
      clear HF hb1 hlo hhi
      obtain ⟨k, i, r, lo, hi, u, hk1, hk2, hi1, hr1, hr2, hr3, hr4, hlo, hhi, rfl, rfl, rfl, rfl, hit, hbel, HU, HR⟩ := hrel
      match k with
      | 0 =>
        obtain rfl : i = 4 := by omega
        go_wp2
        go_ret3
        exact ⟨by rw [HR.out]; rfl, hbel⟩
      | k + 1 =>
        have hiN : i < 4 := by omega
        have hr5 : r < 131072 := hr1 (by omega)
        match u with
        | [] =>
          have hlen0 : t.length + 1 ≤ i := by simpa using drop_nil HU.out
          obtain rfl : i = t.length + 1 := by omega
          go_wp2
          go_ret3
          exact ⟨by rw [HR.out]; rfl, hbel⟩
        | c :: u =>
          have hc := drop_cons HU.out
          have hi2 : i < t.length + 1 := by have := hc.1; simpa using this
          have hcb : c < 256 := HB.out c (by rw [← hc.2.1]; exact getD_mem hc.1)
          have HU2 := run.hid hc.2.2
          have H0 := run.hid (HA.out i wr hc.1 hbel)
          have HC := run.hid hc.2.1
          clear hc
          go_wp2_with fail
          refine (H0.out).mono ?_
          rw [HC.out]
          rintro e w3 ⟨rfl, hb3⟩
          have hbel2 := hbel.trans (hb3.mono hbel.size)
          clear H0 HC hb3
          by_cases h1 : c < lo
          · have HR2 := run.hid (HR.out.trans (cont_bad k r i u (.inl h1)))
            go_wp2
            go_ret3
            exact ⟨by rw [HR2.out]; rfl, hbel2⟩
          · by_cases h2 : hi < c
            · have HR2 := run.hid (HR.out.trans (cont_bad k r i u (.inr h2)))
              go_wp2
              go_ret3
              exact ⟨by rw [HR2.out]; rfl, hbel2⟩
            · have HR2 := run.hid (HR.out.trans (cont_good k r i u (by omega)))
              go_wp2
              go_roundw
              case rel => exact ⟨k, i + 1, r * 64 + c % 64, 0x80, 0xBF, u, by omega, by omega, by omega, by omega, by omega, by omega, by omega, by omega, by omega, rfl, rfl, by go_num, by go_num, by omega, hbel2, HU2, HR2⟩
              case measure => simp [intOf]; omega

end Go.Proofs.YtdgcfmfjgidbjaaGreat.utf
end
section
namespace Go.Proofs.YtdgcfmfjgidbjaaGreat.utf
open Go.RowKit Go.Proofs
set_option linter.unusedVariables false

/-- a text's bytes as numbers -/
def bs (s : ByteArray) : List Nat := s.data.toList.map UInt8.toNat
theorem bs_length (s : ByteArray) : (bs s).length = s.size := by simp [bs]
theorem bs_byte (s : ByteArray) : ∀ c ∈ bs s, c < 256 := by
  intro c hc
  simp only [bs, List.mem_map] at hc
  obtain ⟨b, _, rfl⟩ := hc
  exact b.toNat_lt
theorem bs_get (s : ByteArray) (i : Nat) (h : i < s.size) : (bs s).getD i 0 = (s[i]'h).toNat := by
  have h' : i < s.data.size := h
  simp only [bs, List.getD_eq_getElem?_getD, List.getElem?_map, Array.getElem?_toList]
  rw [Array.getElem?_eq_getElem h']
  rfl
theorem bs_drop (s : ByteArray) (i : Nat) : bs (s.extract i s.size) = (bs s).drop i := by
  simp [bs, List.map_drop, ByteArray.data_extract]
  exact List.take_of_length_le (by simp)
theorem bs_nil {s : ByteArray} (h : bs s = []) : s.size = 0 := by rw [← bs_length, h]; rfl
theorem bs_cons {s : ByteArray} (h : 0 < s.size) : ∃ b t, bs s = b :: t ∧ s.size = t.length + 1 := by
  cases e : bs s with
  | nil => rw [bs_nil e] at h; omega
  | cons b t => exact ⟨b, t, rfl, by rw [← bs_length, e]; rfl⟩

theorem u8_eq {a b : Nat} (h : a = b) : Value.int .u8 a = Value.int .u8 b := by rw [h]
theorem ret_eq {v v' : Value} (h : v = v') : Ending.returned v = Ending.returned v' := by rw [h]

set_option maxHeartbeats 400000 in
theorem at_text (s : ByteArray) (p i : Nat) (w : World) (hi : i < s.size) (hs : s.size ≤ maxLen) (hc : w.cell? ⟨p, 0, none⟩ = some (.string s)) :
    Calls Tryz.prog 94 #[.int .i64 i, .pointer (some ⟨p, 0, none⟩)] w fun e w' => e = .returned (.int .u8 ((bs s).getD i 0)) ∧ Below w.heap.size w w' := by
  unfold maxLen at hs
  have hg := run.hid (bs_get s i hi)
  go_enter Tryz.func94, Tryz.ntmps94
  go_wp2
  go_ret
  exact ⟨ret_eq (by rw [hg.out]; rfl), Below.refl _ _⟩

theorem tells_text (s : ByteArray) (w : World) (hs : s.size ≤ maxLen) (p : Nat) (hp : p < w.heap.size) (hc : w.cell? ⟨p, 0, none⟩ = some (.string s)) :
    Tells 94 (.pointer (some ⟨p, 0, none⟩)) (bs s) w := by
  intro i w1 hi hb
  exact at_text s p i w1 (by rw [bs_length] at hi; exact hi) hs ((hb.cell (p := ⟨p, 0, none⟩) hp).trans hc)

theorem empty_text {s : ByteArray} (h : s.size = 0) : s.toList.isEmpty = true := by
  have : s.data.toList = [] := List.length_eq_zero_iff.1 (by simpa using h)
  simp [ByteArray.toList_eq, this]
theorem full_text {s : ByteArray} (h : 0 < s.size) : s.toList.isEmpty = false := by
  cases e : s.toList.isEmpty with
  | false => rfl
  | true => exfalso; simp [ByteArray.toList_eq] at e; have : s.data.size = 0 := by rw [e]; rfl
            have : s.size = 0 := this
            omega

set_option maxHeartbeats 1000000 in
theorem decode_any (s : ByteArray) (w : World) (hs : s.size < 4611686018427387904) :
    Calls Tryz.prog 76 #[.string s] w fun e w' => e = .returned (.tuple #[.int .i32 (first (bs s)).1, .int .i64 (first (bs s)).2.1]) ∧ Below w.heap.size w w' := by
  by_cases h0 : s.size = 0
  · have hn := run.hid (show first (bs s) = (0, 0, false) by rw [List.length_eq_zero_iff.1 (show (bs s).length = 0 by rw [bs_length]; exact h0)]; rfl)
    have he := empty_text h0
    go_enter Tryz.func76, Tryz.ntmps76
    go_wp2
    go_ret2
    exact ⟨by rw [hn.out]; rfl, run.below_one _ _⟩
  · have he := full_text (s := s) (by omega)
    have hsz := run.size_one w (Obj.cells #[Value.string s] 9)
    have ht := run.hid (tells_text s (w.alloc (Obj.cells #[Value.string s] 9)) (by unfold maxLen; omega) w.heap.size (by omega) (run.cell_new _ _ _))
    have bel := run.below_one w (Obj.cells #[Value.string s] 9)
    clear hsz
    go_enter Tryz.func76, Tryz.ntmps76
    obtain ⟨b, t, hbt, hsz⟩ := bs_cons (s := s) (by omega)
    have hby := bs_byte s
    rw [hbt] at hby ht ⊢
    have HF := run.hid (first_text _ b t _ (by omega) hby ht.out)
    rw [show (b :: t).length = s.size from hsz.symm] at HF
    clear ht hby hbt hsz
    generalize first (b :: t) = q at *
    obtain ⟨r, n, o⟩ := q
    go_wp2_with fail
    refine (HF.out).mono ?_
    rintro e w1 ⟨rfl, hb1⟩
    have bel1 := bel.trans (hb1.mono bel.size)
    clear HF bel hb1
    go_wp2
    go_ret2
    exact ⟨rfl, bel1⟩
end Go.Proofs.YtdgcfmfjgidbjaaGreat.utf
end
section
namespace Go.Proofs.YtdgcfmfjgidbjaaGreat.utf
open Go.RowKit Go.Proofs
set_option linter.unusedVariables false

theorem info_rune : (Tryz.prog.info? 21).map (fun i => (i.zero, i.size, i.bytes)) = some (some (.int .i32 0), 1, 4) := by kernel_rfl
theorem info_byte : (Tryz.prog.info? 5).map (fun i => (i.zero, i.size, i.bytes)) = some (some (.int .u8 0), 1, 1) := by kernel_rfl

def rv (l : List Int) : List Value := l.map (Value.int .i32)
theorem rv_length (l : List Int) : (rv l).length = l.length := by simp [rv]
theorem rv_snoc (l : List Int) (x : Int) : rv l ++ [.int .i32 x] = rv (l ++ [x]) := by simp [rv]

theorem runes_at {s : ByteArray} {k : Nat} (hk : k < s.size) : runes ((bs s).drop k) = ((first (bs (s.extract k s.size))).1 : Int) :: runes ((bs s).drop (k + (first (bs (s.extract k s.size))).2.1)) := by
  have hne : (bs s).drop k ≠ [] := by
    intro h; have := congrArg List.length h; simp [bs_length] at this; omega
  rw [bs_drop, runes_step _ hne, List.drop_drop]
theorem count_at {s : ByteArray} {k : Nat} (hk : k < s.size) : 1 ≤ (first (bs (s.extract k s.size))).2.1 ∧ (first (bs (s.extract k s.size))).2.1 ≤ 4 ∧ k + (first (bs (s.extract k s.size))).2.1 ≤ s.size := by
  have hne : (bs s).drop k ≠ [] := by
    intro h; have := congrArg List.length h; simp [bs_length] at this; omega
  have := first_count _ hne
  rw [List.length_drop, bs_length] at this
  rw [bs_drop]; omega

def Runes (s : ByteArray) (w : World) (e : Ending) (w' : World) : Prop :=
  ∃ v, e = .returned v ∧ w'.ownsRow w.heap.size 21 1 v (runes (bs s)).length (rv (runes (bs s))) ∧ Below w.heap.size w w' ∧ (v = .slice none 0 0 ↔ runes (bs s) = [])

theorem all_read {s : ByteArray} {k : Nat} {xs : List Int} (h : runes (bs s) = xs ++ runes ((bs s).drop k)) (hk : s.size ≤ k) : runes (bs s) = xs := by
  rw [h, List.drop_eq_nil_of_le (by rw [bs_length]; exact hk), runes_nil, List.append_nil]

theorem run_more {s : ByteArray} {k : Nat} {xs ys : List Int} {r : Int} (h : runes (bs s) = xs ++ runes ((bs s).drop k)) (h2 : runes ((bs s).drop k) = r :: ys) : xs.length + 1 ≤ (runes (bs s)).length := by
  rw [h, h2]; simp

set_option maxHeartbeats 2000000 in
theorem runes_any (s : ByteArray) (w : World) (hs : s.size < 4611686018427387904) (hn : (runes (bs s)).length ≤ 35184372088832) : Calls Tryz.prog 54 #[.string s] w (Runes s w) := by
  obtain ⟨i0, hi, hz0, hz1, hz2⟩ := info_parts info_rune
  go_enter Tryz.func54, Tryz.ntmps54
  go_wp2
  go_loopw [3, 4] (fun v vk wr => ∃ k : Nat, ∃ xs : List Int, k ≤ s.size ∧ xs.length ≤ k ∧ vk = .int .i64 k ∧ wr.ownsRow w.heap.size 21 1 v xs.length (rv xs) ∧ Below w.heap.size w wr ∧ Hid (runes (bs s) = xs ++ runes ((bs s).drop k)) ∧ Hid (v = .slice none 0 0 ↔ xs = [])) (fun _ k _ => (s.size - intOf k).toNat)
  case atStart => exact ⟨0, [], by omega, by simp, rfl, World.ownsRow_nil _ _ _ _, Below.refl _ _, run.hid rfl, run.hid ⟨fun _ => rfl, fun _ => rfl⟩⟩
  case round =>
    obtain ⟨k, xs, hk, hxk, rfl, hown, hbel, HX, HV⟩ := hrel
    have hsz := hbel.size
    by_cases hks : k < s.size
    · have hc := count_at hks
      have HR := run.hid (runes_at hks)
      have hmore := run_more HX.out HR.out
      have HD := run.hid (fun w => decode_any (s.extract k s.size) w (by rw [← bs_length, bs_drop, List.length_drop, bs_length]; omega))
      go_wp2_with fail
      refine (HD.out wr).mono ?_
      generalize first (bs (s.extract k s.size)) = q at *
      obtain ⟨r, n, o⟩ := q
      simp only at hc
      obtain ⟨hc1, hc2, hc3⟩ := hc
      rintro e w1 ⟨rfl, hb1⟩
      have hown1 := run.own_below hown (hb1.mono (Nat.le_refl _))
      have hbel1 := hbel.trans (hb1.mono hsz)
      have hsz1 := hbel1.size
      clear hown hbel hsz HD hb1
      go_wp2_with (at_builtin; refine wpList_append_own _ rfl _ _ 97 rfl w.heap.size 21 i0 (.int .i32 0) 1 4 Tryz.underlying97 hi hz0 hz1 hz2 rfl (by decide) _ _ _ rfl (hown1.alloc _) ⟨w1.heap.size, 0, none⟩ 1 1 [.int .i32 r] rfl rfl (run.news_one _ _ _) (by intro u hu; simp at hu; subst hu; rfl) (by unfold maxLen; omega) (by omega) (by simp; omega) ?_)
      intro v' w2 hown2 hgrow hnil
      rw [rv_snoc] at hown2
      have hbel2 := run.below_append (hbel1.alloc hsz1 _) (hown1.alloc _) hgrow (by simp; omega)
      have hx2 := run.hid (HX.out.trans (by rw [HR.out]; simp : _ = (xs ++ [(r : Int)]) ++ runes ((bs s).drop (k + n))))
      have hn2 := run.hid (show v' = .slice none 0 0 ↔ xs ++ [(r : Int)] = [] from ⟨fun h => (hnil h).elim, fun h => by simp at h⟩)
      have ho3 : w2.ownsRow w.heap.size 21 1 v' (xs ++ [(r : Int)]).length (rv (xs ++ [(r : Int)])) := by rw [List.length_append]; exact hown2
      have hl3 : (xs ++ [(r : Int)]).length ≤ k + n := by simp; omega
      clear hown1 hown2 hgrow hnil hbel1
      go_wp2
      go_roundw
      case rel => exact ⟨k + n, _, hc3, hl3, by go_num, ho3, hbel2, hx2, hn2⟩
      case measure => simp [intOf]; omega
    · have hfin := run.hid (all_read HX.out (by omega))
      go_wp2
      go_ret
      exact ⟨_, rfl, by rw [hfin.out]; exact hown, hbel, by rw [hfin.out]; exact HV.out⟩
end Go.Proofs.YtdgcfmfjgidbjaaGreat.utf
end
section
namespace Go.Proofs.YtdgcfmfjgidbjaaGreat.utf
open Go.RowKit Go.Proofs
set_option linter.unusedVariables false

def bv (l : List Nat) : List Value := l.map fun b : Nat => Value.int .u8 b
theorem bv_length (l : List Nat) : (bv l).length = l.length := by simp [bv]
theorem bv_append (a b : List Nat) : bv a ++ bv b = bv (a ++ b) := by simp [bv]

def Put (B : Nat) (w : World) (l : List Nat) (e : Ending) (w' : World) : Prop :=
  ∃ v, e = .returned v ∧ w'.ownsRow B 5 1 v l.length (bv l) ∧ Below B w w'

theorem and63 (x : Int) (h0 : 0 ≤ x) (h1 : x < 2147483648) : bits .and .i32 x 63 = x % 64 := bits_mask .i32 31 (by decide) wraps_i32 6 (by decide) x h0 h1
theorem tail6 (x : Int) (h0 : 0 ≤ x) (h1 : x < 2147483648) : bits .or .u8 128 (bits .and .i32 x 63 % 256) = ((0x80 + x.toNat % 64 : Nat) : Int) := by
  rw [and63 x h0 h1, show x % 64 % 256 = x % 64 by omega, u8_or128 (x % 64) (by omega) (by omega)]; omega
theorem or_head (x m : Nat) (k : Nat) (hm : m % 2 ^ k = 0) (hx : x < 2 ^ k) (h1 : x < 256) (h2 : m < 256) : bits .or .u8 (x : Int) (m : Int) = ((m + x : Nat) : Int) := by
  rw [u8_or_nat x m h1 h2, Nat.or_comm, nat_join k m x hm hx]
theorem xor63 : bits .xor .u8 (if IntKind.u8.signed = true then -1 else IntKind.u8.max) 63 = 192 := by decide
theorem xor31 : bits .xor .u8 (if IntKind.u8.signed = true then -1 else IntKind.u8.max) 31 = 224 := by decide
theorem xor15 : bits .xor .u8 (if IntKind.u8.signed = true then -1 else IntKind.u8.max) 15 = 240 := by decide
theorem head2 (x : Int) (h0 : 0 ≤ x) (h1 : x < 32) : bits .or .u8 x (bits .xor .u8 (if IntKind.u8.signed = true then -1 else IntKind.u8.max) 63) = ((0xC0 + x.toNat : Nat) : Int) := by
  have := or_head x.toNat 192 5 (by decide) (by omega) (by omega) (by omega)
  rw [xor63]; rw [Int.toNat_of_nonneg h0] at this; exact this
theorem head3 (x : Int) (h0 : 0 ≤ x) (h1 : x < 16) : bits .or .u8 x (bits .xor .u8 (if IntKind.u8.signed = true then -1 else IntKind.u8.max) 31) = ((0xE0 + x.toNat : Nat) : Int) := by
  have := or_head x.toNat 224 4 (by decide) (by omega) (by omega) (by omega)
  rw [xor31]; rw [Int.toNat_of_nonneg h0] at this; exact this
theorem head4 (x : Int) (h0 : 0 ≤ x) (h1 : x < 8) : bits .or .u8 x (bits .xor .u8 (if IntKind.u8.signed = true then -1 else IntKind.u8.max) 15) = ((0xF0 + x.toNat : Nat) : Int) := by
  have := or_head x.toNat 240 3 (by decide) (by omega) (by omega) (by omega)
  rw [xor15]; rw [Int.toNat_of_nonneg h0] at this; exact this

theorem news_row (w : World) (xs ys : List Value) (t : TypeId) : ∀ j u, xs[j]? = some u → (w.alloc (.cells (xs ++ ys).toArray t)).cell? ((⟨w.heap.size, 0, none⟩ : Addr).add j) = some u := by
  intro j u hj
  have hlt : j < xs.length := by
    rcases Nat.lt_or_ge j xs.length with h | h
    · exact h
    · simp [List.getElem?_eq_none h] at hj
  have hc : (w.alloc (.cells (xs ++ ys).toArray t)).cell? ⟨w.heap.size, j, none⟩ = some u := by
    simp only [World.cell?]; rw [run.heap_new]
    simp only [Option.isSome_none, Bool.false_eq_true, if_false, List.getElem?_toArray]
    rw [List.getElem?_append_left hlt]; exact hj
  unfold Addr.add
  split
  · rename_i h0; subst h0; exact hc
  · simpa using hc
theorem bv_one (l : List Nat) : ∀ u ∈ bv l, u.oneCell' = true := by
  intro u hu
  simp only [bv, List.mem_map] at hu
  obtain ⟨b, _, rfl⟩ := hu
  rfl
theorem put_end {B : Nat} {w w1 w' : World} {v v' : Value} {l m : List Nat} (hb : Below B w w1) (hB : B ≤ w1.heap.size) (hown : w1.ownsRow B 5 1 v l.length (bv l)) (hown' : w'.ownsRow B 5 1 v' (l.length + m.length) (bv l ++ bv m)) (hg : w1.grownBy w' v.ownBlock) :
    Put B w (l ++ m) (.returned v') w' :=
  ⟨v', rfl, by rw [List.length_append, ← bv_append]; exact hown', run.below_append hb hown hg hB⟩

theorem enc1 {n : Int} (h0 : 0 ≤ n) (h : n < 0x80) : enc n.toNat = [n.toNat] := by unfold enc; rw [if_pos (by omega)]
theorem enc2 {n : Int} (h0 : 0x80 ≤ n) (h : n < 0x800) : enc n.toNat = [0xC0 + (n / 64).toNat, 0x80 + n.toNat % 64] := by unfold enc; rw [if_neg (by omega), if_pos (by omega)]; simp; omega
theorem enc3 {n : Int} (h0 : 0x800 ≤ n) (h : n < 0x10000) : enc n.toNat = [0xE0 + (n / 64 / 64).toNat, 0x80 + (n / 64).toNat % 64, 0x80 + n.toNat % 64] := by unfold enc; rw [if_neg (by omega), if_neg (by omega), if_pos (by omega)]; simp; omega
theorem enc4 {n : Int} (h0 : 0x10000 ≤ n) : enc n.toNat = [0xF0 + (n / 64 / 64 / 64).toNat, 0x80 + (n / 64 / 64).toNat % 64, 0x80 + (n / 64).toNat % 64, 0x80 + n.toNat % 64] := by unfold enc; rw [if_neg (by omega), if_neg (by omega), if_neg (by omega)]; simp; omega
theorem bad_neg {r : Int} (h : r < 0) : put r = enc 0xfffd := by
  have : isChar r = false := by unfold isChar; rw [decide_eq_false (by omega)]; rfl
  unfold put fix; rw [this]; rfl
theorem bad_sur {r : Int} (h1 : 0xD800 ≤ r) (h2 : r ≤ 0xDFFF) : put r = enc 0xfffd := by
  have : isChar r = false := by unfold isChar; rw [decide_eq_false (show ¬ r < 0xD800 by omega), decide_eq_false (show ¬ 0xDFFF < r by omega)]; simp
  unfold put fix; rw [this]; rfl
theorem bad_big {r : Int} (h : 0x10FFFF < r) : put r = enc 0xfffd := by
  have : isChar r = false := by unfold isChar; rw [decide_eq_false (show ¬ r ≤ 0x10FFFF by omega)]; simp
  unfold put fix; rw [this]; rfl
theorem good_put {r : Int} (h : 0 ≤ r) (h1 : r ≤ 0x10FFFF) (h2 : r < 0xD800 ∨ 0xDFFF < r) : put r = enc r.toNat := by unfold put; rw [fix_of_char (char_of ⟨h, h1, h2⟩)]

set_option maxRecDepth 100000 in
set_option maxHeartbeats 2000000 in
theorem put_1 (B : Nat) (v : Value) (l : List Nat) (n : Int) (w : World) (hl : l.length ≤ 140737488355324) (hB : B ≤ w.heap.size) (hown : w.ownsRow B 5 1 v l.length (bv l)) (h1 : 0 ≤ n) (h2 : n < 0x80) :
    Calls Tryz.prog 81 #[v, .int .i32 n] w (Put B w (l ++ enc n.toNat)) := by
  obtain ⟨i0, hi, hz0, hz1, hz2⟩ := info_parts info_byte
  have henc := run.hid (show enc n.toNat = [n.toNat] from enc1 h1 h2)
  rw [henc.out]
  clear henc
  obtain ⟨n, rfl⟩ := Int.eq_ofNat_of_zero_le h1
  rw [Int.toNat_natCast]
  go_enter Tryz.func81, Tryz.ntmps81
  go_wp2_with (at_builtin; go_must (refine wpList_append_own _ rfl _ _ 129 rfl B 5 i0 (.int .u8 0) 1 1 Tryz.underlying129 hi hz0 hz1 hz2 rfl (by decide) _ _ _ rfl (hown.alloc _) ⟨w.heap.size, 0, none⟩ 1 1 (bv [n]) rfl rfl (news_row w (bv [n]) [] _) (bv_one _) (by unfold maxLen; omega) (by omega) (by simp; omega) ?_))
  intro v' w2 hown2 hgrow hnil
  go_wp2
  go_ret
  exact put_end (m := [n]) ((Below.refl _ _).alloc hB _) (by simp; omega) (hown.alloc _) hown2 hgrow

set_option maxRecDepth 100000 in
set_option maxHeartbeats 2000000 in
theorem put_2 (B : Nat) (v : Value) (l : List Nat) (n : Int) (w : World) (hl : l.length ≤ 140737488355324) (hB : B ≤ w.heap.size) (hown : w.ownsRow B 5 1 v l.length (bv l)) (h1 : 0x80 ≤ n) (h2 : n < 0x800) :
    Calls Tryz.prog 81 #[v, .int .i32 n] w (Put B w (l ++ enc n.toNat)) := by
  obtain ⟨i0, hi, hz0, hz1, hz2⟩ := info_parts info_byte
  obtain ⟨c0, hc0⟩ : ∃ c : Nat, c = 0xC0 + (n / 64).toNat := ⟨_, rfl⟩
  obtain ⟨c1, hc1⟩ : ∃ c : Nat, c = 0x80 + n.toNat % 64 := ⟨_, rfl⟩
  have henc := run.hid (show enc n.toNat = [c0, c1] from by rw [enc2 h1 h2, hc0, hc1])
  rw [henc.out]
  clear henc
  have e0 := run.hid (head2 (n / 64) (by omega) (by omega))
  rw [← hc0] at e0
  have e1 := run.hid (tail6 n (by omega) (by omega))
  rw [← hc1] at e1
  clear hc0
  clear hc1
  go_enter Tryz.func81, Tryz.ntmps81
  go_upto_region 22 with fail
  rw [e0.out, e1.out]
  go_wp2_with (at_builtin; go_must (refine wpList_append_own _ rfl _ _ 129 rfl B 5 i0 (.int .u8 0) 1 1 Tryz.underlying129 hi hz0 hz1 hz2 rfl (by decide) _ _ _ rfl (hown.alloc _) ⟨w.heap.size, 0, none⟩ 2 4 (bv [c0, c1]) rfl rfl (news_row w (bv [c0, c1]) [Value.int .u8 0, Value.int .u8 0] _) (bv_one _) (by unfold maxLen; omega) (by omega) (by simp; omega) ?_))
  intro v' w2 hown2 hgrow hnil
  go_wp2
  go_ret
  exact put_end (m := [c0, c1]) ((Below.refl _ _).alloc hB _) (by simp; omega) (hown.alloc _) hown2 hgrow

set_option maxRecDepth 100000 in
set_option maxHeartbeats 2000000 in
theorem put_3a (B : Nat) (v : Value) (l : List Nat) (n : Int) (w : World) (hl : l.length ≤ 140737488355324) (hB : B ≤ w.heap.size) (hown : w.ownsRow B 5 1 v l.length (bv l)) (h1 : 0x800 ≤ n) (h2 : n < 0xD800) :
    Calls Tryz.prog 81 #[v, .int .i32 n] w (Put B w (l ++ enc n.toNat)) := by
  obtain ⟨i0, hi, hz0, hz1, hz2⟩ := info_parts info_byte
  obtain ⟨c0, hc0⟩ : ∃ c : Nat, c = 0xE0 + (n / 64 / 64).toNat := ⟨_, rfl⟩
  obtain ⟨c1, hc1⟩ : ∃ c : Nat, c = 0x80 + (n / 64).toNat % 64 := ⟨_, rfl⟩
  obtain ⟨c2, hc2⟩ : ∃ c : Nat, c = 0x80 + n.toNat % 64 := ⟨_, rfl⟩
  have henc := run.hid (show enc n.toNat = [c0, c1, c2] from by rw [enc3 h1 (by omega), hc0, hc1, hc2])
  rw [henc.out]
  clear henc
  have e0 := run.hid (head3 (n / 64 / 64) (by omega) (by omega))
  rw [← hc0] at e0
  have e1 := run.hid (tail6 (n / 64) (by omega) (by omega))
  rw [← hc1] at e1
  have e2 := run.hid (tail6 n (by omega) (by omega))
  rw [← hc2] at e2
  clear hc0
  clear hc1
  clear hc2
  go_enter Tryz.func81, Tryz.ntmps81
  go_upto_region 22 with fail
  rw [e0.out, e1.out, e2.out]
  go_wp2_with (at_builtin; go_must (refine wpList_append_own _ rfl _ _ 129 rfl B 5 i0 (.int .u8 0) 1 1 Tryz.underlying129 hi hz0 hz1 hz2 rfl (by decide) _ _ _ rfl (hown.alloc _) ⟨w.heap.size, 0, none⟩ 3 4 (bv [c0, c1, c2]) rfl rfl (news_row w (bv [c0, c1, c2]) [Value.int .u8 0] _) (bv_one _) (by unfold maxLen; omega) (by omega) (by simp; omega) ?_))
  intro v' w2 hown2 hgrow hnil
  go_wp2
  go_ret
  exact put_end (m := [c0, c1, c2]) ((Below.refl _ _).alloc hB _) (by simp; omega) (hown.alloc _) hown2 hgrow

set_option maxRecDepth 100000 in
set_option maxHeartbeats 2000000 in
theorem put_3b (B : Nat) (v : Value) (l : List Nat) (n : Int) (w : World) (hl : l.length ≤ 140737488355324) (hB : B ≤ w.heap.size) (hown : w.ownsRow B 5 1 v l.length (bv l)) (h1 : 0xDFFF < n) (h2 : n < 0x10000) :
    Calls Tryz.prog 81 #[v, .int .i32 n] w (Put B w (l ++ enc n.toNat)) := by
  obtain ⟨i0, hi, hz0, hz1, hz2⟩ := info_parts info_byte
  obtain ⟨c0, hc0⟩ : ∃ c : Nat, c = 0xE0 + (n / 64 / 64).toNat := ⟨_, rfl⟩
  obtain ⟨c1, hc1⟩ : ∃ c : Nat, c = 0x80 + (n / 64).toNat % 64 := ⟨_, rfl⟩
  obtain ⟨c2, hc2⟩ : ∃ c : Nat, c = 0x80 + n.toNat % 64 := ⟨_, rfl⟩
  have henc := run.hid (show enc n.toNat = [c0, c1, c2] from by rw [enc3 (by omega) h2, hc0, hc1, hc2])
  rw [henc.out]
  clear henc
  have e0 := run.hid (head3 (n / 64 / 64) (by omega) (by omega))
  rw [← hc0] at e0
  have e1 := run.hid (tail6 (n / 64) (by omega) (by omega))
  rw [← hc1] at e1
  have e2 := run.hid (tail6 n (by omega) (by omega))
  rw [← hc2] at e2
  clear hc0
  clear hc1
  clear hc2
  go_enter Tryz.func81, Tryz.ntmps81
  go_upto_region 22 with fail
  rw [e0.out, e1.out, e2.out]
  go_wp2_with (at_builtin; go_must (refine wpList_append_own _ rfl _ _ 129 rfl B 5 i0 (.int .u8 0) 1 1 Tryz.underlying129 hi hz0 hz1 hz2 rfl (by decide) _ _ _ rfl (hown.alloc _) ⟨w.heap.size, 0, none⟩ 3 4 (bv [c0, c1, c2]) rfl rfl (news_row w (bv [c0, c1, c2]) [Value.int .u8 0] _) (bv_one _) (by unfold maxLen; omega) (by omega) (by simp; omega) ?_))
  intro v' w2 hown2 hgrow hnil
  go_wp2
  go_ret
  exact put_end (m := [c0, c1, c2]) ((Below.refl _ _).alloc hB _) (by simp; omega) (hown.alloc _) hown2 hgrow

set_option maxRecDepth 100000 in
set_option maxHeartbeats 2000000 in
theorem put_4 (B : Nat) (v : Value) (l : List Nat) (n : Int) (w : World) (hl : l.length ≤ 140737488355324) (hB : B ≤ w.heap.size) (hown : w.ownsRow B 5 1 v l.length (bv l)) (h1 : 0x10000 ≤ n) (h2 : n ≤ 0x10FFFF) :
    Calls Tryz.prog 81 #[v, .int .i32 n] w (Put B w (l ++ enc n.toNat)) := by
  obtain ⟨i0, hi, hz0, hz1, hz2⟩ := info_parts info_byte
  obtain ⟨c0, hc0⟩ : ∃ c : Nat, c = 0xF0 + (n / 64 / 64 / 64).toNat := ⟨_, rfl⟩
  obtain ⟨c1, hc1⟩ : ∃ c : Nat, c = 0x80 + (n / 64 / 64).toNat % 64 := ⟨_, rfl⟩
  obtain ⟨c2, hc2⟩ : ∃ c : Nat, c = 0x80 + (n / 64).toNat % 64 := ⟨_, rfl⟩
  obtain ⟨c3, hc3⟩ : ∃ c : Nat, c = 0x80 + n.toNat % 64 := ⟨_, rfl⟩
  have henc := run.hid (show enc n.toNat = [c0, c1, c2, c3] from by rw [enc4 h1, hc0, hc1, hc2, hc3])
  rw [henc.out]
  clear henc
  have e0 := run.hid (head4 (n / 64 / 64 / 64) (by omega) (by omega))
  rw [← hc0] at e0
  have e1 := run.hid (tail6 (n / 64 / 64) (by omega) (by omega))
  rw [← hc1] at e1
  have e2 := run.hid (tail6 (n / 64) (by omega) (by omega))
  rw [← hc2] at e2
  have e3 := run.hid (tail6 n (by omega) (by omega))
  rw [← hc3] at e3
  clear hc0
  clear hc1
  clear hc2
  clear hc3
  go_enter Tryz.func81, Tryz.ntmps81
  go_upto_region 22 with fail
  rw [e0.out, e1.out, e2.out, e3.out]
  go_wp2_with (at_builtin; go_must (refine wpList_append_own _ rfl _ _ 129 rfl B 5 i0 (.int .u8 0) 1 1 Tryz.underlying129 hi hz0 hz1 hz2 rfl (by decide) _ _ _ rfl (hown.alloc _) ⟨w.heap.size, 0, none⟩ 4 4 (bv [c0, c1, c2, c3]) rfl rfl (news_row w (bv [c0, c1, c2, c3]) [] _) (bv_one _) (by unfold maxLen; omega) (by omega) (by simp; omega) ?_))
  intro v' w2 hown2 hgrow hnil
  go_wp2
  go_ret
  exact put_end (m := [c0, c1, c2, c3]) ((Below.refl _ _).alloc hB _) (by simp; omega) (hown.alloc _) hown2 hgrow

set_option maxRecDepth 100000 in
set_option maxHeartbeats 2000000 in
theorem put_neg (B : Nat) (v : Value) (l : List Nat) (n : Int) (w : World) (hl : l.length ≤ 140737488355324) (hB : B ≤ w.heap.size) (hown : w.ownsRow B 5 1 v l.length (bv l)) (h1 : n < 0) :
    Calls Tryz.prog 81 #[v, .int .i32 n] w (Put B w (l ++ enc 0xfffd)) := by
  obtain ⟨i0, hi, hz0, hz1, hz2⟩ := info_parts info_byte
  have henc := run.hid (show enc 0xfffd = [0xEF, 0xBF, 0xBD] from by decide)
  rw [henc.out]
  clear henc
  go_enter Tryz.func81, Tryz.ntmps81
  go_upto_region 22 with fail
  go_wp2_with (at_builtin; go_must (refine wpList_append_own _ rfl _ _ 129 rfl B 5 i0 (.int .u8 0) 1 1 Tryz.underlying129 hi hz0 hz1 hz2 rfl (by decide) _ _ _ rfl (hown.alloc _) ⟨w.heap.size, 0, none⟩ 3 4 (bv [0xEF, 0xBF, 0xBD]) rfl rfl (news_row w (bv [0xEF, 0xBF, 0xBD]) [Value.int .u8 0] _) (bv_one _) (by unfold maxLen; omega) (by omega) (by simp; omega) ?_))
  intro v' w2 hown2 hgrow hnil
  go_wp2
  go_ret
  exact put_end (m := [0xEF, 0xBF, 0xBD]) ((Below.refl _ _).alloc hB _) (by simp; omega) (hown.alloc _) hown2 hgrow

set_option maxRecDepth 100000 in
set_option maxHeartbeats 2000000 in
theorem put_sur (B : Nat) (v : Value) (l : List Nat) (n : Int) (w : World) (hl : l.length ≤ 140737488355324) (hB : B ≤ w.heap.size) (hown : w.ownsRow B 5 1 v l.length (bv l)) (h1 : 0xD800 ≤ n) (h2 : n ≤ 0xDFFF) :
    Calls Tryz.prog 81 #[v, .int .i32 n] w (Put B w (l ++ enc 0xfffd)) := by
  obtain ⟨i0, hi, hz0, hz1, hz2⟩ := info_parts info_byte
  have henc := run.hid (show enc 0xfffd = [0xEF, 0xBF, 0xBD] from by decide)
  rw [henc.out]
  clear henc
  go_enter Tryz.func81, Tryz.ntmps81
  go_upto_region 22 with fail
  go_wp2_with (at_builtin; go_must (refine wpList_append_own _ rfl _ _ 129 rfl B 5 i0 (.int .u8 0) 1 1 Tryz.underlying129 hi hz0 hz1 hz2 rfl (by decide) _ _ _ rfl (hown.alloc _) ⟨w.heap.size, 0, none⟩ 3 4 (bv [0xEF, 0xBF, 0xBD]) rfl rfl (news_row w (bv [0xEF, 0xBF, 0xBD]) [Value.int .u8 0] _) (bv_one _) (by unfold maxLen; omega) (by omega) (by simp; omega) ?_))
  intro v' w2 hown2 hgrow hnil
  go_wp2
  go_ret
  exact put_end (m := [0xEF, 0xBF, 0xBD]) ((Below.refl _ _).alloc hB _) (by simp; omega) (hown.alloc _) hown2 hgrow

set_option maxRecDepth 100000 in
set_option maxHeartbeats 2000000 in
theorem put_big (B : Nat) (v : Value) (l : List Nat) (n : Int) (w : World) (hl : l.length ≤ 140737488355324) (hB : B ≤ w.heap.size) (hown : w.ownsRow B 5 1 v l.length (bv l)) (h1 : 0x10FFFF < n) :
    Calls Tryz.prog 81 #[v, .int .i32 n] w (Put B w (l ++ enc 0xfffd)) := by
  obtain ⟨i0, hi, hz0, hz1, hz2⟩ := info_parts info_byte
  have henc := run.hid (show enc 0xfffd = [0xEF, 0xBF, 0xBD] from by decide)
  rw [henc.out]
  clear henc
  go_enter Tryz.func81, Tryz.ntmps81
  go_upto_region 22 with fail
  go_wp2_with (at_builtin; go_must (refine wpList_append_own _ rfl _ _ 129 rfl B 5 i0 (.int .u8 0) 1 1 Tryz.underlying129 hi hz0 hz1 hz2 rfl (by decide) _ _ _ rfl (hown.alloc _) ⟨w.heap.size, 0, none⟩ 3 4 (bv [0xEF, 0xBF, 0xBD]) rfl rfl (news_row w (bv [0xEF, 0xBF, 0xBD]) [Value.int .u8 0] _) (bv_one _) (by unfold maxLen; omega) (by omega) (by simp; omega) ?_))
  intro v' w2 hown2 hgrow hnil
  go_wp2
  go_ret
  exact put_end (m := [0xEF, 0xBF, 0xBD]) ((Below.refl _ _).alloc hB _) (by simp; omega) (hown.alloc _) hown2 hgrow

theorem put_any (B : Nat) (v : Value) (l : List Nat) (r : Int) (w : World) (hl : l.length ≤ 140737488355324) (hB : B ≤ w.heap.size) (hown : w.ownsRow B 5 1 v l.length (bv l)) :
    Calls Tryz.prog 81 #[v, .int .i32 r] w (Put B w (l ++ put r)) := by
  by_cases h0 : r < 0
  · rw [bad_neg h0]; exact put_neg B v l r w hl hB hown h0
  by_cases h1 : 0x10FFFF < r
  · rw [bad_big h1]; exact put_big B v l r w hl hB hown h1
  by_cases h2 : 0xD800 ≤ r ∧ r ≤ 0xDFFF
  · rw [bad_sur h2.1 h2.2]; exact put_sur B v l r w hl hB hown h2.1 h2.2
  rw [good_put (by omega) (by omega) (by omega)]
  by_cases h3 : r < 0x80
  · exact put_1 B v l r w hl hB hown (by omega) h3
  by_cases h4 : r < 0x800
  · exact put_2 B v l r w hl hB hown (by omega) h4
  by_cases h5 : r < 0xD800
  · exact put_3a B v l r w hl hB hown (by omega) h5
  by_cases h6 : r < 0x10000
  · exact put_3b B v l r w hl hB hown (by omega) h6
  · exact put_4 B v l r w hl hB hown (by omega) (by omega)

/-- the text of some bytes -/
def str (l : List Nat) : ByteArray := ⟨(l.map UInt8.ofNat).toArray⟩
theorem str_size (l : List Nat) : (str l).size = l.length := by simp [str, ByteArray.size]
theorem bs_str {l : List Nat} (hb : ∀ c ∈ l, c < 256) : bs (str l) = l := by
  simp only [bs, str, List.map_map]
  conv => rhs; rw [← List.map_id l]
  apply List.map_congr_left
  intro c hc
  have := hb c hc
  simp [UInt8.toNat_ofNat']; omega
theorem str_bs (s : ByteArray) : str (bs s) = s := by
  simp only [bs, str, List.map_map]
  have : s.data.toList.map (UInt8.ofNat ∘ UInt8.toNat) = s.data.toList := by
    conv => rhs; rw [← List.map_id s.data.toList]
    apply List.map_congr_left
    intro c _; simp
  rw [this]
theorem str_nums (l : List Nat) : strOfNums (l.map fun c : Nat => (c : Int)) = str l := by
  simp only [strOfNums, str, List.map_map]
  congr 2
theorem str_inj {l m : List Nat} (hl : ∀ c ∈ l, c < 256) (hm : ∀ c ∈ m, c < 256) (h : str l = str m) : l = m := by rw [← bs_str hl, ← bs_str hm, h]
theorem bs_inj {s t : ByteArray} (h : bs s = bs t) : s = t := by rw [← str_bs s, ← str_bs t, h]

theorem conv_own {B : Nat} {w : World} {v : Value} {l : List Nat} (h : w.ownsRow B 5 1 v l.length (bv l)) :
    (convert 129 9 v).run Tryz.prog w = .ok (.string (str l)) w := by
  have hr := run.reads_own h
  obtain ⟨a, cap, rfl, hr, _⟩ := hr
  by_cases hl : l = []
  · subst hl
    obtain ⟨_, h⟩ := h
    rcases h with ⟨h, _⟩ | ⟨g, cap', cur, h, hg, hh, h1, h2, h3, h4⟩
    · simp only [Value.slice.injEq] at h
      obtain ⟨rfl, _, rfl⟩ := h
      exact run_convert_bytes_nil (P := Tryz.prog) w 129 5 Tryz.underlying129 Tryz.underlying5 _ _ 9 Tryz.underlying9
    · simp only [Value.slice.injEq] at h
      obtain ⟨rfl, _, rfl⟩ := h
      refine run_convert_bytes_arg (P := Tryz.prog) w 129 5 Tryz.underlying129 Tryz.underlying5 g 0 _ _ [] rfl ?_ 9 Tryz.underlying9
      intro i hi; simp at hi
  · obtain ⟨b, off, rfl, hlt, hc⟩ := hr (by simpa [bv] using hl)
    rw [← str_nums]
    refine run_convert_bytes_arg (P := Tryz.prog) w 129 5 Tryz.underlying129 Tryz.underlying5 b off _ _ (l.map fun c : Nat => (c : Int)) (by simp [bv]) ?_ 9 Tryz.underlying9
    intro i hi
    have hi' : i < l.length := by simpa [bv] using hi
    refine hc i _ ?_
    simp [bv, List.getD_eq_getElem?_getD, hi']

theorem text_take {xs : List Int} {k : Nat} (h : k < xs.length) : text (xs.take (k + 1)) = text (xs.take k) ++ put (xs.getD k 0) := by
  rw [List.take_succ_eq_append_getElem h, text_append]
  simp [text, List.getD_eq_getElem?_getD, h]
theorem rv_get {xs : List Int} {k : Nat} (h : k < xs.length) : (rv xs)[k]? = some (.int .i32 (xs.getD k 0)) := by
  simp [rv, List.getD_eq_getElem?_getD, h]
theorem text_take_len (xs : List Int) (k : Nat) : (text (xs.take k)).length ≤ 4 * k := by
  have h := (text_length (xs.take k)).2
  have : (xs.take k).length ≤ k := by simp; omega
  omega

set_option maxHeartbeats 2000000 in
theorem text_any (v : Value) (xs : List Int) (w : World) (hv : run.Reads w v (rv xs)) (hl : xs.length ≤ 35184372088832) : Calls Tryz.prog 59 #[v] w fun e w' => e = .returned (.string (str (text xs))) ∧ Below w.heap.size w w' := by
  obtain ⟨a, cap, rfl, hc, _⟩ := hv
  rw [rv_length]
  have HC := run.hid hc
  clear hc
  go_enter Tryz.func59, Tryz.ntmps59
  go_wp2
  go_loopw [3, 8] (fun vb vk wr => ∃ k : Nat, k ≤ xs.length ∧ vk = .int .i64 k ∧ wr.ownsRow w.heap.size 5 1 vb (text (xs.take k)).length (bv (text (xs.take k))) ∧ Below w.heap.size w wr) (fun _ k _ => (xs.length - intOf k).toNat)
  case atStart => exact ⟨0, by omega, rfl, World.ownsRow_nil _ _ _ _, Below.refl _ _⟩
  case round =>
    obtain ⟨k, hk, rfl, hown, hbel⟩ := hrel
    have hsz := hbel.size
    have hbd := text_take_len xs k
    by_cases hkl : k < xs.length
    · obtain ⟨b, off, ha, hlt, hcell⟩ := HC.out (by intro h; have := congrArg List.length h; rw [rv_length] at this; simp at this; simp [this] at hkl)
      subst ha
      have hck := (hbel.cell (p := ⟨b, off + k, none⟩) hlt).trans (hcell k _ (rv_get hkl))
      have HT := run.hid (text_take hkl)
      clear hcell
      generalize xs.getD k 0 = r at *
      generalize text (xs.take k) = tk at *
      go_wp2_with fail
      refine (put_any w.heap.size u3 tk r wr (by omega) hsz hown).mono ?_
      rintro e w1 ⟨v', rfl, hown1, hb1⟩
      have hbel1 := hbel.trans hb1
      rw [← HT.out] at hown1
      clear hown hbel hb1 hck HT
      go_wp2
      go_roundw
      case rel => exact ⟨k + 1, by omega, by go_num, hown1, hbel1⟩
      case measure => simp [intOf]; omega
    · obtain rfl : k = xs.length := by omega
      rw [List.take_of_length_le (Nat.le_refl _)] at hown
      have hconv := conv_own hown
      clear hown hbd
      go_wp2
      go_ret
      exact ⟨rfl, hbel⟩

end Go.Proofs.YtdgcfmfjgidbjaaGreat.utf
end
section
namespace Go.Proofs.YtdgcfmfjgidbjaaGreat.utf
open Go.RowKit Go.Proofs
set_option linter.unusedVariables false

/-- what Runes gives, for use: a value that reads as the characters, in memory of its own -/
theorem runes_use (s : ByteArray) (w : World) (hs : s.size < 4611686018427387904) (hn : (runes (bs s)).length ≤ 35184372088832) : Calls Tryz.prog 54 #[.string s] w fun e w' =>
    ∃ v, e = .returned v ∧ w'.ownsRow w.heap.size 21 1 v (runes (bs s)).length (rv (runes (bs s))) ∧ run.Reads w' v (rv (runes (bs s))) ∧ Below w.heap.size w w' ∧ (v = .slice none 0 0 ↔ runes (bs s) = []) :=
  (runes_any s w hs hn).mono fun _ _ ⟨v, he, ho, hb, hn⟩ => ⟨v, he, ho, run.reads_own ho, hb, hn⟩

theorem runes_len (s : ByteArray) : (runes (bs s)).length ≤ s.size := by
  have := runes_length _ (bs s) (Nat.le_refl _)
  rw [bs_length] at this; exact this

theorem toList_eq_iff (a b : ByteArray) : (a.toList == b.toList) = decide (a = b) := by
  rw [Bool.eq_iff_iff]
  simp only [beq_iff_eq, decide_eq_true_eq, ByteArray.toList_eq]
  constructor
  · intro h
    obtain ⟨⟨a⟩⟩ := a
    obtain ⟨⟨b⟩⟩ := b
    simp only at h
    rw [h]
  · intro h; rw [h]

theorem reads_get {w : World} {v : Value} {xs : List Value} (h : run.Reads w v xs) (h0 : xs ≠ []) : ∃ b off cap, v = .slice (some ⟨b, off, none⟩) xs.length cap ∧ b < w.heap.size ∧ ∀ i u, xs[i]? = some u → w.cell? ⟨b, off + i, none⟩ = some u := by
  obtain ⟨a, cap, rfl, h, _⟩ := h
  obtain ⟨b, off, rfl, hb, hc⟩ := h h0
  exact ⟨b, off, cap, rfl, hb, hc⟩

theorem two_new (w : World) (x y : Int) (t : TypeId) : run.Reads (w.alloc (.cells #[.int .i32 x, .int .i32 y] t)) (.slice (some ⟨w.heap.size, 0, none⟩) 2 2) (rv [x, y]) := by
  refine ⟨_, 2, rfl, fun _ => ⟨w.heap.size, 0, rfl, by simp, ?_⟩, fun h => by cases h⟩
  intro i u hi
  have hh := run.heap_new w (.cells #[.int .i32 x, .int .i32 y] t)
  simp only [World.cell?, Nat.zero_add]
  rw [hh]
  simpa [rv] using hi

end Go.Proofs.YtdgcfmfjgidbjaaGreat.utf
end
