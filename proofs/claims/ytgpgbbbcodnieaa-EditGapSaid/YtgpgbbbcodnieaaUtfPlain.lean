/-
  Plain facts on bytes and characters: the first character of some bytes, all of them, the bytes of numbers, a decoder that is fed in pieces. No program in sight.
-/
namespace Go.Proofs.Ytgpgbbbcodnieaa.utf

/-- how many bytes, the least and the greatest second one -/
def lead (b : Nat) : Nat × Nat × Nat :=
  if b < 0x80 then (1, 0, 0) else if b < 0xC2 then (0, 0, 0) else if b ≤ 0xDF then (2, 0x80, 0xBF) else if b = 0xE0 then (3, 0xA0, 0xBF) else if b = 0xED then (3, 0x80, 0x9F)
  else if b ≤ 0xEF then (3, 0x80, 0xBF) else if b = 0xF0 then (4, 0x90, 0xBF) else if b ≤ 0xF3 then (4, 0x80, 0xBF) else if b = 0xF4 then (4, 0x80, 0x8F) else (0, 0, 0)

/-- the rest of a character: k bytes are still wanted, i have been read -/
def cont : Nat → Nat → Nat → Nat → Nat → List Nat → Nat × Nat × Bool
  | 0, r, i, _, _, _ => (r, i, false)
  | _ + 1, _, i, _, _, [] => (0xfffd, i, true)
  | k + 1, r, i, lo, hi, c :: t => if c < lo ∨ hi < c then (0xfffd, i, false) else cont k (r * 64 + c % 64) (i + 1) 0x80 0xBF t

/-- what is left of the first byte -/
def low (n b : Nat) : Nat := if n = 2 then b % 32 else if n = 3 then b % 16 else b % 8

/-- the first character, how many bytes it takes, whether the bytes end within it -/
def first : List Nat → Nat × Nat × Bool
  | [] => (0, 0, false)
  | b :: t => if (lead b).1 = 0 then (0xfffd, 1, false) else if (lead b).1 = 1 then (b, 1, false) else cont ((lead b).1 - 1) (low (lead b).1 b) 1 (lead b).2.1 (lead b).2.2 t

theorem lead_cases (b : Nat) : (lead b = (1, 0, 0) ∧ b < 0x80) ∨ (lead b = (0, 0, 0) ∧ (0x80 ≤ b ∧ b < 0xC2 ∨ 0xF4 < b)) ∨ (lead b = (2, 0x80, 0xBF) ∧ 0xC2 ≤ b ∧ b ≤ 0xDF) ∨ (lead b = (3, 0xA0, 0xBF) ∧ b = 0xE0) ∨ (lead b = (3, 0x80, 0x9F) ∧ b = 0xED) ∨
    (lead b = (3, 0x80, 0xBF) ∧ 0xE1 ≤ b ∧ b ≤ 0xEF ∧ b ≠ 0xED) ∨ (lead b = (4, 0x90, 0xBF) ∧ b = 0xF0) ∨ (lead b = (4, 0x80, 0xBF) ∧ 0xF1 ≤ b ∧ b ≤ 0xF3) ∨ (lead b = (4, 0x80, 0x8F) ∧ b = 0xF4) := by
  unfold lead
  (repeat' split) <;> simp <;> omega

theorem cont_count : ∀ (k r i lo hi : Nat) (t : List Nat), i ≤ (cont k r i lo hi t).2.1 ∧ (cont k r i lo hi t).2.1 ≤ i + k ∧ (cont k r i lo hi t).2.1 ≤ i + t.length
  | 0, _, i, _, _, _ => by simp [cont]
  | k + 1, _, i, _, _, [] => by simp [cont]
  | k + 1, r, i, lo, hi, c :: t => by
    simp only [cont]
    split
    · simp
    · have := cont_count k (r * 64 + c % 64) (i + 1) 0x80 0xBF t
      simp only [List.length_cons]
      omega

theorem lead_le (b : Nat) : (lead b).1 ≤ 4 := by
  rcases lead_cases b with h | h | h | h | h | h | h | h | h <;> rw [h.1] <;> decide

theorem first_count (l : List Nat) (h : l ≠ []) : 1 ≤ (first l).2.1 ∧ (first l).2.1 ≤ 4 ∧ (first l).2.1 ≤ l.length := by
  match l, h with
  | b :: t, _ =>
    have hle := lead_le b
    simp only [first, List.length_cons]
    split
    · simp
    · split
      · simp
      · have := cont_count ((lead b).1 - 1) (low (lead b).1 b) 1 (lead b).2.1 (lead b).2.2 t
        omega

/-- all characters -/
def runesN : Nat → List Nat → List Int
  | 0, _ => []
  | _ + 1, [] => []
  | n + 1, b :: t => ((first (b :: t)).1 : Int) :: runesN n ((b :: t).drop (first (b :: t)).2.1)
def runes (l : List Nat) : List Int := runesN l.length l

theorem runesN_any : ∀ (n m : Nat) (l : List Nat), l.length ≤ n → l.length ≤ m → runesN n l = runesN m l
  | 0, m, l, h, _ => by
    have : l = [] := List.length_eq_zero_iff.1 (by omega)
    subst this; cases m <;> rfl
  | n + 1, 0, l, _, h => by
    have : l = [] := List.length_eq_zero_iff.1 (by omega)
    subst this; rfl
  | n + 1, m + 1, [], _, _ => rfl
  | n + 1, m + 1, b :: t, h1, h2 => by
    simp only [runesN]
    have hc := first_count (b :: t) (by simp)
    simp only [List.length_cons] at h1 h2
    rw [runesN_any n m _ (by simp only [List.length_drop, List.length_cons]; omega) (by simp only [List.length_drop, List.length_cons]; omega)]

theorem runes_nil : runes [] = [] := rfl
theorem runes_step (l : List Nat) (h : l ≠ []) : runes l = ((first l).1 : Int) :: runes (l.drop (first l).2.1) := by
  match l, h with
  | b :: t, _ =>
    have hc := first_count (b :: t) (by simp)
    simp only [runes, List.length_cons, runesN]
    rw [runesN_any t.length]
    · simp only [List.length_drop, List.length_cons]; omega
    · exact Nat.le_refl _

theorem runes_length : ∀ (n : Nat) (l : List Nat), l.length ≤ n → (runes l).length ≤ l.length
  | 0, l, h => by
    have : l = [] := List.length_eq_zero_iff.1 (by omega)
    subst this; simp [runes_nil]
  | n + 1, l, h => by
    by_cases e : l = []
    · subst e; simp [runes_nil]
    · have hc := first_count l e
      rw [runes_step l e]
      have := runes_length n (l.drop (first l).2.1) (by simp only [List.length_drop]; omega)
      simp only [List.length_cons, List.length_drop] at this ⊢
      omega

/-! THE BYTES OF A NUMBER -/
def isChar (r : Int) : Bool := decide (0 ≤ r) && (decide (r ≤ 0x10FFFF) && (decide (r < 0xD800) || decide (0xDFFF < r)))
def fix (r : Int) : Int := if isChar r then r else 0xFFFD
def enc (n : Nat) : List Nat :=
  if n < 0x80 then [n] else if n < 0x800 then [0xC0 + n / 64, 0x80 + n % 64]
  else if n < 0x10000 then [0xE0 + n / 4096, 0x80 + n / 64 % 64, 0x80 + n % 64]
  else [0xF0 + n / 262144, 0x80 + n / 4096 % 64, 0x80 + n / 64 % 64, 0x80 + n % 64]
def put (r : Int) : List Nat := enc (fix r).toNat
def text (l : List Int) : List Nat := l.flatMap put
def clean (l : List Nat) : List Nat := text (runes l)

theorem fix_char (r : Int) : isChar (fix r) = true := by
  unfold fix
  split
  · assumption
  · rfl
theorem fix_of_char {r : Int} (h : isChar r = true) : fix r = r := by unfold fix; rw [if_pos h]
theorem char_bounds {r : Int} (h : isChar r = true) : 0 ≤ r ∧ r ≤ 0x10FFFF ∧ (r < 0xD800 ∨ 0xDFFF < r) := by
  simpa [isChar, Bool.and_eq_true, Bool.or_eq_true] using h
theorem char_of {r : Int} (h : 0 ≤ r ∧ r ≤ 0x10FFFF ∧ (r < 0xD800 ∨ 0xDFFF < r)) : isChar r = true := by
  simpa [isChar, Bool.and_eq_true, Bool.or_eq_true] using h

theorem enc_byte (n : Nat) (h : n ≤ 0x10FFFF) : ∀ b ∈ enc n, b < 256 := by
  unfold enc
  (repeat' split) <;> intro b hb <;> simp at hb <;> omega
theorem put_byte (r : Int) : ∀ b ∈ put r, b < 256 := by
  have := char_bounds (fix_char r)
  exact enc_byte _ (by omega)
theorem text_byte (l : List Int) : ∀ b ∈ text l, b < 256 := by
  intro b hb
  simp only [text, List.mem_flatMap] at hb
  obtain ⟨r, _, h⟩ := hb
  exact put_byte r b h
theorem enc_length (n : Nat) : 1 ≤ (enc n).length ∧ (enc n).length ≤ 4 := by
  unfold enc
  (repeat' split) <;> simp
theorem put_length (r : Int) : 1 ≤ (put r).length ∧ (put r).length ≤ 4 := enc_length _
theorem text_cons (r : Int) (l : List Int) : text (r :: l) = put r ++ text l := rfl
theorem text_append (a b : List Int) : text (a ++ b) = text a ++ text b := by simp [text]
theorem text_length : ∀ l : List Int, l.length ≤ (text l).length ∧ (text l).length ≤ 4 * l.length
  | [] => by simp [text]
  | r :: l => by
    have h1 := put_length r
    have h2 := text_length l
    rw [text_cons, List.length_append, List.length_cons]; omega

theorem lead1 {b : Nat} (h : b < 0x80) : lead b = (1, 0, 0) := by unfold lead; rw [if_pos h]

/-- WHAT IS WRITTEN IS READ AGAIN, whatever is behind it. -/
theorem first_enc (n : Nat) (h : n ≤ 0x10FFFF) (hs : n < 0xD800 ∨ 0xDFFF < n) (t : List Nat) : first (enc n ++ t) = (n, (enc n).length, false) := by
  unfold enc
  split
  · rename_i h1; simp [first, lead1 h1]
  · split
    · rename_i h1 h2
      have e : lead (0xC0 + n / 64) = (2, 0x80, 0xBF) := by unfold lead; (repeat' split) <;> first | rfl | omega
      simp only [List.cons_append, List.nil_append, first, e, cont, low]
      rw [if_neg (by omega), if_neg (by omega), if_neg (by omega)]
      simp; omega
    · split
      · rename_i h1 h2 h3
        rcases lead_cases (0xE0 + n / 4096) with e | e | e | e | e | e | e | e | e
        all_goals first
          | (exfalso; have := e.2; omega)
          | (obtain ⟨e, e'⟩ := e
             simp only [List.cons_append, List.nil_append, first, e, cont, low]
             rw [if_neg (by omega), if_neg (by omega), if_neg (by omega), if_neg (by omega)]
             simp; omega)
      · rename_i h1 h2 h3
        rcases lead_cases (0xF0 + n / 262144) with e | e | e | e | e | e | e | e | e
        all_goals first
          | (exfalso; have := e.2; omega)
          | (obtain ⟨e, e'⟩ := e
             simp only [List.cons_append, List.nil_append, first, e, cont, low]
             rw [if_neg (by omega), if_neg (by omega), if_neg (by omega), if_neg (by omega), if_neg (by omega)]
             simp; omega)

theorem first_put (r : Int) (t : List Nat) : first (put r ++ t) = ((fix r).toNat, (put r).length, false) := by
  have h := char_bounds (fix_char r)
  exact first_enc _ (by omega) (by omega) t
theorem put_ne (r : Int) (t : List Nat) : put r ++ t ≠ [] := by
  have := put_length r
  intro h
  have h2 := congrArg List.length h
  simp at h2
  simp [h2.1] at this
theorem runes_put (r : Int) (t : List Nat) : runes (put r ++ t) = fix r :: runes t := by
  have h := char_bounds (fix_char r)
  rw [runes_step _ (put_ne r t), first_put]
  simp only [List.drop_left]
  rw [Int.toNat_of_nonneg h.1]

/-- P1.6: behind what is clean any bytes are read as they would be alone. -/
theorem runes_text_append : ∀ (l : List Int) (b : List Nat), runes (text l ++ b) = l.map fix ++ runes b
  | [], b => rfl
  | r :: l, b => by rw [text_cons, List.append_assoc, runes_put, runes_text_append l b]; rfl
theorem runes_text (l : List Int) : runes (text l) = l.map fix := by
  have := runes_text_append l []
  simpa [runes_nil] using this
theorem put_fix (r : Int) : put (fix r) = put r := by unfold put; rw [fix_of_char (fix_char r)]
theorem text_fix (l : List Int) : text (l.map fix) = text l := by
  induction l with
  | nil => rfl
  | cons r l ih => rw [List.map_cons, text_cons, text_cons, put_fix, ih]
theorem clean_text (l : List Int) : clean (text l) = text l := by unfold clean; rw [runes_text, text_fix]

/-! WHAT IS READ IS A CHARACTER -/
theorem char_fffd : isChar ((0xfffd : Nat) : Int) = true := char_of (by omega)
theorem cont_char : ∀ (k r i lo hi : Nat) (t : List Nat), 1 ≤ k →
    (∀ c r', lo ≤ c → c ≤ hi → r' = r * 64 + c % 64 → r' * 64 ^ (k - 1) ≤ 0x10FFFF ∧ r' * 64 ^ (k - 1) + (64 ^ (k - 1) - 1) ≤ 0x10FFFF ∧ (r' * 64 ^ (k - 1) + (64 ^ (k - 1) - 1) < 0xD800 ∨ 0xDFFF < r' * 64 ^ (k - 1))) →
    isChar (cont k r i lo hi t).1 = true
  | 0, _, _, _, _, _, h, _ => by omega
  | k + 1, r, i, lo, hi, [], _, _ => by simp only [cont]; exact char_fffd
  | k + 1, r, i, lo, hi, c :: t, _, h => by
    simp only [cont]
    split
    · exact char_fffd
    · rename_i hc
      have h0 := h c _ (by omega) (by omega) rfl
      match k with
      | 0 => simp [cont] at h0 ⊢; exact char_of (by omega)
      | k + 1 =>
        apply cont_char (k + 1) _ _ _ _ t (by omega)
        intro c' r' h1 h2 h3
        simp only [Nat.add_sub_cancel] at h0 ⊢
        have hp : 0 < 64 ^ k := Nat.pow_pos (by omega)
        rw [Nat.pow_succ] at h0
        have hm : c' % 64 ≤ 63 := by omega
        generalize hq : r * 64 + c % 64 = q at *
        have e1 : r' * 64 ^ k = q * (64 ^ k * 64) + c' % 64 * 64 ^ k := by rw [h3, Nat.add_mul, Nat.mul_assoc, Nat.mul_comm 64]
        have e2 : c' % 64 * 64 ^ k ≤ 63 * 64 ^ k := Nat.mul_le_mul_right _ hm
        generalize 64 ^ k = p at *
        generalize q * (p * 64) = z at *
        generalize c' % 64 * p = y at *
        omega

theorem first_char (l : List Nat) (h : l ≠ []) : isChar (first l).1 = true := by
  match l, h with
  | b :: t, _ =>
    simp only [first]
    rcases lead_cases b with ⟨e, hb⟩ | ⟨e, hb⟩ | ⟨e, hb⟩ | ⟨e, hb⟩ | ⟨e, hb⟩ | ⟨e, hb⟩ | ⟨e, hb⟩ | ⟨e, hb⟩ | ⟨e, hb⟩
    all_goals simp only [e]
    · exact char_of (by simp; omega)
    · exact char_fffd
    all_goals
      simp only [show ¬ ((2 : Nat) = 0) by decide, show ¬ ((2 : Nat) = 1) by decide, show ¬ ((3 : Nat) = 0) by decide, show ¬ ((3 : Nat) = 1) by decide, show ¬ ((4 : Nat) = 0) by decide, show ¬ ((4 : Nat) = 1) by decide, if_false]
      apply cont_char _ _ _ _ _ t (by omega)
      intro c r' h1 h2 h3
      simp [low] at h3 ⊢
      omega

theorem runes_char : ∀ (n : Nat) (l : List Nat), l.length ≤ n → ∀ r ∈ runes l, isChar r = true
  | 0, l, h => by
    have : l = [] := List.length_eq_zero_iff.1 (by omega)
    subst this; intro r hr; simp [runes_nil] at hr
  | n + 1, l, h => by
    by_cases e : l = []
    · subst e; intro r hr; simp [runes_nil] at hr
    · have hc := first_count l e
      rw [runes_step l e]
      intro r hr
      rcases List.mem_cons.1 hr with rfl | hr
      · exact first_char l e
      · exact runes_char n _ (by simp only [List.length_drop]; omega) r hr
theorem map_fix_of_char {l : List Int} (h : ∀ r ∈ l, isChar r = true) : l.map fix = l := by
  induction l with
  | nil => rfl
  | cons r l ih => rw [List.map_cons, fix_of_char (h r (by simp)), ih fun x hx => h x (by simp [hx])]
theorem runes_clean (l : List Nat) : runes (clean l) = runes l := by
  unfold clean; rw [runes_text, map_fix_of_char (runes_char _ l (Nat.le_refl _))]
theorem clean_clean (l : List Nat) : clean (clean l) = clean l := clean_text _

/-! PIECES: a beginning that is open is held -/
theorem cont_open : ∀ (k r i lo hi : Nat) (t : List Nat), (cont k r i lo hi t).2.2 = true → (cont k r i lo hi t).1 = 0xfffd ∧ (cont k r i lo hi t).2.1 = i + t.length ∧ t.length < k
  | 0, _, _, _, _, _, h => by simp [cont] at h
  | k + 1, _, i, _, _, [], _ => by simp [cont]
  | k + 1, r, i, lo, hi, c :: t, h => by
    simp only [cont] at h ⊢
    split
    · rename_i hc; rw [if_pos hc] at h; simp at h
    · rename_i hc
      rw [if_neg hc] at h
      have := cont_open k _ _ _ _ t h
      simp only [List.length_cons]
      omega
theorem first_open (l : List Nat) (h : (first l).2.2 = true) : (first l).1 = 0xfffd ∧ (first l).2.1 = l.length ∧ 1 ≤ l.length ∧ l.length ≤ 3 := by
  match l with
  | [] => simp [first] at h
  | b :: t =>
    have hle := lead_le b
    simp only [first] at h ⊢
    split
    · rename_i h0; rw [if_pos h0] at h; simp at h
    · rename_i h0; rw [if_neg h0] at h
      split
      · rename_i h1; rw [if_pos h1] at h; simp at h
      · rename_i h1; rw [if_neg h1] at h
        have := cont_open _ _ _ _ _ _ h
        simp only [List.length_cons]
        omega
theorem cont_more : ∀ (k r i lo hi : Nat) (t u : List Nat), (cont k r i lo hi t).2.2 = false → cont k r i lo hi (t ++ u) = cont k r i lo hi t
  | 0, _, _, _, _, _, _, _ => by simp [cont]
  | k + 1, _, i, _, _, [], _, h => by simp [cont] at h
  | k + 1, r, i, lo, hi, c :: t, u, h => by
    simp only [cont, List.cons_append] at h ⊢
    split
    · rfl
    · rename_i hc; rw [if_neg hc] at h; exact cont_more k _ _ _ _ t u h
theorem first_more (l u : List Nat) (hl : l ≠ []) (h : (first l).2.2 = false) : first (l ++ u) = first l := by
  match l, hl with
  | b :: t, _ =>
    simp only [first, List.cons_append] at h ⊢
    split
    · rfl
    · rename_i h0; rw [if_neg h0] at h
      split
      · rfl
      · rename_i h1; rw [if_neg h1] at h; exact cont_more _ _ _ _ _ _ _ h

/-- what a decoder tells of some bytes, and what it holds of them -/
def feedN : Nat → List Nat → List Int × List Nat
  | 0, _ => ([], [])
  | _ + 1, [] => ([], [])
  | n + 1, b :: t => if (first (b :: t)).2.2 then ([], b :: t) else (((first (b :: t)).1 : Int) :: (feedN n ((b :: t).drop (first (b :: t)).2.1)).1, (feedN n ((b :: t).drop (first (b :: t)).2.1)).2)
def feed (l : List Nat) : List Int × List Nat := feedN l.length l
theorem feedN_any : ∀ (n m : Nat) (l : List Nat), l.length ≤ n → l.length ≤ m → feedN n l = feedN m l
  | 0, m, l, h, _ => by
    have : l = [] := List.length_eq_zero_iff.1 (by omega)
    subst this; cases m <;> rfl
  | n + 1, 0, l, _, h => by
    have : l = [] := List.length_eq_zero_iff.1 (by omega)
    subst this; rfl
  | n + 1, m + 1, [], _, _ => rfl
  | n + 1, m + 1, b :: t, h1, h2 => by
    simp only [feedN]
    have hc := first_count (b :: t) (by simp)
    simp only [List.length_cons] at h1 h2
    rw [feedN_any n m _ (by simp only [List.length_drop, List.length_cons]; omega) (by simp only [List.length_drop, List.length_cons]; omega)]
theorem feed_nil : feed [] = ([], []) := rfl
theorem feed_open (l : List Nat) (h : (first l).2.2 = true) : feed l = ([], l) := by
  match l with
  | [] => simp [first] at h
  | b :: t => simp only [feed, List.length_cons, feedN, h, if_true]
theorem feed_step (l : List Nat) (hl : l ≠ []) (h : (first l).2.2 = false) : feed l = (((first l).1 : Int) :: (feed (l.drop (first l).2.1)).1, (feed (l.drop (first l).2.1)).2) := by
  match l, hl with
  | b :: t, _ =>
    have hc := first_count (b :: t) (by simp)
    simp only [feed, List.length_cons, feedN, h, Bool.false_eq_true, if_false]
    rw [feedN_any t.length]
    · simp only [List.length_drop, List.length_cons]; omega
    · exact Nat.le_refl _
/-- what is held is empty or open -/
theorem feed_held : ∀ (n : Nat) (l : List Nat), l.length ≤ n → (feed l).2 = [] ∨ (first (feed l).2).2.2 = true
  | 0, l, h => by
    have : l = [] := List.length_eq_zero_iff.1 (by omega)
    subst this; exact .inl rfl
  | n + 1, l, h => by
    by_cases e : l = []
    · subst e; exact .inl rfl
    · have hc := first_count l e
      cases ho : (first l).2.2 with
      | true => rw [feed_open l ho]; exact .inr ho
      | false =>
        rw [feed_step l e ho]
        exact feed_held n _ (by simp only [List.length_drop]; omega)
theorem held_length {l : List Nat} (h : l = [] ∨ (first l).2.2 = true) : l.length ≤ 3 := by
  rcases h with rfl | h
  · simp
  · exact (first_open l h).2.2.2
theorem runes_open (l : List Nat) (h : (first l).2.2 = true) : runes l = [0xfffd] := by
  have ho := first_open l h
  have hne : l ≠ [] := by intro e; subst e; simp at ho
  rw [runes_step l hne, ho.1, ho.2.1]
  simp [runes_nil]
/-- THE PIECES: what is told of some bytes, and then of what is held with more behind it. -/
theorem runes_feed : ∀ (n : Nat) (l u : List Nat), l.length ≤ n → runes (l ++ u) = (feed l).1 ++ runes ((feed l).2 ++ u)
  | 0, l, u, h => by
    have : l = [] := List.length_eq_zero_iff.1 (by omega)
    subst this; rfl
  | n + 1, l, u, h => by
    by_cases e : l = []
    · subst e; rfl
    · have hc := first_count l e
      cases ho : (first l).2.2 with
      | true => rw [feed_open l ho]; rfl
      | false =>
        rw [feed_step l e ho, runes_step (l ++ u) (by simp [e]), first_more l u e ho, List.drop_append_of_le_length hc.2.2]
        simp only [List.cons_append, List.cons.injEq, true_and]
        exact runes_feed n _ u (by simp only [List.length_drop]; omega)
theorem feed_bytes : ∀ (n : Nat) (l : List Nat), l.length ≤ n → (feed l).2.length ≤ l.length ∧ (feed l).1.length ≤ l.length ∧ ∃ k, (feed l).2 = l.drop k
  | 0, l, h => by
    have : l = [] := List.length_eq_zero_iff.1 (by omega)
    subst this; exact ⟨by simp [feed_nil], by simp [feed_nil], 0, rfl⟩
  | n + 1, l, h => by
    by_cases e : l = []
    · subst e; exact ⟨by simp [feed_nil], by simp [feed_nil], 0, rfl⟩
    · have hc := first_count l e
      cases ho : (first l).2.2 with
      | true => rw [feed_open l ho]; exact ⟨by simp, by simp, 0, rfl⟩
      | false =>
        rw [feed_step l e ho]
        obtain ⟨h1, h2, k, hk⟩ := feed_bytes n (l.drop (first l).2.1) (by simp only [List.length_drop]; omega)
        simp only [List.length_drop] at h1 h2
        refine ⟨by simp only; omega, by simp only [List.length_cons]; omega, (first l).2.1 + k, ?_⟩
        simp only [hk, List.drop_drop]

end Go.Proofs.Ytgpgbbbcodnieaa.utf
