/-
  Plain facts for the law ClusterAlone.
-/
import Derived.Test.YtinedhocmlcfpaaCluAlive
namespace Go.Proofs.Ytinedhocmlcfpaa.clu
open Go.RowKit Go.Proofs
open Go.Proofs.Ytinedhocmlcfpaa.wid Go.Proofs.Ytinedhocmlcfpaa.utf
set_option linter.unusedVariables false

theorem kind_char {r : Int} (h : kind r ≠ 0) : isChar r = true := by
  apply char_of
  by_cases h1 : r < 0 ∨ 0x10ffff < r
  · exact absurd (kind_out h1) h
  · by_cases h2 : 0xd800 ≤ r ∧ r ≤ 0xdfff
    · exfalso
      apply h
      unfold kind
      rw [if_neg h1]
      apply firstKind_hit
      simp [tab, hit]
      omega
    · omega

theorem takes_letter (r : Int) : takes 9 97 r = decide (kind r = 2 ∨ kind r = 3 ∨ kind r = 4) := by
  unfold takes picture
  by_cases h : kind r = 2 ∨ kind r = 3 ∨ kind r = 4
  · rw [if_pos h, decide_eq_true h]
  · rw [if_neg h, decide_eq_false h]
    split
    · rfl
    · split <;> rfl

theorem count_letter (r : Int) : count [97, r] = if kind r = 2 ∨ kind r = 3 ∨ kind r = 4 then 2 else 1 := by
  have hk : kind (([97, r] : List Int).getD 0 0) = 9 := letter_kind.2.1
  have hp : pair [97, r] = false := by
    rw [← Bool.not_eq_true, pair_iff, hk]
    omega
  unfold count
  rw [hk, if_neg (by decide)]
  unfold start
  rw [hp]
  show growFrom 9 [97, r] 1 = _
  have ht : takes 9 (([97, r] : List Int).getD (1 - 1) 0) (([97, r] : List Int).getD 1 0) = decide (kind r = 2 ∨ kind r = 3 ∨ kind r = 4) := takes_letter r
  by_cases h : kind r = 2 ∨ kind r = 3 ∨ kind r = 4
  · rw [decide_eq_true h] at ht
    rw [grow_step (by simp) (by decide) ht, grow_end (by simp), if_pos h]
  · rw [decide_eq_false h] at ht
    rw [grow_stop ht, if_neg h]

theorem cl_letter (r : Int) : (cl [97, r]).length = if kind r = 2 ∨ kind r = 3 ∨ kind r = 4 then 1 else 2 := by
  rw [cl_step _ (by simp), count_letter]
  by_cases h : kind r = 2 ∨ kind r = 3 ∨ kind r = 4
  · rw [if_pos h, if_pos h]; rfl
  · rw [if_neg h, if_neg h]
    show (_ :: cl [r]).length = 2
    rw [cl_single]; rfl
theorem cl_behind (r : Int) : cl [r, 97] = [[r], [97]] := by
  have := cl_snoc 97 letter_kind.2.1 1 [r] (by simp)
  rw [cl_single] at this
  exact this
theorem wide_single (r : Int) : wide [r] = cellsAt r := by
  unfold wide pair vary cellsAt cellsOf
  simp only [List.length_singleton, Nat.lt_irrefl, decide_false, Bool.false_and, Bool.and_false]
  by_cases h : kind (([r] : List Int).getD 0 0) = 1
  · have h' : kind r = 1 := h
    rw [if_pos h, if_pos (.inl h')]
  · rw [if_neg h]; rfl

theorem runes_one {r : Int} (h : kind r ≠ 0) : runes (bs (str (text [r]))) = [r] := by
  rw [bs_str (text_byte _), runes_text]
  simp [fix_of_char (kind_char h)]
theorem bs_add (a b : ByteArray) : bs (a ++ b) = bs a ++ bs b := by simp [bs, ByteArray.data_append]
theorem text_a : bs ⟨#[97]⟩ = text [97] := by decide
theorem runes_ahead {r : Int} (h : kind r ≠ 0) : runes (bs (⟨#[97]⟩ ++ str (text [r]))) = [97, r] := by
  rw [bs_add, bs_str (text_byte _), text_a, ← text_append, runes_text]
  simp [fix_of_char (kind_char h), fix_of_char (show isChar 97 = true from by decide)]
theorem runes_behind {r : Int} (h : kind r ≠ 0) : runes (bs (str (text [r]) ++ ⟨#[97]⟩)) = [r, 97] := by
  rw [bs_add, bs_str (text_byte _), text_a, ← text_append, runes_text]
  simp [fix_of_char (kind_char h), fix_of_char (show isChar 97 = true from by decide)]

end Go.Proofs.Ytinedhocmlcfpaa.clu
