/-
  Plain facts of the layer wrap: what Flow tells.
-/
import Derived.Test.YtgpgbbbcodnieaaCluUse
import Derived.Test.YtgpgbbbcodnieaaWidPlain
namespace Go.Proofs.Ytgpgbbbcodnieaa.wrp
open Go.Proofs.Ytgpgbbbcodnieaa.wid Go.Proofs.Ytgpgbbbcodnieaa.utf Go.Proofs.Ytgpgbbbcodnieaa.clu
set_option linter.unusedVariables false

abbrev TV := ByteArray × Nat
def t0 : TV := (ByteArray.empty, 0)
/-- is a character struck? -/
def del1 (r : Int) : Bool := decide (r ≠ 10 ∧ r ≠ 9 ∧ kind r = 1)
def blank1 (r : Int) : Int := if r = 9 then 32 else r
def kept (l : List Int) : List Int := l.filter fun r => !del1 r
def nl : ByteArray := ⟨#[10]⟩
def sp : ByteArray := ⟨#[32]⟩
/-- is a cluster struck? -/
def del2 (q : TV) : Bool := decide (q.2 = 0 ∧ q.1 ≠ nl)
def kept2 (l : List TV) : List TV := l.filter fun q => !del2 q
def flowText (s : ByteArray) : ByteArray := str (text ((kept (runes (bs s))).map blank1))
def flow (s : ByteArray) : List TV := kept2 (told (flowText s))

theorem kept_take {l : List Int} {j : Nat} (h : j < l.length) : kept (l.take (j + 1)) = kept (l.take j) ++ if del1 (l.getD j 0) then [] else [l.getD j 0] := by
  rw [List.take_succ_eq_append_getElem h]
  unfold kept
  rw [List.filter_append]
  simp only [List.getD_eq_getElem?_getD, List.getElem?_eq_getElem h, Option.getD_some, List.filter_cons, List.filter_nil]
  cases del1 l[j] <;> rfl
theorem kept_all {l : List Int} (h : ∀ i, i < l.length → del1 (l.getD i 0) = false) : kept l = l := by
  unfold kept
  rw [List.filter_eq_self]
  intro a ha
  obtain ⟨i, hi, rfl⟩ := List.getElem_of_mem ha
  have := h i hi
  simp only [List.getD_eq_getElem?_getD, List.getElem?_eq_getElem hi, Option.getD_some] at this
  rw [this]; rfl
theorem kept_len (l : List Int) : (kept l).length ≤ l.length := List.length_filter_le _ _
theorem kept2_take {l : List TV} {j : Nat} (h : j < l.length) : kept2 (l.take (j + 1)) = kept2 (l.take j) ++ if del2 (l.getD j t0) then [] else [l.getD j t0] := by
  rw [List.take_succ_eq_append_getElem h]
  unfold kept2
  rw [List.filter_append]
  simp only [List.getD_eq_getElem?_getD, List.getElem?_eq_getElem h, Option.getD_some, List.filter_cons, List.filter_nil]
  cases del2 l[j] <;> rfl
theorem kept2_all {l : List TV} (h : ∀ i, i < l.length → del2 (l.getD i t0) = false) : kept2 l = l := by
  unfold kept2
  rw [List.filter_eq_self]
  intro a ha
  obtain ⟨i, hi, rfl⟩ := List.getElem_of_mem ha
  have := h i hi
  simp only [List.getD_eq_getElem?_getD, List.getElem?_eq_getElem hi, Option.getD_some] at this
  rw [this]; rfl
theorem kept2_len (l : List TV) : (kept2 l).length ≤ l.length := List.length_filter_le _ _

end Go.Proofs.Ytgpgbbbcodnieaa.wrp
