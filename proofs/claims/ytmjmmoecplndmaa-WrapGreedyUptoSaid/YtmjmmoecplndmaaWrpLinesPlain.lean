/-
  Plain facts of the layer wrap: rows, and lines.
-/
import Derived.Test.YtmjmmoecplndmaaWrpOk
namespace Go.Proofs.Ytmjmmoecplndmaa.wrp
open Go.Proofs.Ytmjmmoecplndmaa.wid Go.Proofs.Ytmjmmoecplndmaa.utf Go.Proofs.Ytmjmmoecplndmaa.clu
set_option linter.unusedVariables false

/-- what lies between line feeds -/
def splitNl : List TV → List (List TV)
  | [] => [[]]
  | q :: t => if q.1 = nl then [] :: splitNl t else match splitNl t with | [] => [[q]] | r :: rs => (q :: r) :: rs
def rowsT (X : List TV) : List (List TV) := if X = [] then [] else splitNl X
/-- a beginning put ahead of the first one -/
def glue (a : List TV) : List (List TV) → List (List TV)
  | [] => [a]
  | r :: rs => (a ++ r) :: rs

theorem splitNl_ne : ∀ X, splitNl X ≠ []
  | [] => by simp [splitNl]
  | q :: t => by
    unfold splitNl
    split
    · simp
    · split <;> simp
theorem glue_nil {L : List (List TV)} (h : L ≠ []) : glue [] L = L := by
  cases L with
  | nil => exact absurd rfl h
  | cons r rs => rfl
theorem glue_nl {X : List TV} {i : Nat} (a : List TV) (h : i < X.length) (e : (X.getD i t0).1 = nl) : glue a (splitNl (X.drop i)) = a :: glue [] (splitNl (X.drop (i + 1))) := by
  rw [glue_nil (splitNl_ne _), List.drop_eq_getElem_cons h]
  have e' : X[i].1 = nl := by simpa [List.getD_eq_getElem?_getD, h] using e
  unfold splitNl
  rw [if_pos e']
  cases X.drop (i + 1) <;> simp [glue, splitNl]
theorem glue_else {X : List TV} {i : Nat} (a : List TV) (h : i < X.length) (e : (X.getD i t0).1 ≠ nl) : glue a (splitNl (X.drop i)) = glue (a ++ [X.getD i t0]) (splitNl (X.drop (i + 1))) := by
  rw [List.drop_eq_getElem_cons h]
  have e' : X[i].1 ≠ nl := by simpa [List.getD_eq_getElem?_getD, h] using e
  have e2 : X.getD i t0 = X[i] := by simp [List.getD_eq_getElem?_getD, h]
  rw [e2]
  have hn := splitNl_ne (X.drop (i + 1))
  have hd : splitNl (X[i] :: X.drop (i + 1)) = match splitNl (X.drop (i + 1)) with | [] => [[X[i]]] | r :: rs => (X[i] :: r) :: rs := by
    conv => lhs; unfold splitNl
    rw [if_neg e']
  rw [hd]
  cases hs : splitNl (X.drop (i + 1)) with
  | nil => exact absurd hs hn
  | cons r rs => simp [glue]
/-- the clusters from one place up to another -/
def seg (X : List TV) (f i : Nat) : List TV := (X.take i).drop f
theorem seg_nil (X : List TV) (i : Nat) : seg X i i = [] := by unfold seg; rw [List.drop_eq_nil_iff, List.length_take]; omega
theorem seg_next {X : List TV} {f i : Nat} (h : i < X.length) (hf : f ≤ i) : seg X f i ++ [X.getD i t0] = seg X f (i + 1) := by
  unfold seg
  rw [List.take_succ_eq_append_getElem h, List.drop_append_of_le_length (by rw [List.length_take]; omega)]
  simp [List.getD_eq_getElem?_getD, h]
theorem seg_all {X : List TV} {f : Nat} : seg X f X.length = X.drop f := by unfold seg; rw [List.take_of_length_le (Nat.le_refl _)]
theorem seg_length (X : List TV) {f i : Nat} (h : i ≤ X.length) : (seg X f i).length = i - f := by unfold seg; rw [List.length_drop, List.length_take]; omega

/-- how far rows() has come at the place i -/
def RowInv (X : List TV) (i : Nat) (done : List (List TV)) (f : Nat) : Prop := f ≤ i ∧ done.length ≤ f ∧ splitNl X = done ++ glue (seg X f i) (splitNl (X.drop i))
theorem rowInv_start (X : List TV) : RowInv X 0 [] 0 := ⟨Nat.le_refl _, Nat.le_refl _, by rw [seg_nil, glue_nil (splitNl_ne _)]; rfl⟩
theorem rowInv_nl {X : List TV} {i f : Nat} {done : List (List TV)} (h : RowInv X i done f) (hi : i < X.length) (e : (X.getD i t0).1 = nl) : RowInv X (i + 1) (done ++ [seg X f i]) (i + 1) := by
  obtain ⟨h1, h2, h3⟩ := h
  refine ⟨Nat.le_refl _, by simp; omega, ?_⟩
  rw [h3, glue_nl _ hi e, seg_nil, List.append_assoc]; rfl
theorem rowInv_else {X : List TV} {i f : Nat} {done : List (List TV)} (h : RowInv X i done f) (hi : i < X.length) (e : (X.getD i t0).1 ≠ nl) : RowInv X (i + 1) done f := by
  obtain ⟨h1, h2, h3⟩ := h
  exact ⟨by omega, h2, by rw [h3, glue_else _ hi e, seg_next hi h1]⟩
theorem rowInv_end {X : List TV} {f : Nat} {done : List (List TV)} (h : RowInv X X.length done f) : splitNl X = done ++ [X.drop f] := by
  obtain ⟨h1, h2, h3⟩ := h
  rw [h3, seg_all, List.drop_length]
  simp [splitNl, glue]

theorem splitNl_mem : ∀ (X : List TV) {r : List TV}, r ∈ splitNl X → r.length ≤ X.length ∧ ∀ q ∈ r, q ∈ X
  | [], r, h => by simp [splitNl] at h; subst h; simp
  | q :: t, r, h => by
    unfold splitNl at h
    split at h
    · simp only [List.mem_cons] at h
      rcases h with rfl | h
      · simp
      · obtain ⟨h1, h2⟩ := splitNl_mem t h
        exact ⟨by simp; omega, fun q hq => by simp [h2 q hq]⟩
    · have ih : ∀ r ∈ splitNl t, r.length ≤ t.length ∧ ∀ q ∈ r, q ∈ t := fun r hr => splitNl_mem t hr
      generalize splitNl t = L at *
      cases L with
      | nil => simp at h; subst h; simp
      | cons a L =>
        simp only [List.mem_cons] at h
        rcases h with rfl | h
        · obtain ⟨h1, h2⟩ := ih a (by simp)
          exact ⟨by simp; omega, fun x hx => by simp only [List.mem_cons] at hx ⊢; exact hx.imp id (h2 x)⟩
        · obtain ⟨h1, h2⟩ := ih r (by simp [h])
          exact ⟨by simp; omega, fun q hq => by simp [h2 q hq]⟩
/-- all clusters and one for each row -/
def weigh (L : List (List TV)) : Nat := (L.map fun r => r.length + 1).sum
theorem splitNl_weigh : ∀ X, weigh (splitNl X) = X.length + 1
  | [] => rfl
  | q :: t => by
    have ih := splitNl_weigh t
    have hn := splitNl_ne t
    unfold splitNl
    split
    · simp [weigh] at ih ⊢; omega
    · generalize splitNl t = L at *
      cases L with
      | nil => exact absurd rfl hn
      | cons a L => simp [weigh] at ih ⊢; omega
theorem rowsT_weigh (X : List TV) : weigh (rowsT X) ≤ X.length + 1 := by
  unfold rowsT
  split
  · simp [weigh]
  · rw [splitNl_weigh]; omega
theorem rowsT_len (X : List TV) : (rowsT X).length ≤ X.length + 1 := by
  have h := rowsT_weigh X
  have h2 : ∀ L : List (List TV), L.length ≤ weigh L := by
    intro L
    induction L with
    | nil => simp
    | cons a L ih => simp only [weigh, List.map_cons, List.sum_cons, List.length_cons] at ih ⊢; omega
  exact Nat.le_trans (h2 _) h
theorem rowsT_mem {X r : List TV} (h : r ∈ rowsT X) : r.length ≤ X.length ∧ ∀ q ∈ r, q ∈ X := by
  unfold rowsT at h
  split at h
  · simp at h
  · exact splitNl_mem X h
theorem Ok.row {X r : List TV} (h : Ok X) (hr : r ∈ rowsT X) : Ok r := h.sub (rowsT_mem hr).2

/-- a line: its text, its width, how it ends, what was lost -/
structure LV where
  text : ByteArray
  width : Nat
  fin : Nat
  lost : ByteArray
def spaces (n : Nat) : ByteArray := ⟨(List.replicate n 32).toArray⟩
def e0 : ByteArray := ByteArray.empty

/-- the last blank up to the place k -/
def lastSp (X : List TV) : Nat → Option Nat
  | 0 => if (X.getD 0 t0).1 = sp then some 0 else none
  | k + 1 => if (X.getD (k + 1) t0).1 = sp then some (k + 1) else lastSp X k
theorem lastSp_le {X : List TV} : ∀ {k j : Nat}, lastSp X k = some j → j ≤ k ∧ (X.getD j t0).1 = sp
  | 0, j, h => by
    unfold lastSp at h
    split at h
    · rename_i e; cases h; exact ⟨Nat.le_refl _, e⟩
    · cases h
  | k + 1, j, h => by
    unfold lastSp at h
    split at h
    · rename_i e; cases h; exact ⟨Nat.le_refl _, e⟩
    · obtain ⟨h1, h2⟩ := lastSp_le h; exact ⟨by omega, h2⟩
theorem lastSp_none {X : List TV} : ∀ {k : Nat}, lastSp X k = none → ∀ j, j ≤ k → (X.getD j t0).1 ≠ sp
  | 0, h, j, hj => by
    unfold lastSp at h
    split at h
    · cases h
    · rename_i e; obtain rfl : j = 0 := by omega
      exact e
  | k + 1, h, j, hj => by
    unfold lastSp at h
    split at h
    · cases h
    · rename_i e
      rcases Nat.lt_or_ge k j with h1 | h1
      · obtain rfl : j = k + 1 := by omega
        exact e
      · exact lastSp_none h j h1
theorem lastSp_at {X : List TV} {k : Nat} (h : (X.getD k t0).1 = sp) : lastSp X k = some k := by
  cases k with
  | zero => unfold lastSp; rw [if_pos h]
  | succ k => unfold lastSp; rw [if_pos h]
theorem lastSp_next {X : List TV} {k : Nat} (h : (X.getD (k + 1) t0).1 ≠ sp) : lastSp X (k + 1) = lastSp X k := by
  conv => lhs; unfold lastSp
  rw [if_neg h]
theorem lastSp_zero {X : List TV} (h : (X.getD 0 t0).1 ≠ sp) : lastSp X 0 = none := by unfold lastSp; rw [if_neg h]

/-- where a row too wide is cut, k clusters of it fitting -/
def cutAt (m : Nat) (r : List TV) (k : Nat) : Option Nat := if m = 0 then lastSp r k else none
/-- the lines of a row -/
def rowL (wd m fin : Nat) : Nat → List TV → List LV
  | 0, _ => []
  | f + 1, r =>
    if m = 2 ∨ wideT r ≤ wd then [⟨joinT r, wideT r, fin, e0⟩]
    else if fitT r wd = 0 then
      if r.drop 1 = [] then [⟨spaces wd, wd, fin, (r.getD 0 t0).1⟩]
      else ⟨spaces wd, wd, 3, (r.getD 0 t0).1⟩ :: rowL wd m fin f (r.drop 1)
    else match cutAt m r (fitT r wd) with
      | some j => ⟨joinT (r.take j), wideT (r.take j), 2, e0⟩ :: rowL wd m fin f (r.drop (j + 1))
      | none => ⟨joinT (r.take (fitT r wd)), wideT (r.take (fitT r wd)), 3, e0⟩ :: rowL wd m fin f (r.drop (fitT r wd))
theorem rowL_whole {wd m fin f : Nat} {r : List TV} (h : m = 2 ∨ wideT r ≤ wd) : rowL wd m fin (f + 1) r = [⟨joinT r, wideT r, fin, e0⟩] := by
  unfold rowL; rw [if_pos h]
theorem rowL_last {wd m fin f : Nat} {r : List TV} (h : ¬(m = 2 ∨ wideT r ≤ wd)) (h0 : fitT r wd = 0) (hd : r.length ≤ 1) : rowL wd m fin (f + 1) r = [⟨spaces wd, wd, fin, (r.getD 0 t0).1⟩] := by
  unfold rowL; rw [if_neg h, if_pos h0, if_pos (by rw [List.drop_eq_nil_iff]; omega)]
theorem rowL_lost {wd m fin f : Nat} {r : List TV} (h : ¬(m = 2 ∨ wideT r ≤ wd)) (h0 : fitT r wd = 0) (hd : 1 < r.length) : rowL wd m fin (f + 1) r = ⟨spaces wd, wd, 3, (r.getD 0 t0).1⟩ :: rowL wd m fin f (r.drop 1) := by
  have : ¬ r.drop 1 = [] := by rw [List.drop_eq_nil_iff]; omega
  conv => lhs; unfold rowL
  rw [if_neg h, if_pos h0, if_neg this]
theorem rowL_blank {wd m fin f j : Nat} {r : List TV} (h : ¬(m = 2 ∨ wideT r ≤ wd)) (h0 : fitT r wd ≠ 0) (hc : cutAt m r (fitT r wd) = some j) : rowL wd m fin (f + 1) r = ⟨joinT (r.take j), wideT (r.take j), 2, e0⟩ :: rowL wd m fin f (r.drop (j + 1)) := by
  conv => lhs; unfold rowL
  rw [if_neg h, if_neg h0, hc]
theorem rowL_cut {wd m fin f : Nat} {r : List TV} (h : ¬(m = 2 ∨ wideT r ≤ wd)) (h0 : fitT r wd ≠ 0) (hc : cutAt m r (fitT r wd) = none) : rowL wd m fin (f + 1) r = ⟨joinT (r.take (fitT r wd)), wideT (r.take (fitT r wd)), 3, e0⟩ :: rowL wd m fin f (r.drop (fitT r wd)) := by
  conv => lhs; unfold rowL
  rw [if_neg h, if_neg h0, hc]
theorem rowL_len (wd m fin : Nat) : ∀ (f : Nat) (r : List TV), (rowL wd m fin f r).length ≤ f
  | 0, r => by simp [rowL]
  | f + 1, r => by
    unfold rowL
    split
    · simp
    split
    · split
      · simp
      · have := rowL_len wd m fin f (r.drop 1); simp only [List.length_cons]; omega
    split
    · rename_i j _; have := rowL_len wd m fin f (r.drop (j + 1)); simp only [List.length_cons]; omega
    · have := rowL_len wd m fin f (r.drop (fitT r wd)); simp only [List.length_cons]; omega

def finOf (n i : Nat) : Nat := if i + 1 = n then 0 else 1
def rowOf (wd m : Nat) (all : List (List TV)) (i : Nat) : List LV := rowL wd m (finOf all.length i) ((all.getD i []).length + 1) (all.getD i [])
/-- the lines of the first rows -/
def linesTo (wd m : Nat) (all : List (List TV)) (i : Nat) : List LV := (List.range i).flatMap (rowOf wd m all)
theorem linesTo_next (wd m : Nat) (all : List (List TV)) (i : Nat) : linesTo wd m all (i + 1) = linesTo wd m all i ++ rowOf wd m all i := by
  unfold linesTo; rw [List.range_succ, List.flatMap_append]; simp
theorem linesTo_len (wd m : Nat) (all : List (List TV)) : ∀ i, i ≤ all.length → (linesTo wd m all i).length ≤ weigh (all.take i)
  | 0, _ => by simp [linesTo, weigh]
  | i + 1, h => by
    have ih := linesTo_len wd m all i (by omega)
    rw [linesTo_next, List.length_append, List.take_succ_eq_append_getElem (show i < all.length by omega)]
    have h1 := rowL_len wd m (finOf all.length i) ((all.getD i []).length + 1) (all.getD i [])
    have e : all.getD i [] = all[i] := by simp [List.getD_eq_getElem?_getD, show i < all.length by omega]
    unfold rowOf
    rw [e] at h1 ⊢
    simp only [weigh, List.map_append, List.sum_append, List.map_cons, List.map_nil, List.sum_cons, List.sum_nil] at ih ⊢
    omega
theorem weigh_take (all : List (List TV)) (i : Nat) : weigh (all.take i) ≤ weigh all := by
  have h : weigh all = weigh (all.take i) + weigh (all.drop i) := by
    unfold weigh
    rw [← List.sum_append, ← List.map_append, List.take_append_drop]
  omega
/-- the way that counts -/
def modeOf (mode : Int) : Nat := if mode = 1 then 1 else if mode = 2 then 2 else 0
def linesT (s : ByteArray) (wd mode : Int) : List LV := if wd < 1 then [] else linesTo wd.toNat (modeOf mode) (rowsT (flow s)) (rowsT (flow s)).length

def lcells (x : LV) : List Value := [.string x.text, .int .i64 x.width, .int .i8 x.fin, .string x.lost]
def cells4 (l : List LV) : List Value := l.flatMap lcells
theorem cells4_append (a b : List LV) : cells4 (a ++ b) = cells4 a ++ cells4 b := by simp [cells4]
theorem cells4_length (l : List LV) : (cells4 l).length = l.length * 4 := by
  induction l with
  | nil => rfl
  | cons x t ih => have e : cells4 (x :: t) = lcells x ++ cells4 t := by simp [cells4]
                   rw [e, List.length_append, ih]; simp [lcells]; omega

end Go.Proofs.Ytmjmmoecplndmaa.wrp
