/-
  Several rows that are owned, none lying in another's block: written, and gone on with.
-/
import Derived.Test.YtgpgbbbcodnieaaRowKit
import Derived.BigFrame
namespace Go.Proofs.Ytgpgbbbcodnieaa.run
open Go Go.RowKit

def Rack (B e sz N : Nat) (V : Nat → Value) (n : Nat → Nat) (X : Nat → List Value) (w : World) : Prop := ∀ j, j < N → w.ownsRow B e sz (V j) (n j) (X j)
def Apart (N : Nat) (V : Nat → Value) : Prop := ∀ i j, i < N → j < N → i ≠ j → ∀ k, (V i).ownBlock = some k → (V j).ownBlock ≠ some k
def put (X : Nat → List Value) (i : Nat) (x : List Value) : Nat → List Value := fun j => if j = i then x else X j
/-- the first i rows bear their marks -/
def Marked (sz : Nat) (m : Nat → Int) (n : Nat → Nat) (X : Nat → List Value) (i : Nat) : Prop := ∀ j, j < i → ∀ k, k < n j → (X j)[k * sz + 1]? = some (.int .i64 (m j))
def RowMark (sz : Nat) (m : Int) (xs : List Value) (i : Nat) : Prop := ∀ k, k < i → xs[k * sz + 1]? = some (.int .i64 m)

theorem own_kept {w w' : World} {B e sz n : Nat} {v : Value} {xs : List Value} {r : Option Nat} (h : w.ownsRow B e sz v n xs) (hg : w.grownBy w' r) (hr : ∀ k, v.ownBlock = some k → r ≠ some k) : w'.ownsRow B e sz v n xs := by
  refine h.kept hg ?_
  cases hv : v.ownBlock with
  | none => exact .inl rfl
  | some k => exact .inr fun e => hr k hv e.symm
theorem own_apart {w : World} {B B' e e' sz sz' n n' : Nat} {v v' : Value} {xs xs' : List Value} (h : w.ownsRow B e sz v n xs) (h' : w.ownsRow B' e' sz' v' n' xs') (hne : e ≠ e') : ∀ k, v.ownBlock = some k → v'.ownBlock ≠ some k := by
  intro k hk hk'
  rcases h.2 with ⟨rfl, -⟩ | ⟨g, c, cur, rfl, -, hg, -⟩
  · simp [Value.ownBlock] at hk
  rcases h'.2 with ⟨rfl, -⟩ | ⟨g', c', cur', rfl, -, hg', -⟩
  · simp [Value.ownBlock] at hk'
  simp only [Value.ownBlock, Option.some.injEq] at hk hk'
  subst hk hk'
  rw [hg] at hg'
  simp only [Option.some.injEq, Obj.cells.injEq] at hg'
  exact hne hg'.2.1

theorem Rack.put {B e sz N : Nat} {V : Nat → Value} {n : Nat → Nat} {X : Nat → List Value} {w w' : World} {i : Nat} {x : List Value} (h : Rack B e sz N V n X w) (ha : Apart N V) (hi : i < N) (hg : w.grownBy w' (V i).ownBlock) (hx : w'.ownsRow B e sz (V i) (n i) x) :
    Rack B e sz N V n (put X i x) w' := by
  intro j hj
  unfold run.put
  by_cases e : j = i
  · subst e; simpa using hx
  · rw [if_neg e]
    exact own_kept (h j hj) hg fun k hk hk' => ha j i hj hi e k hk hk'
theorem Marked.put {sz : Nat} {m : Nat → Int} {n : Nat → Nat} {X : Nat → List Value} {i : Nat} {x : List Value} (h : Marked sz m n X i) (hx : RowMark sz (m i) x (n i)) : Marked sz m n (put X i x) (i + 1) := by
  intro j hj k hk
  unfold run.put
  by_cases e : j = i
  · subst e; simpa using hx k hk
  · rw [if_neg e]; exact h j (by omega) k hk
theorem mark_step {sz : Nat} {m : Int} {xs ys : List Value} {i : Nat} (h : RowMark sz m xs i) (hi : ys[i * sz + 1]? = some (.int .i64 m)) (hs : ∀ k, k < i → ys[k * sz + 1]? = xs[k * sz + 1]?) : RowMark sz m ys (i + 1) := by
  intro k hk
  by_cases e : k = i
  · subst e; exact hi
  · rw [hs k (by omega)]; exact h k (by omega)

/-- rows gone on with: each with its seventy marks behind it -/
structure More (B e sz N : Nat) (V : Nat → Value) (n : Nat → Nat) (X : Nat → List Value) (m : Nat → Int) (d : Value) (i : Nat) (Gs : List Value) (w : World) : Prop where
  len : Gs.length = i
  rack : Rack B e sz N V n X w
  own : ∀ j, j < i → ∃ ys, w.ownsRow B e sz (Gs.getD j d) (n j + 70) (X j ++ ys) ∧ RowMark sz (m j) ys 70
  apart : ∀ j j', j < i → j' < N → j ≠ j' → ∀ k, (Gs.getD j d).ownBlock = some k → (V j').ownBlock ≠ some k
  apart2 : ∀ j j', j < i → j' < i → j ≠ j' → ∀ k, (Gs.getD j d).ownBlock = some k → (Gs.getD j' d).ownBlock ≠ some k
theorem More.start {B e sz N : Nat} {V : Nat → Value} {n : Nat → Nat} {X : Nat → List Value} {m : Nat → Int} {d : Value} {w : World} (h : Rack B e sz N V n X w) : More B e sz N V n X m d 0 [] w :=
  ⟨rfl, h, fun j hj => by omega, fun j j' hj => by omega, fun j j' hj => by omega⟩
theorem More.kept {B e sz N : Nat} {V : Nat → Value} {n : Nat → Nat} {X : Nat → List Value} {m : Nat → Int} {d : Value} {i : Nat} {Gs : List Value} {w w' : World} (h : More B e sz N V n X m d i Gs w) (hk : ∀ v n xs, w.ownsRow B e sz v n xs → w'.ownsRow B e sz v n xs) : More B e sz N V n X m d i Gs w' :=
  ⟨h.len, fun j hj => hk _ _ _ (h.rack j hj), fun j hj => by obtain ⟨ys, h1, h2⟩ := h.own j hj; exact ⟨ys, hk _ _ _ h1, h2⟩, h.apart, h.apart2⟩
theorem More.next {B e sz N : Nat} {V : Nat → Value} {n : Nat → Nat} {X : Nat → List Value} {m : Nat → Int} {d : Value} {i : Nat} {Gs : List Value} {w w1 : World} {g : Value} {ys : List Value} (h : More B e sz N V n X m d i Gs w) (ha : Apart N V) (hi : i < N)
    (hg : Grow B e sz w (V i) (n i) (X i) g (n i + 70) ys w1) (hm : RowMark sz (m i) ys 70) : More B e sz N V n X m d (i + 1) (Gs ++ [g]) w1 := by
  have hold : ∀ j, j < i → (Gs ++ [g]).getD j d = Gs.getD j d := fun j hj => by
    simp only [List.getD_eq_getElem?_getD]; rw [List.getElem?_append_left (by rw [h.len]; exact hj)]
  have hnew : (Gs ++ [g]).getD i d = g := by
    simp only [List.getD_eq_getElem?_getD]; rw [List.getElem?_append_right (by rw [h.len]; exact Nat.le_refl _), h.len]; simp
  have hgV : ∀ j', j' < N → i ≠ j' → ∀ k, g.ownBlock = some k → (V j').ownBlock ≠ some k := by
    intro j' hj' hne k hk hk'
    rcases hg.step with ⟨b, c, e1, e2⟩ | hs
    · have e3 : (V i).ownBlock = g.ownBlock := by rw [e1, e2]; rfl
      exact ha i j' hi hj' hne k (e3.trans hk) hk'
    · have h1 := hs k hk
      have h2 := ((h.rack j' hj').lt k hk').2
      omega
  have hgG : ∀ j', j' < i → ∀ k, g.ownBlock = some k → (Gs.getD j' d).ownBlock ≠ some k := by
    intro j' hj' k hk hk'
    rcases hg.step with ⟨b, c, e1, e2⟩ | hs
    · have e3 : (V i).ownBlock = g.ownBlock := by rw [e1, e2]; rfl
      exact h.apart j' i hj' hi (by omega) k hk' (e3.trans hk)
    · have h1 := hs k hk
      obtain ⟨ys, ho, -⟩ := h.own j' hj'
      have h2 := (ho.lt k hk').2
      omega
  refine ⟨by simp [h.len], ?_, ?_, ?_, ?_⟩
  · intro j hj
    by_cases e : j = i
    · subst e; exact hg.old
    · exact own_kept (h.rack j hj) hg.grown fun k hk hk' => ha j i hj hi e k hk hk'
  · intro j hj
    by_cases e : j = i
    · subst e; rw [hnew]; exact ⟨ys, hg.new, hm⟩
    · rw [hold j (by omega)]
      obtain ⟨zs, h1, h2⟩ := h.own j (by omega)
      exact ⟨zs, own_kept h1 hg.grown fun k hk hk' => h.apart j i (by omega) hi e k hk hk', h2⟩
  · intro j j' hj hj' hne k hk
    by_cases e : j = i
    · subst e; rw [hnew] at hk; exact hgV j' hj' hne k hk
    · rw [hold j (by omega)] at hk; exact h.apart j j' (by omega) hj' hne k hk
  · intro j j' hj hj' hne k hk
    by_cases e : j = i
    · subst e
      rw [hnew] at hk
      rw [hold j' (by omega)]
      exact hgG j' (by omega) k hk
    · rw [hold j (by omega)] at hk
      by_cases e' : j' = i
      · subst e'
        rw [hnew]
        exact fun hk' => hgG j (by omega) k hk' hk
      · rw [hold j' (by omega)]
        exact h.apart2 j j' (by omega) (by omega) hne k hk

end Go.Proofs.Ytgpgbbbcodnieaa.run
