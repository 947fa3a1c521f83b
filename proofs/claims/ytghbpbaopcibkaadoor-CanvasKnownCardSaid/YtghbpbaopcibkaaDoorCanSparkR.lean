/-
  Plain facts: the least and the greatest by '<' and '>', and the eighths that they give, are those by min and max.
-/
import Derived.Test.YtghbpbaopcibkaaDoorCanSpark2
import Derived.Test.YtghbpbaopcibkaaDoorFloNan
namespace Go.Proofs.YtghbpbaopcibkaaDoor.can
open Go.RowKit Go.Proofs Go.Proofs.YtghbpbaopcibkaaDoor.flo Ieee
set_option linter.unusedVariables false

def lowR (a v : Nat) : Nat := if finW D v && (D.order v a == some .lt) then v else a
def highR (a v : Nat) : Nat := if finW D v && (D.order v a == some .gt) then v else a
def loR (l : List Nat) : Nat := l.foldl lowR PINF
def hiR (l : List Nat) : Nat := l.foldl highR NINF

theorem low_key {a v : Nat} (ha : numW D a = true) (hv : finW D v = true) : numW D (lowR a v) = true ∧ key D (lowR a v) = min (key D a) (key D v) := by
  have nv := num_fin hv
  unfold lowR
  rw [hv, Bool.true_and, order_key D hfD nv ha, cmp_def]
  by_cases h1 : key D v < key D a
  · rw [if_pos h1, if_pos (by rfl)]; exact ⟨nv, by omega⟩
  · rw [if_neg h1]
    by_cases h2 : key D v = key D a
    · rw [if_pos h2, if_neg (by decide)]; exact ⟨ha, by omega⟩
    · rw [if_neg h2, if_neg (by decide)]; exact ⟨ha, by omega⟩
theorem high_key {a v : Nat} (ha : numW D a = true) (hv : finW D v = true) : numW D (highR a v) = true ∧ key D (highR a v) = max (key D a) (key D v) := by
  have nv := num_fin hv
  unfold highR
  rw [hv, Bool.true_and, order_key D hfD nv ha, cmp_def]
  by_cases h1 : key D v < key D a
  · rw [if_pos h1, if_neg (by decide)]; exact ⟨ha, by omega⟩
  · rw [if_neg h1]
    by_cases h2 : key D v = key D a
    · rw [if_pos h2, if_neg (by decide)]; exact ⟨ha, by omega⟩
    · rw [if_neg h2, if_pos (by rfl)]; exact ⟨nv, by omega⟩
theorem fold_keys : ∀ (l : List Nat) (a b a' b' : Nat), numW D a = true → numW D b = true → numW D a' = true → numW D b' = true → key D a = key D a' → key D b = key D b' →
    key D (l.foldl lowR a) = key D (l.foldl (fun a v => if finW D v then minB a v else a) a') ∧ key D (l.foldl highR b) = key D (l.foldl (fun a v => if finW D v then maxB a v else a) b')
  | [], a, b, a', b', h1, h2, h3, h4, h5, h6 => ⟨h5, h6⟩
  | v :: l, a, b, a', b', h1, h2, h3, h4, h5, h6 => by
    simp only [List.foldl_cons]
    by_cases hv : finW D v = true
    · rw [if_pos hv, if_pos hv]
      have nv := num_fin hv
      obtain ⟨x1, x2⟩ := low_key h1 hv
      obtain ⟨y1, y2⟩ := high_key h2 hv
      obtain ⟨z1, z2, -⟩ := min_num h3 nv
      obtain ⟨u1, u2, -⟩ := max_num h4 nv
      exact fold_keys l _ _ _ _ x1 y1 z1 u1 (by rw [x2, z2, h5]) (by rw [y2, u2, h6])
    · have hv' : finW D v = false := by simpa using hv
      have e1 : lowR a v = a := by unfold lowR; rw [hv']; rfl
      have e2 : highR b v = b := by unfold highR; rw [hv']; rfl
      rw [e1, e2, if_neg (by simp [hv']), if_neg (by simp [hv'])]
      exact fold_keys l a b a' b' h1 h2 h3 h4 h5 h6
theorem keys_same (l : List Nat) : key D (loR l) = key D (loT l) ∧ key D (hiR l) = key D (hiT l) := fold_keys l PINF NINF PINF NINF num_pinf num_ninf num_pinf num_ninf rfl rfl

theorem fin_key {x y : Nat} (h : key D x = key D y) (hy : finW D y = true) : finW D x = true := by
  have e : rungW D x = rungW D y := by
    have := congrArg Int.natAbs h
    unfold key at this
    rwa [sg_natAbs, sg_natAbs] at this
  unfold finW at *
  rw [e]; exact hy
theorem between_keys {v lo hi lo' hi' : Nat} (h : Between v lo hi) (kl : key D lo' = key D lo) (kh : key D hi' = key D hi) : Between v lo' hi' :=
  ⟨h.hv, fin_key kl h.hlo, fin_key kh h.hhi, by rw [kl]; exact h.h1, by rw [kh]; exact h.h2⟩
theorem half_val {x y : Nat} (hx : finW D x = true) (hy : finW D y = true) (h : key D x = key D y) : val D (fdiv x TWO) = val D (fdiv y TWO) :=
  Int.le_antisymm (val_half_mono hx hy (Int.le_of_eq h)) (val_half_mono hy hx (Int.le_of_eq h.symm))

/-- a zero has the rung 0, whatever its sign -/
theorem toW_cases (s t : Bool) (T : Int) : (T ≠ 0 ∧ toW D s T = toW D t T) ∨ (T = 0 ∧ rungW D (toW D s T) = 0) := by
  by_cases h : T = 0
  · right
    refine ⟨h, ?_⟩
    rw [toW_rung, h]
    exact nr_zero D _
  · left
    refine ⟨h, ?_⟩
    unfold toW
    rw [if_neg h, if_neg h]
theorem rung_zero_key {x : Nat} (h : rungW D x = 0) : key D x = 0 := by unfold key sg; rw [h]; split <;> rfl

theorem below_same {v lo hi lo' hi' : Nat} (h : Between v lo hi) (kl : key D lo' = key D lo) (kh : key D hi' = key D hi) : (below lo' hi' = below lo hi) ∨ (rungW D (below lo' hi') = 0 ∧ rungW D (below lo hi) = 0) := by
  have h' := between_keys h kl kh
  obtain ⟨-, e1, -⟩ := halves h.hhi h.hlo
  obtain ⟨-, e2, -⟩ := halves h'.hhi h'.hlo
  have v1 := half_val h'.hlo h.hlo kl
  have v2 := half_val h'.hhi h.hhi kh
  unfold below
  rw [e1, e2, v1, v2]
  rcases toW_cases (negW D hi' && !negW D lo') (negW D hi && !negW D lo) (val D (fdiv hi TWO) - val D (fdiv lo TWO)) with ⟨-, h1⟩ | ⟨h0, h1⟩
  · exact .inl h1
  · right
    rw [h0] at h1 ⊢
    exact ⟨h1, by rw [toW_rung]; exact nr_zero D _⟩
theorem order_zero_same {v lo hi lo' hi' : Nat} (h : Between v lo hi) (kl : key D lo' = key D lo) (kh : key D hi' = key D hi) : D.order (below lo' hi') 0 = D.order (below lo hi) 0 := by
  have h' := between_keys h kl kh
  have f1 : finW D (below lo hi) = true := (halves h.hhi h.hlo).2.2
  have f2 : finW D (below lo' hi') = true := (halves h'.hhi h'.hlo).2.2
  rcases below_same h kl kh with e | ⟨e1, e2⟩
  · rw [e]
  · rw [zero_key f2, zero_key f1]
    show some (compare (key D (below lo' hi')) 0) = some (compare (key D (below lo hi)) 0)
    rw [rung_zero_key e1, rung_zero_key e2]

theorem read_zero_rung {x : Nat} (h : rungW D x = 0) : D.read x = .number (negW D x) 0 D.leastPlace := by
  obtain ⟨m, i, e, hi, hv⟩ := read_fin D (x := x) (by rw [h]; decide)
  unfold Format.read
  have h' : x % D.signWeight = 0 := h
  simp only [h']
  rw [if_pos (by decide)]
  rfl
theorem write_zero (s : Bool) (i : Int) : D.write (.number s 0 i) = D.word s 0 := rfl
theorem word_zero (s : Bool) : rungW D (D.word s 0) = 0 := (word_read D s (r := 0) (by decide)).2
theorem zero_eighth {a b : Nat} (ha : rungW D a = 0) (hb : finW D b = true) (hb0 : rungW D b ≠ 0) : rungW D (fmul EIGHT (fdiv a b)) = 0 := by
  have hb' : rungW D b < D.infRung := by simpa [finW] using hb
  obtain ⟨n, j, e, hj, hv⟩ := read_fin D hb'
  have hn : n ≠ 0 := by
    rintro rfl
    rw [Nat.zero_mul, ← V_zero D] at hv
    exact hb0 (V_inj D hv).symm
  have h1 : D.div a b = some (D.word (negW D a ^^ negW D b) 0) := by
    unfold Format.div
    rw [read_zero_rung ha, e]
    unfold Datum.quotient
    simp only
    rw [if_neg hn]
    simp only [Nat.zero_shiftLeft, Nat.zero_div, Nat.zero_mod, Nat.mul_zero, bne_self_eq_false, Bool.toNat_false, Nat.add_zero, Option.map_some]
    rfl
  have h2 : fdiv a b = D.word (negW D a ^^ negW D b) 0 := by unfold fdiv; rw [h1]; rfl
  have h3 : D.mul EIGHT (fdiv a b) = some (D.word (false ^^ negW D (fdiv a b)) 0) := by
    unfold Format.mul
    rw [read_eight, read_zero_rung (x := fdiv a b) (by rw [h2]; exact word_zero _)]
    rfl
  have h4 : fmul EIGHT (fdiv a b) = D.word (false ^^ negW D (fdiv a b)) 0 := by unfold fmul; rw [h3]; rfl
  rw [h4]
  exact word_zero _

theorem below_some {v lo hi : Nat} (h : Between v lo hi) (hne : D.order (below lo hi) 0 ≠ some .eq) : finW D (below lo hi) = true ∧ rungW D (below lo hi) ≠ 0 := by
  have f1 : finW D (below lo hi) = true := (halves h.hhi h.hlo).2.2
  refine ⟨f1, fun e => hne ?_⟩
  rw [zero_key f1, rung_zero_key e]
  rfl
theorem eighth_same {v lo hi lo' hi' : Nat} (h : Between v lo hi) (kl : key D lo' = key D lo) (kh : key D hi' = key D hi) (hne : D.order (below lo hi) 0 ≠ some .eq) : toI (eighth v lo' hi') = toI (eighth v lo hi) := by
  have h' := between_keys h kl kh
  have hne' : D.order (below lo' hi') 0 ≠ some .eq := by rw [order_zero_same h kl kh]; exact hne
  obtain ⟨-, -, -, t1⟩ := eighth_int h hne
  obtain ⟨-, -, -, t2⟩ := eighth_int h' hne'
  rw [t1, t2]
  suffices hr : rungW D (eighth v lo' hi') = rungW D (eighth v lo hi) by rw [hr]
  have hpart : ∀ v lo hi, eighth v lo hi = fmul EIGHT (fdiv (fsub (fdiv v TWO) (fdiv lo TWO)) (below lo hi)) := fun _ _ _ => rfl
  obtain ⟨fb, rb⟩ := below_some h hne
  obtain ⟨fb', rb'⟩ := below_some h' hne'
  have eb : below lo' hi' = below lo hi := by
    rcases below_same h kl kh with e | ⟨e1, -⟩
    · exact e
    · exact absurd e1 rb'
  obtain ⟨-, e1, -⟩ := halves h.hv h.hlo
  obtain ⟨-, e2, -⟩ := halves h'.hv h'.hlo
  rw [half_val h'.hlo h.hlo kl] at e2
  rcases toW_cases (negW D v && !negW D lo') (negW D v && !negW D lo) (val D (fdiv v TWO) - val D (fdiv lo TWO)) with ⟨-, h1⟩ | ⟨h0, h1⟩
  · rw [hpart, hpart, e1, e2, h1, eb]
  · have z2 : rungW D (fsub (fdiv v TWO) (fdiv lo' TWO)) = 0 := by rw [e2]; exact h1
    have z1 : rungW D (fsub (fdiv v TWO) (fdiv lo TWO)) = 0 := by rw [e1, h0, toW_rung]; exact nr_zero D _
    rw [hpart, hpart, zero_eighth z1 fb rb, zero_eighth z2 fb' rb']

/-- down to a whole number -/
def floorW (x : Nat) : Nat := D.write ((D.read x).integral .down)
theorem small_whole : ∀ k ∈ List.range 9, ∀ s ∈ [true, false], (D.read (D.write (.number s k 0))).toInt .zero = some (sg s k) := by decide +kernel
theorem floor_eighth {v lo hi : Nat} (h : Between v lo hi) (hne : D.order (below lo hi) 0 ≠ some .eq) : (D.read (floorW (eighth v lo hi))).toInt .zero = some (toI (eighth v lo hi)) ∧ 0 ≤ toI (eighth v lo hi) ∧ toI (eighth v lo hi) ≤ 8 := by
  obtain ⟨-, -, hf, -, hn⟩ := parts h hne
  obtain ⟨-, p1, p2, p3⟩ := eighth_int h hne
  refine ⟨?_, p1, p2⟩
  unfold floorW
  rw [down_fin D hf hlD hn]
  rw [p3] at p2 ⊢
  generalize hk : V D (rungW D (eighth v lo hi)) / 2 ^ (-D.leastPlace).toNat = k at *
  have hk8 : k ≤ 8 := by omega
  rw [small_whole k (by simp; omega) (negW D (eighth v lo hi)) (by cases negW D (eighth v lo hi) <;> simp)]
  rcases hn with hn | hn
  · rw [hn]; rfl
  · rw [hn, V_zero, Nat.zero_div] at hk
    subst hk
    unfold sg
    split <;> rfl

def blockR (v lo hi : Nat) : Int := if D.order (below lo hi) 0 = some .eq then 3 else min (toI (floorW (eighth v lo hi))) 7
theorem block_same {v lo hi lo' hi' : Nat} (h : Between v lo hi) (kl : key D lo' = key D lo) (kh : key D hi' = key D hi) : blockR v lo' hi' = blockT v lo hi := by
  unfold blockR blockT
  rw [order_zero_same h kl kh]
  by_cases hne : D.order (below lo hi) 0 = some .eq
  · rw [if_pos hne, if_pos hne]
  · rw [if_neg hne, if_neg hne]
    have h' := between_keys h kl kh
    have hne' : D.order (below lo' hi') 0 ≠ some .eq := by rw [order_zero_same h kl kh]; exact hne
    have e1 := (floor_eighth h' hne').1
    have e2 : toI (floorW (eighth v lo' hi')) = toI (eighth v lo' hi') := by
      conv => lhs; unfold toI
      rw [e1]; rfl
    rw [e2, eighth_same h kl kh hne]
end Go.Proofs.YtghbpbaopcibkaaDoor.can
