/-
  Plain facts on floating point: where a value lies between the least and the greatest of some. No program in sight.
-/
import Derived.Test.YtbfheehaagcmeaaDoorFloOps
namespace Go.Proofs.YtbfheehaagcmeaaDoor.flo
open Ieee

abbrev D : Format := Ieee.double
def TWO : Nat := 4611686018427387904
def EIGHT : Nat := 4620693217682128896
theorem hfD : D.binade ≤ D.infRung := by decide
theorem hlD : D.leastPlace ≤ 0 := by decide
theorem read_two : D.read TWO = .number false (2 ^ 52) (-51) := by decide +kernel
theorem read_eight : D.read EIGHT = .number false (2 ^ 52) (-49) := by decide +kernel

def fdiv (x y : Nat) : Nat := (D.div x y).getD 0
def fsub (x y : Nat) : Nat := (D.sub x y).getD 0
def fmul (x y : Nat) : Nat := (D.mul x y).getD 0
def toI (x : Nat) : Int := ((D.read x).toInt .zero).getD 0

/-- a half of a word -/
theorem div_two {x : Nat} (hx : finW D x = true) : D.div x TWO = some (fdiv x TWO) ∧ fdiv x TWO = D.word (negW D x) (halfR D (V D (rungW D x))) := by
  have h := half_fin D hx (y := TWO) (k := 52) (j := -51) read_two (by decide) (fun m i e => read_mag D e)
  unfold fdiv
  rw [h]
  exact ⟨rfl, rfl⟩
theorem two_fin {x : Nat} (hx : finW D x = true) : finW D (fdiv x TWO) = true ∧ negW D (fdiv x TWO) = negW D x ∧ rungW D (fdiv x TWO) = halfR D (V D (rungW D x)) := by
  obtain ⟨-, e⟩ := div_two hx
  have hx' : rungW D x < D.infRung := by simpa [finW] using hx
  have h1 := halfR_le D (Nat.le_of_lt hx')
  have h2 := inf_lt D
  obtain ⟨h3, h4⟩ := word_read D (negW D x) (r := halfR D (V D (rungW D x))) (by omega)
  rw [e]
  refine ⟨?_, h3, h4⟩
  unfold finW
  rw [h4]
  simp; omega

/-- the greatest finite rung, halved -/
def RM : Nat := D.infRung - 1
theorem half_max : V D (halfR D (V D RM)) * 2 = V D RM := by
  have h : V D RM = V D (RM - D.binade) * 2 := by decide +kernel
  have h2 : halfR D (V D RM) = RM - D.binade := halfR_of D (by decide +kernel) h
  rw [h2]
  exact h.symm
theorem half_bound {r : Nat} (h : r < D.infRung) : V D (halfR D (V D r)) * 2 ≤ V D RM := by
  have h1 : r ≤ RM := by unfold RM; omega
  have h2 := V_le D (halfR_mono D (V_le D h1))
  have h3 := half_max
  omega

theorem sg_mono {s t : Bool} {a b : Nat} {g : Nat → Nat} (hg : ∀ {x y}, x ≤ y → g x ≤ g y) (h0 : g 0 = 0) (h : sg s a ≤ sg t b) : sg s (g a) ≤ sg t (g b) := by
  unfold sg at *
  cases s <;> cases t <;> simp only [Bool.false_eq_true, if_false, if_true] at h ⊢
  · have := hg (show a ≤ b by omega); omega
  · have ha : a = 0 := by omega
    have hb : b = 0 := by omega
    rw [ha, hb, h0]; omega
  · omega
  · have := hg (show b ≤ a by omega); omega

/-- the difference of two halves -/
theorem halves {x y : Nat} (hx : finW D x = true) (hy : finW D y = true) :
    D.sub (fdiv x TWO) (fdiv y TWO) = some (fsub (fdiv x TWO) (fdiv y TWO)) ∧ fsub (fdiv x TWO) (fdiv y TWO) = toW D (negW D x && !negW D y) (val D (fdiv x TWO) - val D (fdiv y TWO)) ∧ finW D (fsub (fdiv x TWO) (fdiv y TWO)) = true := by
  obtain ⟨a1, a2, a3⟩ := two_fin hx
  obtain ⟨b1, b2, b3⟩ := two_fin hy
  have h := sub_fin D a1 b1
  rw [a2, b2] at h
  have e : fsub (fdiv x TWO) (fdiv y TWO) = toW D (negW D x && !negW D y) (val D (fdiv x TWO) - val D (fdiv y TWO)) := by
    show (D.sub (fdiv x TWO) (fdiv y TWO)).getD 0 = _
    rw [h]; rfl
  refine ⟨by rw [e]; exact h, e, ?_⟩
  rw [e]
  unfold finW
  rw [toW_rung]
  have hx' : rungW D x < D.infRung := by simpa [finW] using hx
  have hy' : rungW D y < D.infRung := by simpa [finW] using hy
  have h1 := half_bound hx'
  have h2 := half_bound hy'
  have hb : (val D (fdiv x TWO) - val D (fdiv y TWO)).natAbs ≤ V D RM := by
    unfold val
    rw [a3, b3]
    unfold sg
    split <;> split <;> omega
  have h3 := nr_mono D D.leastPlace hb
  rw [nr_V D (by unfold RM; omega)] at h3
  have h4 : RM < D.infRung := by decide +kernel
  simp; omega
theorem val_half_mono {x y : Nat} (hx : finW D x = true) (hy : finW D y = true) (h : key D x ≤ key D y) : val D (fdiv x TWO) ≤ val D (fdiv y TWO) := by
  obtain ⟨a1, a2, a3⟩ := two_fin hx
  obtain ⟨b1, b2, b3⟩ := two_fin hy
  unfold val
  rw [a2, a3, b2, b3]
  exact sg_mono (g := fun r => V D (halfR D (V D r))) (fun h => V_le D (halfR_mono D (V_le D h))) (by show V D (halfR D (V D 0)) = 0; rw [V_zero, halfR_zero, V_zero]) h

def R1 : Nat := 1023 * D.binade
def R8 : Nat := 1026 * D.binade
theorem V_one : V D R1 = 2 ^ (-D.leastPlace).toNat := by decide +kernel
theorem V_eight : V D R8 = 8 * 2 ^ (-D.leastPlace).toNat := by decide +kernel

/-- what is known of a value between the least and the greatest -/
structure Between (v lo hi : Nat) : Prop where
  hv : finW D v = true
  hlo : finW D lo = true
  hhi : finW D hi = true
  h1 : key D lo ≤ key D v
  h2 : key D v ≤ key D hi

def below (lo hi : Nat) : Nat := fsub (fdiv hi TWO) (fdiv lo TWO)
def part (v lo hi : Nat) : Nat := fdiv (fsub (fdiv v TWO) (fdiv lo TWO)) (below lo hi)
def eighth (v lo hi : Nat) : Nat := fmul EIGHT (part v lo hi)

theorem zero_key {x : Nat} (hx : finW D x = true) : D.order x 0 = some (compare (key D x) 0) := by
  have h0 : numW D 0 = true := by decide +kernel
  have hx' : numW D x = true := by
    unfold finW at hx; unfold numW
    simp at hx ⊢; omega
  rw [order_key D hfD hx' h0]
  rfl

theorem parts {v lo hi : Nat} (h : Between v lo hi) (hne : D.order (below lo hi) 0 ≠ some .eq) :
    D.div (fsub (fdiv v TWO) (fdiv lo TWO)) (below lo hi) = some (part v lo hi) ∧ D.mul EIGHT (part v lo hi) = some (eighth v lo hi) ∧
    finW D (eighth v lo hi) = true ∧ rungW D (eighth v lo hi) ≤ R8 ∧ (negW D (eighth v lo hi) = false ∨ rungW D (eighth v lo hi) = 0) := by
  obtain ⟨-, ea, fa⟩ := halves h.hv h.hlo
  obtain ⟨-, ed, fd⟩ := halves h.hhi h.hlo
  have m1 := val_half_mono h.hlo h.hv h.h1
  have m2 := val_half_mono h.hv h.hhi h.h2
  have hT0 : 0 ≤ val D (fdiv v TWO) - val D (fdiv lo TWO) := by omega
  have hT1 : val D (fdiv v TWO) - val D (fdiv lo TWO) ≤ val D (fdiv hi TWO) - val D (fdiv lo TWO) := by omega
  have ra : rungW D (fsub (fdiv v TWO) (fdiv lo TWO)) = nr D (val D (fdiv v TWO) - val D (fdiv lo TWO)).natAbs D.leastPlace := by rw [ea, toW_rung]
  have na : negW D (fsub (fdiv v TWO) (fdiv lo TWO)) = false ∨ rungW D (fsub (fdiv v TWO) (fdiv lo TWO)) = 0 := by
    rw [ra]
    rw [ea, toW_neg]
    by_cases e0 : val D (fdiv v TWO) - val D (fdiv lo TWO) = 0
    · right; rw [e0]; exact nr_zero D _
    · left; rw [if_neg e0, decide_eq_false (by omega)]
  have rd : rungW D (below lo hi) = nr D (val D (fdiv hi TWO) - val D (fdiv lo TWO)).natAbs D.leastPlace := by show rungW D (fsub (fdiv hi TWO) (fdiv lo TWO)) = _; rw [ed, toW_rung]
  have fd' : finW D (below lo hi) = true := fd
  have hrd0 : rungW D (below lo hi) ≠ 0 := by
    intro e0
    apply hne
    rw [zero_key fd']
    have : key D (below lo hi) = 0 := by unfold key sg; rw [e0]; split <;> rfl
    rw [this]; rfl
  have nd : negW D (below lo hi) = false := by
    show negW D (fsub (fdiv hi TWO) (fdiv lo TWO)) = _
    rw [ed, toW_neg]
    by_cases e0 : val D (fdiv hi TWO) - val D (fdiv lo TWO) = 0
    · exfalso; apply hrd0; rw [rd, e0]; exact nr_zero D _
    · rw [if_neg e0, decide_eq_false (by omega)]
  have hle : rungW D (fsub (fdiv v TWO) (fdiv lo TWO)) ≤ rungW D (below lo hi) := by
    rw [ra, rd]; exact nr_mono D _ (by omega)
  obtain ⟨r, eq, hr⟩ := quot_le D fa fd' hrd0 hle (r1 := R1) (by decide +kernel) V_one hlD (fun m i e => read_mag D e)
  have ep : part v lo hi = D.word (negW D (fsub (fdiv v TWO) (fdiv lo TWO)) ^^ negW D (below lo hi)) r := by unfold part; show (D.div _ _).getD 0 = _; rw [eq]; rfl
  have hr8 : R1 < D.signWeight := by decide +kernel
  obtain ⟨w1, w2⟩ := word_read D (negW D (fsub (fdiv v TWO) (fdiv lo TWO)) ^^ negW D (below lo hi)) (r := r) (by omega)
  rw [← ep] at w1 w2
  have fp : finW D (part v lo hi) = true := by
    unfold finW; rw [w2]
    have : R1 < D.infRung := by decide +kernel
    simp; omega
  obtain ⟨m, i, n, j, eme, hpi, hvm, hpj, hvn⟩ := mul_fin D (x := EIGHT) (y := part v lo hi) (by decide +kernel) fp
  have ee : eighth v lo hi = D.word (negW D EIGHT ^^ negW D (part v lo hi)) (nr D (m * n) (i + j)) := by unfold eighth; show (D.mul _ _).getD 0 = _; rw [eme]; rfl
  have hr8' : nr D (m * n) (i + j) ≤ R8 := by
    have h9 : nr D (V D R8) D.leastPlace = R8 := nr_V D (by decide +kernel)
    rw [← h9]
    -- over the place 2 * leastPlace
    refine nr_le D (b := D.leastPlace + D.leastPlace) (by omega) (by have := hlD; omega) ?_
    have e1 : (i + j - (D.leastPlace + D.leastPlace)).toNat = (i - D.leastPlace).toNat + (j - D.leastPlace).toNat := by omega
    have e2 : (D.leastPlace - (D.leastPlace + D.leastPlace)).toNat = (-D.leastPlace).toNat := by omega
    have e3 : V D (rungW D EIGHT) = 8 * 2 ^ (-D.leastPlace).toNat := by decide +kernel
    rw [e1, e2, Nat.pow_add, show m * n * (2 ^ (i - D.leastPlace).toNat * 2 ^ (j - D.leastPlace).toNat) = (m * 2 ^ (i - D.leastPlace).toNat) * (n * 2 ^ (j - D.leastPlace).toNat) by
      rw [Nat.mul_assoc, Nat.mul_assoc, Nat.mul_left_comm n], hvm, hvn, e3, V_eight]
    refine Nat.mul_le_mul_left _ ?_
    rw [← V_one, w2]
    exact V_le D hr
  have h10 : R8 < D.signWeight := by decide +kernel
  obtain ⟨x1, x2⟩ := word_read D (negW D EIGHT ^^ negW D (part v lo hi)) (r := nr D (m * n) (i + j)) (by omega)
  rw [← ee] at x1 x2
  refine ⟨by rw [eq, ep], by rw [eme, ee], ?_, by rw [x2]; exact hr8', ?_⟩
  · unfold finW; rw [x2]
    have : R8 < D.infRung := by decide +kernel
    simp; omega
  · have e8 : negW D EIGHT = false := by decide +kernel
    rcases na with na | na
    · left; rw [x1, e8, w1, na, nd]; rfl
    · right
      rw [x2]
      -- a quotient of nothing
      have hr0 : r = 0 := by
        have hz : V D (rungW D (fsub (fdiv v TWO) (fdiv lo TWO))) = 0 := by rw [na, V_zero]
        obtain ⟨m', i', e', hi', hv'⟩ := read_fin D (x := fsub (fdiv v TWO) (fdiv lo TWO)) (by simpa [finW] using fa)
        have hm0 : m' = 0 := by
          rw [hz] at hv'
          rcases Nat.mul_eq_zero.1 hv' with h | h
          · exact h
          · have := Nat.two_pow_pos (i' - D.leastPlace).toNat; omega
        subst hm0
        obtain ⟨n', j', e'', hj', hv''⟩ := read_fin D (x := below lo hi) (by simpa [finW] using fd')
        have hn0 : n' ≠ 0 := by
          intro h; rw [h, Nat.zero_mul] at hv''
          exact hrd0 (V_inj D (hv''.symm.trans (V_zero D).symm))
        have := eq
        unfold Format.div at this
        rw [e', e''] at this
        change ((if n' = 0 then _ else some (Datum.number _ (2 * ((0 <<< (D.fractionBits + 2 + n'.log2 - (0 : Nat).log2)) / n') + ((0 <<< (D.fractionBits + 2 + n'.log2 - (0 : Nat).log2)) % n' != 0).toNat) _) : Option Datum)).map D.write = _ at this
        rw [if_neg hn0, Nat.zero_shiftLeft, Nat.zero_div, Nat.zero_mod] at this
        simp only [Option.map_some, Option.some.injEq] at this
        have e5 : D.write (Datum.number (negW D (fsub (fdiv v TWO) (fdiv lo TWO)) ^^ negW D (below lo hi)) (2 * 0 + ((0 : Nat) != 0).toNat) (i' - j' - ((D.fractionBits + 2 + n'.log2 - (0 : Nat).log2 : Nat) : Int) - 1)) = D.word (negW D (fsub (fdiv v TWO) (fdiv lo TWO)) ^^ negW D (below lo hi)) 0 := by
          show D.nearest _ 0 _ = _
          rw [nearest_eq, nr_zero]
        have e6 := this.symm.trans e5
        have e7 := (word_read D (negW D (fsub (fdiv v TWO) (fdiv lo TWO)) ^^ negW D (below lo hi)) (r := r) (by omega)).2
        rw [e6, (word_read D _ (by decide +kernel)).2] at e7
        exact e7.symm
      have hn : n = 0 := by
        rw [w2, hr0, V_zero] at hvn
        rcases Nat.mul_eq_zero.1 hvn with h | h
        · exact h
        · have := Nat.two_pow_pos (j - D.leastPlace).toNat; omega
      rw [hn, Nat.mul_zero]; exact nr_zero D _

/-- the whole part: from 0 to 8 -/
theorem eighth_int {v lo hi : Nat} (h : Between v lo hi) (hne : D.order (below lo hi) 0 ≠ some .eq) : (D.read (eighth v lo hi)).toInt .zero = some (toI (eighth v lo hi)) ∧ 0 ≤ toI (eighth v lo hi) ∧ toI (eighth v lo hi) ≤ 8 ∧ toI (eighth v lo hi) = ((V D (rungW D (eighth v lo hi)) / 2 ^ (-D.leastPlace).toNat : Nat) : Int) := by
  obtain ⟨-, -, hf, hr, hn⟩ := parts h hne
  have hti := toInt_fin D hf hlD
  have e1 : V D (rungW D (eighth v lo hi)) / 2 ^ (-D.leastPlace).toNat ≤ 8 := by
    have h2 := V_le D hr
    rw [V_eight] at h2
    have h3 := Nat.div_le_div_right (c := 2 ^ (-D.leastPlace).toNat) h2
    rwa [Nat.mul_div_cancel _ (Nat.two_pow_pos _)] at h3
  have e2 : sg (negW D (eighth v lo hi)) (V D (rungW D (eighth v lo hi)) / 2 ^ (-D.leastPlace).toNat) = ((V D (rungW D (eighth v lo hi)) / 2 ^ (-D.leastPlace).toNat : Nat) : Int) := by
    rcases hn with hn | hn
    · rw [hn]; rfl
    · rw [hn, V_zero, Nat.zero_div]; unfold sg; split <;> rfl
  rw [e2] at hti
  have e3 : toI (eighth v lo hi) = ((V D (rungW D (eighth v lo hi)) / 2 ^ (-D.leastPlace).toNat : Nat) : Int) := by unfold toI; rw [hti]; rfl
  rw [e3]
  generalize V D (rungW D (eighth v lo hi)) / 2 ^ (-D.leastPlace).toNat = k at *
  exact ⟨hti, by omega, by omega, rfl⟩

end Go.Proofs.YtbfheehaagcmeaaDoor.flo
