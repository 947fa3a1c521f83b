/-
  Floats of sparks and of layer canvas.
-/
import Derived.Test.YtbfheehaagcmeaaDoorFloA
import Derived.Test.YtbfheehaagcmeaaDoorCanRows
import Derived.Laws.FloatArith
namespace Go.Proofs.YtbfheehaagcmeaaDoor.flo
open Ieee

abbrev D : Format := Ieee.double
def TWO : Nat := 4611686018427387904
def EIGHT : Nat := 4620693217682128896
theorem hfD : D.binade ≤ D.infRung := by decide
theorem hlD : D.leastPlace ≤ 0 := by decide
theorem read_two : D.read TWO = .number false (2 ^ 52) (-51) := by decide +kernel
theorem read_eight : D.read EIGHT = .number false (2 ^ 52) (-49) := by decide +kernel

def fdiv (x y : Nat) : Nat := (D.div x y).getD 0
def fsub (x y : Nat) : Nat := (D.sub x y).getD 0
def fmul (x y : Nat) : Nat := (D.mul x y).getD 0
def toI (x : Nat) : Int := ((D.read x).toInt .zero).getD 0

/-- a half of a word -/
theorem div_two {x : Nat} (hx : finW D x = true) : D.div x TWO = some (fdiv x TWO) ∧ fdiv x TWO = D.word (negW D x) (halfR D (V D (rungW D x))) := by
  have h := half_fin D hx (y := TWO) (k := 52) (j := -51) read_two (by decide) (fun m i e => read_mag D e)
  unfold fdiv
  rw [h]
  exact ⟨rfl, rfl⟩
theorem two_fin {x : Nat} (hx : finW D x = true) : finW D (fdiv x TWO) = true ∧ negW D (fdiv x TWO) = negW D x ∧ rungW D (fdiv x TWO) = halfR D (V D (rungW D x)) := by
  obtain ⟨-, e⟩ := div_two hx
  have hx' : rungW D x < D.infRung := by simpa [finW] using hx
  have h1 := halfR_le D (Nat.le_of_lt hx')
  have h2 := inf_lt D
  obtain ⟨h3, h4⟩ := word_read D (negW D x) (r := halfR D (V D (rungW D x))) (by omega)
  rw [e]
  refine ⟨?_, h3, h4⟩
  unfold finW
  rw [h4]
  simp; omega

/-- the greatest finite rung, halved -/
def RM : Nat := D.infRung - 1
theorem half_max : V D (halfR D (V D RM)) * 2 = V D RM := by
  have h : V D RM = V D (RM - D.binade) * 2 := by decide +kernel
  have h2 : halfR D (V D RM) = RM - D.binade := halfR_of D (by decide +kernel) h
  rw [h2]
  exact h.symm
theorem half_bound {r : Nat} (h : r < D.infRung) : V D (halfR D (V D r)) * 2 ≤ V D RM := by
  have h1 : r ≤ RM := by unfold RM; omega
  have h2 := V_le D (halfR_mono D (V_le D h1))
  have h3 := half_max
  omega

theorem sg_mono {s t : Bool} {a b : Nat} {g : Nat → Nat} (hg : ∀ {x y}, x ≤ y → g x ≤ g y) (h0 : g 0 = 0) (h : sg s a ≤ sg t b) : sg s (g a) ≤ sg t (g b) := by
  unfold sg at *
  cases s <;> cases t <;> simp only [Bool.false_eq_true, if_false, if_true] at h ⊢
  · have := hg (show a ≤ b by omega); omega
  · have ha : a = 0 := by omega
    have hb : b = 0 := by omega
    rw [ha, hb, h0]; omega
  · omega
  · have := hg (show b ≤ a by omega); omega

/-- the difference of two halves -/
theorem halves {x y : Nat} (hx : finW D x = true) (hy : finW D y = true) :
    D.sub (fdiv x TWO) (fdiv y TWO) = some (fsub (fdiv x TWO) (fdiv y TWO)) ∧ fsub (fdiv x TWO) (fdiv y TWO) = toW D (negW D x && !negW D y) (val D (fdiv x TWO) - val D (fdiv y TWO)) ∧ finW D (fsub (fdiv x TWO) (fdiv y TWO)) = true := by
  obtain ⟨a1, a2, a3⟩ := two_fin hx
  obtain ⟨b1, b2, b3⟩ := two_fin hy
  have h := sub_fin D a1 b1
  rw [a2, b2] at h
  have e : fsub (fdiv x TWO) (fdiv y TWO) = toW D (negW D x && !negW D y) (val D (fdiv x TWO) - val D (fdiv y TWO)) := by
    show (D.sub (fdiv x TWO) (fdiv y TWO)).getD 0 = _
    rw [h]; rfl
  refine ⟨by rw [e]; exact h, e, ?_⟩
  rw [e]
  unfold finW
  rw [toW_rung]
  have hx' : rungW D x < D.infRung := by simpa [finW] using hx
  have hy' : rungW D y < D.infRung := by simpa [finW] using hy
  have h1 := half_bound hx'
  have h2 := half_bound hy'
  have hb : (val D (fdiv x TWO) - val D (fdiv y TWO)).natAbs ≤ V D RM := by
    unfold val
    rw [a3, b3]
    unfold sg
    split <;> split <;> omega
  have h3 := nr_mono D D.leastPlace hb
  rw [nr_V D (by unfold RM; omega)] at h3
  have h4 : RM < D.infRung := by decide +kernel
  simp; omega
theorem val_half_mono {x y : Nat} (hx : finW D x = true) (hy : finW D y = true) (h : key D x ≤ key D y) : val D (fdiv x TWO) ≤ val D (fdiv y TWO) := by
  obtain ⟨a1, a2, a3⟩ := two_fin hx
  obtain ⟨b1, b2, b3⟩ := two_fin hy
  unfold val
  rw [a2, a3, b2, b3]
  exact sg_mono (g := fun r => V D (halfR D (V D r))) (fun h => V_le D (halfR_mono D (V_le D h))) (by show V D (halfR D (V D 0)) = 0; rw [V_zero, halfR_zero, V_zero]) h

def R1 : Nat := 1023 * D.binade
def R8 : Nat := 1026 * D.binade
theorem V_one : V D R1 = 2 ^ (-D.leastPlace).toNat := by decide +kernel
theorem V_eight : V D R8 = 8 * 2 ^ (-D.leastPlace).toNat := by decide +kernel

/-- what is known of a value between the least and the greatest -/
structure Between (v lo hi : Nat) : Prop where
  hv : finW D v = true
  hlo : finW D lo = true
  hhi : finW D hi = true
  h1 : key D lo ≤ key D v
  h2 : key D v ≤ key D hi

def below (lo hi : Nat) : Nat := fsub (fdiv hi TWO) (fdiv lo TWO)
def part (v lo hi : Nat) : Nat := fdiv (fsub (fdiv v TWO) (fdiv lo TWO)) (below lo hi)
def eighth (v lo hi : Nat) : Nat := fmul EIGHT (part v lo hi)

theorem zero_key {x : Nat} (hx : finW D x = true) : D.order x 0 = some (compare (key D x) 0) := by
  have h0 : numW D 0 = true := by decide +kernel
  have hx' : numW D x = true := by
    unfold finW at hx; unfold numW
    simp at hx ⊢; omega
  rw [order_key D hfD hx' h0]
  rfl

theorem parts {v lo hi : Nat} (h : Between v lo hi) (hne : D.order (below lo hi) 0 ≠ some .eq) :
    D.div (fsub (fdiv v TWO) (fdiv lo TWO)) (below lo hi) = some (part v lo hi) ∧ D.mul EIGHT (part v lo hi) = some (eighth v lo hi) ∧
    finW D (eighth v lo hi) = true ∧ rungW D (eighth v lo hi) ≤ R8 ∧ (negW D (eighth v lo hi) = false ∨ rungW D (eighth v lo hi) = 0) := by
  obtain ⟨-, ea, fa⟩ := halves h.hv h.hlo
  obtain ⟨-, ed, fd⟩ := halves h.hhi h.hlo
  have m1 := val_half_mono h.hlo h.hv h.h1
  have m2 := val_half_mono h.hv h.hhi h.h2
  have hT0 : 0 ≤ val D (fdiv v TWO) - val D (fdiv lo TWO) := by omega
  have hT1 : val D (fdiv v TWO) - val D (fdiv lo TWO) ≤ val D (fdiv hi TWO) - val D (fdiv lo TWO) := by omega
  have ra : rungW D (fsub (fdiv v TWO) (fdiv lo TWO)) = nr D (val D (fdiv v TWO) - val D (fdiv lo TWO)).natAbs D.leastPlace := by rw [ea, toW_rung]
  have na : negW D (fsub (fdiv v TWO) (fdiv lo TWO)) = false ∨ rungW D (fsub (fdiv v TWO) (fdiv lo TWO)) = 0 := by
    rw [ra]
    rw [ea, toW_neg]
    by_cases e0 : val D (fdiv v TWO) - val D (fdiv lo TWO) = 0
    · right; rw [e0]; exact nr_zero D _
    · left; rw [if_neg e0, decide_eq_false (by omega)]
  have rd : rungW D (below lo hi) = nr D (val D (fdiv hi TWO) - val D (fdiv lo TWO)).natAbs D.leastPlace := by show rungW D (fsub (fdiv hi TWO) (fdiv lo TWO)) = _; rw [ed, toW_rung]
  have fd' : finW D (below lo hi) = true := fd
  have hrd0 : rungW D (below lo hi) ≠ 0 := by
    intro e0
    apply hne
    rw [zero_key fd']
    have : key D (below lo hi) = 0 := by unfold key sg; rw [e0]; split <;> rfl
    rw [this]; rfl
  have nd : negW D (below lo hi) = false := by
    show negW D (fsub (fdiv hi TWO) (fdiv lo TWO)) = _
    rw [ed, toW_neg]
    by_cases e0 : val D (fdiv hi TWO) - val D (fdiv lo TWO) = 0
    · exfalso; apply hrd0; rw [rd, e0]; exact nr_zero D _
    · rw [if_neg e0, decide_eq_false (by omega)]
  have hle : rungW D (fsub (fdiv v TWO) (fdiv lo TWO)) ≤ rungW D (below lo hi) := by
    rw [ra, rd]; exact nr_mono D _ (by omega)
  obtain ⟨r, eq, hr⟩ := quot_le D fa fd' hrd0 hle (r1 := R1) (by decide +kernel) V_one hlD (fun m i e => read_mag D e)
  have ep : part v lo hi = D.word (negW D (fsub (fdiv v TWO) (fdiv lo TWO)) ^^ negW D (below lo hi)) r := by unfold part; show (D.div _ _).getD 0 = _; rw [eq]; rfl
  have hr8 : R1 < D.signWeight := by decide +kernel
  obtain ⟨w1, w2⟩ := word_read D (negW D (fsub (fdiv v TWO) (fdiv lo TWO)) ^^ negW D (below lo hi)) (r := r) (by omega)
  rw [← ep] at w1 w2
  have fp : finW D (part v lo hi) = true := by
    unfold finW; rw [w2]
    have : R1 < D.infRung := by decide +kernel
    simp; omega
  obtain ⟨m, i, n, j, eme, hpi, hvm, hpj, hvn⟩ := mul_fin D (x := EIGHT) (y := part v lo hi) (by decide +kernel) fp
  have ee : eighth v lo hi = D.word (negW D EIGHT ^^ negW D (part v lo hi)) (nr D (m * n) (i + j)) := by unfold eighth; show (D.mul _ _).getD 0 = _; rw [eme]; rfl
  have hr8' : nr D (m * n) (i + j) ≤ R8 := by
    have h9 : nr D (V D R8) D.leastPlace = R8 := nr_V D (by decide +kernel)
    rw [← h9]
    -- over the place 2 * leastPlace
    refine nr_le D (b := D.leastPlace + D.leastPlace) (by omega) (by have := hlD; omega) ?_
    have e1 : (i + j - (D.leastPlace + D.leastPlace)).toNat = (i - D.leastPlace).toNat + (j - D.leastPlace).toNat := by omega
    have e2 : (D.leastPlace - (D.leastPlace + D.leastPlace)).toNat = (-D.leastPlace).toNat := by omega
    have e3 : V D (rungW D EIGHT) = 8 * 2 ^ (-D.leastPlace).toNat := by decide +kernel
    rw [e1, e2, Nat.pow_add, show m * n * (2 ^ (i - D.leastPlace).toNat * 2 ^ (j - D.leastPlace).toNat) = (m * 2 ^ (i - D.leastPlace).toNat) * (n * 2 ^ (j - D.leastPlace).toNat) by
      rw [Nat.mul_assoc, Nat.mul_assoc, Nat.mul_left_comm n], hvm, hvn, e3, V_eight]
    refine Nat.mul_le_mul_left _ ?_
    rw [← V_one, w2]
    exact V_le D hr
  have h10 : R8 < D.signWeight := by decide +kernel
  obtain ⟨x1, x2⟩ := word_read D (negW D EIGHT ^^ negW D (part v lo hi)) (r := nr D (m * n) (i + j)) (by omega)
  rw [← ee] at x1 x2
  refine ⟨by rw [eq, ep], by rw [eme, ee], ?_, by rw [x2]; exact hr8', ?_⟩
  · unfold finW; rw [x2]
    have : R8 < D.infRung := by decide +kernel
    simp; omega
  · have e8 : negW D EIGHT = false := by decide +kernel
    rcases na with na | na
    · left; rw [x1, e8, w1, na, nd]; rfl
    · right
      rw [x2]
      -- a quotient of nothing
      have hr0 : r = 0 := by
        have hz : V D (rungW D (fsub (fdiv v TWO) (fdiv lo TWO))) = 0 := by rw [na, V_zero]
        obtain ⟨m', i', e', hi', hv'⟩ := read_fin D (x := fsub (fdiv v TWO) (fdiv lo TWO)) (by simpa [finW] using fa)
        have hm0 : m' = 0 := by
          rw [hz] at hv'
          rcases Nat.mul_eq_zero.1 hv' with h | h
          · exact h
          · have := Nat.two_pow_pos (i' - D.leastPlace).toNat; omega
        subst hm0
        obtain ⟨n', j', e'', hj', hv''⟩ := read_fin D (x := below lo hi) (by simpa [finW] using fd')
        have hn0 : n' ≠ 0 := by
          intro h; rw [h, Nat.zero_mul] at hv''
          exact hrd0 (V_inj D (hv''.symm.trans (V_zero D).symm))
        have := eq
        unfold Format.div at this
        rw [e', e''] at this
        change ((if n' = 0 then _ else some (Datum.number _ (2 * ((0 <<< (D.fractionBits + 2 + n'.log2 - (0 : Nat).log2)) / n') + ((0 <<< (D.fractionBits + 2 + n'.log2 - (0 : Nat).log2)) % n' != 0).toNat) _) : Option Datum)).map D.write = _ at this
        rw [if_neg hn0, Nat.zero_shiftLeft, Nat.zero_div, Nat.zero_mod] at this
        simp only [Option.map_some, Option.some.injEq] at this
        have e5 : D.write (Datum.number (negW D (fsub (fdiv v TWO) (fdiv lo TWO)) ^^ negW D (below lo hi)) (2 * 0 + ((0 : Nat) != 0).toNat) (i' - j' - ((D.fractionBits + 2 + n'.log2 - (0 : Nat).log2 : Nat) : Int) - 1)) = D.word (negW D (fsub (fdiv v TWO) (fdiv lo TWO)) ^^ negW D (below lo hi)) 0 := by
          show D.nearest _ 0 _ = _
          rw [nearest_eq, nr_zero]
        have e6 := this.symm.trans e5
        have e7 := (word_read D (negW D (fsub (fdiv v TWO) (fdiv lo TWO)) ^^ negW D (below lo hi)) (r := r) (by omega)).2
        rw [e6, (word_read D _ (by decide +kernel)).2] at e7
        exact e7.symm
      have hn : n = 0 := by
        rw [w2, hr0, V_zero] at hvn
        rcases Nat.mul_eq_zero.1 hvn with h | h
        · exact h
        · have := Nat.two_pow_pos (j - D.leastPlace).toNat; omega
      rw [hn, Nat.mul_zero]; exact nr_zero D _

/-- the whole part: from 0 to 8 -/
theorem eighth_int {v lo hi : Nat} (h : Between v lo hi) (hne : D.order (below lo hi) 0 ≠ some .eq) : (D.read (eighth v lo hi)).toInt .zero = some (toI (eighth v lo hi)) ∧ 0 ≤ toI (eighth v lo hi) ∧ toI (eighth v lo hi) ≤ 8 ∧ toI (eighth v lo hi) = ((V D (rungW D (eighth v lo hi)) / 2 ^ (-D.leastPlace).toNat : Nat) : Int) := by
  obtain ⟨-, -, hf, hr, hn⟩ := parts h hne
  have hti := toInt_fin D hf hlD
  have e1 : V D (rungW D (eighth v lo hi)) / 2 ^ (-D.leastPlace).toNat ≤ 8 := by
    have h2 := V_le D hr
    rw [V_eight] at h2
    have h3 := Nat.div_le_div_right (c := 2 ^ (-D.leastPlace).toNat) h2
    rwa [Nat.mul_div_cancel _ (Nat.two_pow_pos _)] at h3
  have e2 : sg (negW D (eighth v lo hi)) (V D (rungW D (eighth v lo hi)) / 2 ^ (-D.leastPlace).toNat) = ((V D (rungW D (eighth v lo hi)) / 2 ^ (-D.leastPlace).toNat : Nat) : Int) := by
    rcases hn with hn | hn
    · rw [hn]; rfl
    · rw [hn, V_zero, Nat.zero_div]; unfold sg; split <;> rfl
  rw [e2] at hti
  have e3 : toI (eighth v lo hi) = ((V D (rungW D (eighth v lo hi)) / 2 ^ (-D.leastPlace).toNat : Nat) : Int) := by unfold toI; rw [hti]; rfl
  rw [e3]
  generalize V D (rungW D (eighth v lo hi)) / 2 ^ (-D.leastPlace).toNat = k at *
  exact ⟨hti, by omega, by omega, rfl⟩

end Go.Proofs.YtbfheehaagcmeaaDoor.flo
namespace Go.Proofs.YtbfheehaagcmeaaDoor.can
open Go.RowKit Go.Proofs Go.Proofs.YtbfheehaagcmeaaDoor.flo
set_option linter.unusedVariables false

abbrev F (x : Nat) : Value := .float .f64 x
theorem bin_neq (t : TypeId) (x y : Nat) : binOp .neq t (F x) (F y) = pure (.bool (D.order x y != some .eq)) := rfl
theorem bin_eql (t : TypeId) (x y : Nat) : binOp .eql t (F x) (F y) = pure (.bool (D.order x y == some .eq)) := rfl
theorem bin_gtr (t : TypeId) (x y : Nat) : binOp .gtr t (F x) (F y) = pure (.bool (D.order x y == some .gt)) := rfl
theorem bin_lss (t : TypeId) (x y : Nat) : binOp .lss t (F x) (F y) = pure (.bool (D.order x y == some .lt)) := rfl
theorem bin_geq (t : TypeId) (x y : Nat) : binOp .geq t (F x) (F y) = pure (.bool (D.order x y == some .gt || D.order x y == some .eq)) := rfl
theorem bin_quo (t : TypeId) {x y r : Nat} (h : D.div x y = some r) : binOp .quo t (F x) (F y) = pure (F r) := by
  have h' : FloatKind.f64.format.div x y = some r := h
  show Op.floatArith .quo .f64 x y = _
  unfold Op.floatArith
  simp only [h']
  rfl
theorem bin_sub (t : TypeId) {x y r : Nat} (h : D.sub x y = some r) : binOp .sub t (F x) (F y) = pure (F r) := by
  have h' : FloatKind.f64.format.sub x y = some r := h
  show Op.floatArith .sub .f64 x y = _
  unfold Op.floatArith
  simp only [h']
  rfl
theorem bin_mul (t : TypeId) {x y r : Nat} (h : D.mul x y = some r) : binOp .mul t (F x) (F y) = pure (F r) := by
  have h' : FloatKind.f64.format.mul x y = some r := h
  show Op.floatArith .mul .f64 x y = _
  unfold Op.floatArith
  simp only [h']
  rfl
theorem bin_add (t : TypeId) {x y r : Nat} (h : D.add x y = some r) : binOp .add t (F x) (F y) = pure (F r) := by
  have h' : FloatKind.f64.format.add x y = some r := h
  show Op.floatArith .add .f64 x y = _
  unfold Op.floatArith
  simp only [h']
  rfl

def MAXF : Nat := 9218868437227405311
def PINF : Nat := 9218868437227405312
def NINF : Nat := 18442240474082181120

theorem order_self (x : Nat) : (D.order x x != some .eq) = !numW D x := by
  cases h : numW D x with
  | false => rw [order_nan D hfD (.inl h)]; rfl
  | true =>
    rw [order_key D hfD h h, cmp_def, if_neg (by omega), if_pos rfl]; rfl
theorem num_max : numW D MAXF = true := by decide +kernel
theorem key_max : key D MAXF = (D.infRung : Int) - 1 := by decide +kernel
/-- no infinity above -/
def pinfW (x : Nat) : Bool := rungW D x == D.infRung && !negW D x
def ninfW (x : Nat) : Bool := rungW D x == D.infRung && negW D x
theorem order_max (x : Nat) : (D.order x MAXF == some .gt) = pinfW x := by
  cases h : numW D x with
  | false =>
    rw [order_nan D hfD (.inl h)]
    unfold numW at h
    have h1 : rungW D x ≠ D.infRung := by simp at h; omega
    have h2 : (rungW D x == D.infRung) = false := by simpa using h1
    unfold pinfW; rw [h2]; rfl
  | true =>
    rw [order_key D hfD h num_max, key_max, cmp_def]
    have h0 : rungW D x ≤ D.infRung := by simpa [numW] using h
    unfold pinfW key sg
    have h3 : 0 < D.infRung := by decide +kernel
    cases negW D x
    · simp only [Bool.false_eq_true, if_false, Bool.not_false, Bool.and_true]
      by_cases e : rungW D x = D.infRung
      · rw [if_neg (by omega), if_neg (by omega)]; simp [e]
      · have e2 : (rungW D x == D.infRung) = false := by simpa using e
        rw [e2]
        by_cases e3 : (rungW D x : Int) < (D.infRung : Int) - 1
        · rw [if_pos e3]; rfl
        · rw [if_neg e3, if_pos (by omega)]; rfl
    · simp only [if_true, Bool.not_true, Bool.and_false]
      by_cases e3 : -(rungW D x : Int) < (D.infRung : Int) - 1
      · rw [if_pos e3]; rfl
      · have h4 : 1 < D.infRung := by decide +kernel
        omega

theorem neg_word {x : Nat} (hx : x < 18446744073709551616) : negW D (x ^^^ 2 ^ 63) = !negW D x ∧ rungW D (x ^^^ 2 ^ 63) = rungW D x := by
  have e : D.signWeight = 2 ^ 63 := by decide +kernel
  unfold negW rungW
  rw [e]
  have h1 : (x ^^^ 2 ^ 63) % 2 ^ 63 = x % 2 ^ 63 := by
    rw [Nat.xor_mod_two_pow, Nat.mod_self, Nat.xor_zero]
  have h2 : (x ^^^ 2 ^ 63) / 2 ^ 63 = (x / 2 ^ 63) ^^^ 1 := by
    rw [Nat.xor_div_two_pow, Nat.div_self (Nat.two_pow_pos 63)]
  refine ⟨?_, h1⟩
  rw [h2]
  have h3 : x / 2 ^ 63 = 0 ∨ x / 2 ^ 63 = 1 := by omega
  rcases h3 with h3 | h3 <;> rw [h3] <;> rfl
theorem abs_word {x : Nat} (hx : x < 18446744073709551616) : bits .andNot .u64 (x : Int) 9223372036854775808 = ((x % 2 ^ 63 : Nat) : Int) := by
  have h := u64_andNot_nat x 9223372036854775808 hx (by decide)
  have e : x &&& (18446744073709551615 - 9223372036854775808) = x % 2 ^ 63 := Nat.and_two_pow_sub_one_eq_mod x 63
  rw [e] at h
  exact h
theorem abs_pinf (x : Nat) : pinfW (x % 2 ^ 63) = (rungW D x == D.infRung) := by
  have e : D.signWeight = 2 ^ 63 := by decide +kernel
  unfold pinfW negW rungW
  rw [e, Nat.mod_mod, Nat.div_eq_of_lt (Nat.mod_lt _ (Nat.two_pow_pos 63))]
  simp

theorem call_bits (x : Nat) (w : World) : (callFunc 70 #[F x]).run Tryd.prog w = .ok (.value (.int .u64 x)) w := by
  rw [run_callFunc_extern Tryd.func70 (by kernel_rfl) (by kernel_rfl) (by kernel_rfl) (e := Extern.MathFloatBits.float64bits) (by kernel_rfl)]; rfl
theorem call_frombits (n : Int) (w : World) : (callFunc 61 #[.int .u64 n]).run Tryd.prog w = .ok (.value (F n.toNat)) w := by
  rw [run_callFunc_extern Tryd.func61 (by kernel_rfl) (by kernel_rfl) (by kernel_rfl) (e := Extern.MathFloatBits.float64frombits) (by kernel_rfl)]; rfl

set_option maxRecDepth 100000 in
set_option maxHeartbeats 400000 in
theorem isnan_any (x : Nat) (w : World) : Calls Tryd.prog 47 #[F x] w fun e w' => e = .returned (.bool (!numW D x)) ∧ w = w' := by
  have E := bin_neq 45 x x
  rw [order_self] at E
  go_enter Tryd.func47, Tryd.ntmps47
  go_wp2
  go_ret
  exact ⟨rfl, rfl⟩

set_option maxRecDepth 100000 in
set_option maxHeartbeats 400000 in
theorem abs_any (x : Nat) (w : World) (hx : x < 18446744073709551616) : Calls Tryd.prog 62 #[F x] w fun e w' => e = .returned (F (x % 2 ^ 63)) ∧ w = w' := by
  have E := abs_word hx
  obtain ⟨y, hy⟩ : ∃ y, y = x % 2 ^ 63 := ⟨_, rfl⟩
  rw [← hy] at E ⊢
  clear hy
  have K1 := call_bits x
  have K2 := call_frombits (y : Int)
  rw [Int.toNat_natCast] at K2
  go_enter Tryd.func62, Tryd.ntmps62
  go_wp2
  go_ret
  exact ⟨rfl, rfl⟩

set_option maxRecDepth 100000 in
set_option maxHeartbeats 400000 in
theorem isinf_any (x : Nat) (w : World) (hx : x < 18446744073709551616) : Calls Tryd.prog 48 #[F x, .int .i64 0] w fun e w' => e = .returned (.bool (rungW D x == D.infRung)) ∧ w = w' := by
  have E := bin_gtr 45 (x % 2 ^ 63) MAXF
  rw [order_max, abs_pinf] at E
  have HA := run.hid (abs_any x w hx)
  obtain ⟨y, hy⟩ : ∃ y, y = x % 2 ^ 63 := ⟨_, rfl⟩
  rw [← hy] at E HA
  clear hy
  unfold MAXF at E
  generalize (rungW D x == D.infRung) = b at *
  go_enter Tryd.func48, Tryd.ntmps48
  go_wp2_with fail
  refine HA.out.mono ?_
  rintro e w' ⟨rfl, rfl⟩
  go_wp2
  go_ret
  exact ⟨rfl, rfl⟩
set_option maxRecDepth 100000 in
set_option maxHeartbeats 400000 in
theorem isinf_up (x : Nat) (w : World) : Calls Tryd.prog 48 #[F x, .int .i64 1] w fun e w' => e = .returned (.bool (pinfW x)) ∧ w = w' := by
  have E := bin_gtr 45 x MAXF
  rw [order_max] at E
  unfold MAXF at E
  generalize pinfW x = b at *
  go_enter Tryd.func48, Tryd.ntmps48
  go_wp2
  go_ret
  exact ⟨rfl, rfl⟩
set_option maxRecDepth 100000 in
set_option maxHeartbeats 400000 in
theorem isinf_down (x : Nat) (w : World) (hx : x < 18446744073709551616) : Calls Tryd.prog 48 #[F x, .int .i64 (-1)] w fun e w' => e = .returned (.bool (ninfW x)) ∧ w = w' := by
  have E := bin_gtr 45 (x ^^^ 2 ^ 63) MAXF
  have e1 : pinfW (x ^^^ 2 ^ 63) = ninfW x := by
    unfold pinfW ninfW
    rw [(neg_word hx).1, (neg_word hx).2, Bool.not_not]
  rw [order_max, e1] at E
  have E2 : Op.unary .neg (F x) = pure (F (x ^^^ 2 ^ 63)) := rfl
  unfold MAXF at E
  obtain ⟨y, hy⟩ : ∃ y, y = x ^^^ 2 ^ 63 := ⟨_, rfl⟩
  rw [← hy] at E E2
  clear hy e1
  generalize ninfW x = b at *
  go_enter Tryd.func48, Tryd.ntmps48
  go_wp2
  go_ret
  exact ⟨rfl, rfl⟩
set_option maxRecDepth 100000 in
set_option maxHeartbeats 400000 in
theorem inf_up (w : World) : Calls Tryd.prog 46 #[.int .i64 1] w fun e w' => e = .returned (F PINF) ∧ w = w' := by
  have K := call_frombits 9218868437227405312
  go_enter Tryd.func46, Tryd.ntmps46
  go_wp2
  go_ret
  exact ⟨rfl, rfl⟩
set_option maxRecDepth 100000 in
set_option maxHeartbeats 400000 in
theorem inf_down (w : World) : Calls Tryd.prog 46 #[.int .i64 (-1)] w fun e w' => e = .returned (F NINF) ∧ w = w' := by
  have K := call_frombits 18442240474082181120
  go_enter Tryd.func46, Tryd.ntmps46
  go_wp2
  go_ret
  exact ⟨rfl, rfl⟩

end Go.Proofs.YtbfheehaagcmeaaDoor.can
