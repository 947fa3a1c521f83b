/-
  The walks of the layer canvas: values as blocks.
-/
import Derived.Test.YtbfheehaagcmeaaDoorCanFlo
import Derived.Test.YtbfheehaagcmeaaDoorCanBar
namespace Go.Proofs.YtbfheehaagcmeaaDoor.can
open Go.RowKit Go.Proofs Go.Proofs.YtbfheehaagcmeaaDoor.flo
set_option linter.unusedVariables false

def minB (x y : Nat) : Nat := match D.order x y with | some .lt => x | some .gt => y | some .eq => if (FloatKind.f64.decode x).neg then x else y | none => x
def maxB (x y : Nat) : Nat := match D.order x y with | some .lt => y | some .gt => x | some .eq => if (FloatKind.f64.decode x).neg then y else x | none => x
def loT (l : List Nat) : Nat := l.foldl (fun a v => if finW D v then minB a v else a) PINF
def hiT (l : List Nat) : Nat := l.foldl (fun a v => if finW D v then maxB a v else a) NINF
/-- which of the eight blocks -/
def blockT (v lo hi : Nat) : Int := if D.order (below lo hi) 0 = some .eq then 3 else min (toI (eighth v lo hi)) 7
def sparkC (v lo hi : Nat) : Int := if numW D v = false then 32 else if pinfW v then 0x2588 else if ninfW v then 0x2581 else 0x2581 + blockT v lo hi
def lastT (l : List Nat) (W : Nat) : List Nat := l.drop (l.length - W)
def sparkRow (l : List Nat) (W : Nat) (j : Nat) : Int := if j < W - l.length then 32 else sparkC (l.getD (j - (W - l.length)) 0) (loT l) (hiT l)
def sparkT (l : List Nat) (w : Int) : ByteArray := strOf ((List.range (wideT w).toNat).map (sparkRow (lastT l (wideT w).toNat) (wideT w).toNat))

theorem fin_cases (v : Nat) : (numW D v = false ∧ finW D v = false) ∨ (numW D v = true ∧ rungW D v = D.infRung ∧ finW D v = false) ∨ (numW D v = true ∧ rungW D v ≠ D.infRung ∧ finW D v = true) := by
  unfold numW finW
  by_cases h1 : rungW D v < D.infRung
  · right; right
    exact ⟨by simp; omega, by omega, by simp; omega⟩
  · by_cases h2 : rungW D v = D.infRung
    · right; left; exact ⟨by simp; omega, h2, by simp; omega⟩
    · left; exact ⟨by simp; omega, by simp; omega⟩

/-- no NaN is lower, or higher, than all -/
theorem num_fin {v : Nat} (h : finW D v = true) : numW D v = true := by unfold finW at h; unfold numW; simp at h ⊢; omega
theorem min_num {x y : Nat} (hx : numW D x = true) (hy : numW D y = true) : numW D (minB x y) = true ∧ key D (minB x y) = min (key D x) (key D y) ∧ (minB x y = x ∨ minB x y = y) := by
  unfold minB
  rw [order_key D hfD hx hy, cmp_def]
  by_cases h1 : key D x < key D y
  · rw [if_pos h1]; exact ⟨hx, by simp only []; omega, .inl rfl⟩
  · rw [if_neg h1]
    by_cases h2 : key D x = key D y
    · rw [if_pos h2]
      simp only
      split
      · exact ⟨hx, by omega, .inl rfl⟩
      · exact ⟨hy, by omega, .inr rfl⟩
    · rw [if_neg h2]; exact ⟨hy, by simp only []; omega, .inr rfl⟩
theorem max_num {x y : Nat} (hx : numW D x = true) (hy : numW D y = true) : numW D (maxB x y) = true ∧ key D (maxB x y) = max (key D x) (key D y) ∧ (maxB x y = x ∨ maxB x y = y) := by
  unfold maxB
  rw [order_key D hfD hx hy, cmp_def]
  by_cases h1 : key D x < key D y
  · rw [if_pos h1]; exact ⟨hy, by simp only []; omega, .inr rfl⟩
  · rw [if_neg h1]
    by_cases h2 : key D x = key D y
    · rw [if_pos h2]
      simp only
      split
      · exact ⟨hy, by omega, .inr rfl⟩
      · exact ⟨hx, by omega, .inl rfl⟩
    · rw [if_neg h2]; exact ⟨hx, by simp only []; omega, .inl rfl⟩
theorem run_minB {x y : Nat} (hx : numW D x = true) (hy : numW D y = true) (ts : Array TypeId) (t : TypeId) : Builtin.min_ ts t #[F x, F y] = pure (F (minB x y)) := by
  show Builtin.min2 (F x) (F y) >>= pure = _
  unfold Builtin.min2 minB
  have h := order_key D hfD hx hy
  have h' : FloatKind.f64.format.order x y = some (compare (key D x) (key D y)) := h
  simp only [h, h']
  cases compare (key D x) (key D y) <;> rfl
theorem run_maxB {x y : Nat} (hx : numW D x = true) (hy : numW D y = true) (ts : Array TypeId) (t : TypeId) : Builtin.max_ ts t #[F x, F y] = pure (F (maxB x y)) := by
  show Builtin.max2 (F x) (F y) >>= pure = _
  unfold Builtin.max2 maxB
  have h := order_key D hfD hx hy
  have h' : FloatKind.f64.format.order x y = some (compare (key D x) (key D y)) := h
  simp only [h, h']
  cases compare (key D x) (key D y) <;> rfl

theorem num_pinf : numW D PINF = true := by decide +kernel
theorem num_ninf : numW D NINF = true := by decide +kernel
theorem key_pinf : key D PINF = D.infRung := by decide +kernel
theorem key_ninf : key D NINF = -(D.infRung : Int) := by decide +kernel
/-- what the least and the greatest of the first ones are -/
structure LoHi (l : List Nat) (lo hi : Nat) : Prop where
  nlo : numW D lo = true
  nhi : numW D hi = true
  elo : lo = PINF ∨ (finW D lo = true)
  ehi : hi = NINF ∨ (finW D hi = true)
  all : ∀ v ∈ l, finW D v = true → key D lo ≤ key D v ∧ key D v ≤ key D hi
theorem loHi_of : ∀ (l m : List Nat) (lo hi : Nat), LoHi m lo hi → LoHi (m ++ l) (l.foldl (fun a v => if finW D v then minB a v else a) lo) (l.foldl (fun a v => if finW D v then maxB a v else a) hi)
  | [], m, lo, hi, h => by simpa using h
  | v :: l, m, lo, hi, h => by
    simp only [List.foldl_cons]
    rw [show m ++ v :: l = (m ++ [v]) ++ l by simp]
    apply loHi_of l
    by_cases hv : finW D v = true
    · rw [if_pos hv, if_pos hv]
      have nv := num_fin hv
      obtain ⟨a1, a2, a3⟩ := min_num h.nlo nv
      obtain ⟨b1, b2, b3⟩ := max_num h.nhi nv
      refine ⟨a1, b1, ?_, ?_, ?_⟩
      · rcases a3 with a3 | a3 <;> rw [a3]
        · exact h.elo
        · exact .inr hv
      · rcases b3 with b3 | b3 <;> rw [b3]
        · exact h.ehi
        · exact .inr hv
      · intro u hu hfu
        rw [a2, b2]
        rcases List.mem_append.1 hu with hu | hu
        · have := h.all u hu hfu; omega
        · simp at hu; subst hu; omega
    · have hv' : finW D v = false := by simpa using hv
      rw [if_neg (by simp [hv']), if_neg (by simp [hv'])]
      refine ⟨h.nlo, h.nhi, h.elo, h.ehi, ?_⟩
      intro u hu hfu
      rcases List.mem_append.1 hu with hu | hu
      · exact h.all u hu hfu
      · simp at hu; subst hu; rw [hv'] at hfu; cases hfu
theorem loHi (l : List Nat) : LoHi l (loT l) (hiT l) := by
  have := loHi_of l [] PINF NINF ⟨num_pinf, num_ninf, .inl rfl, .inl rfl, fun v hv => by simp at hv⟩
  rw [List.nil_append] at this
  exact this
theorem between {l : List Nat} {v : Nat} (hm : v ∈ l) (hv : finW D v = true) : Between v (loT l) (hiT l) := by
  have h := loHi l
  obtain ⟨h1, h2⟩ := h.all v hm hv
  have hk : rungW D v < D.infRung := by simpa [finW] using hv
  have hkv : -(D.infRung : Int) < key D v ∧ key D v < D.infRung := by unfold key sg; split <;> omega
  refine ⟨hv, ?_, ?_, h1, h2⟩
  · rcases h.elo with e | e
    · rw [e, key_pinf] at h1; omega
    · exact e
  · rcases h.ehi with e | e
    · rw [e, key_ninf] at h2; omega
    · exact e

theorem foldl_take_succ {α : Type} (g : α → Nat → α) (a : α) (l : List Nat) {k : Nat} (h : k < l.length) : (l.take (k + 1)).foldl g a = g ((l.take k).foldl g a) (l.getD k 0) := by
  rw [List.take_succ_eq_append_getElem h, List.foldl_append]
  simp [List.getD_eq_getElem?_getD, h]

def partS (l : List Nat) (W i : Nat) : Nat → Value := fun j => .int .i32 (if j < W - l.length + i then sparkRow l W j else 32)
theorem spark_next {w : World} {r W i : Nat} {l : List Nat} (hl : l.length ≤ W) (hi : i < l.length) (h : w.rowIs r 21 W (partS l W i)) {v : Int} (hv : v = sparkC (l.getD i 0) (loT l) (hiT l)) : (w.setCell ⟨r, W - l.length + i, none⟩ (.int .i32 v)).rowIs r 21 W (partS l W (i + 1)) := by
  subst hv
  exact (h.set _ _).congr fun j _ => by
    by_cases e : j = W - l.length + i
    · subst e; rw [if_pos rfl]; unfold partS sparkRow; rw [if_pos (by omega), if_neg (by omega), show W - l.length + i - (W - l.length) = i by omega]
    · rw [if_neg e]; unfold partS
      by_cases h1 : j < W - l.length + i
      · rw [if_pos h1, if_pos (by omega)]
      · rw [if_neg h1, if_neg (by omega)]
theorem spark_skip {w : World} {r W i : Nat} {l : List Nat} (hl : l.length ≤ W) (hi : i < l.length) (h : w.rowIs r 21 W (partS l W i)) (hv : 32 = sparkC (l.getD i 0) (loT l) (hiT l)) : w.rowIs r 21 W (partS l W (i + 1)) :=
  h.congr fun j _ => by
    unfold partS
    by_cases e : j = W - l.length + i
    · subst e; rw [if_neg (by omega), if_pos (by omega)]; unfold sparkRow; rw [if_neg (by omega), show W - l.length + i - (W - l.length) = i by omega, ← hv]
    · by_cases h1 : j < W - l.length + i
      · rw [if_pos h1, if_pos (by omega)]
      · rw [if_neg h1, if_neg (by omega)]

/-- a slice's last elements -/
theorem run_tail {P : Program} (w : World) (t e : TypeId) (ht : P.underlying t = some (.slice e)) (hs : (P.info? e).map (·.size) = some 1) (a : Option Addr) (cap : Nat) (xs : List Value) (k : Nat) (hk : k ≤ xs.length) (hcap : xs.length ≤ cap) (hR : run.Reads w (.slice a xs.length cap) xs) :
    ∃ a' cap', (Instr.slice t (.slice a xs.length cap) (some (.int .i64 k)) none none).run P w = .ok (.slice a' (xs.length - k) cap') w ∧ run.Reads w (.slice a' (xs.length - k) cap') (xs.drop k) ∧ xs.length - k ≤ cap' ∧ (∀ ad', a' = some ad' → ∃ ad, a = some ad ∧ ad.block = ad'.block) := by
  obtain ⟨i, hi, hsz⟩ := Option.map_eq_some_iff.1 hs
  refine ⟨if cap = k then a else a.map (·.add k), cap - k, ?_, ?_, by omega, ?_⟩
  rotate_left 2
  · intro ad' h
    by_cases e : cap = k
    · rw [if_pos e] at h; exact ⟨ad', h, rfl⟩
    · rw [if_neg e] at h
      obtain ⟨ad, h1, h2⟩ := Option.map_eq_some_iff.1 h
      refine ⟨ad, h1, ?_⟩
      rw [← h2]
      unfold Addr.add
      split <;> rfl
  · have e1 : (0 : Int) ≤ (k : Int) ∧ (k : Int) ≤ (xs.length : Int) := by omega
    simp [Instr.slice, run_underlying ht, Instr.sliceBounds, Instr.sliceBound, asIntOf, sizeOf, typeInfo, hi, hsz, e1, Result.andThen]
    rw [if_pos (show k ≤ xs.length from hk)]
  · obtain ⟨a0, c0, he, hc, hn⟩ := hR
    simp only [Value.slice.injEq] at he
    obtain ⟨rfl, -, rfl⟩ := he
    refine ⟨if cap = k then a else a.map (·.add k), cap - k, by rw [List.length_drop], ?_, ?_⟩
    · intro hne
      have hlt : k < xs.length := by
        rcases Nat.lt_or_ge k xs.length with h | h
        · exact h
        · exact absurd (List.drop_eq_nil_of_le h) hne
      obtain ⟨b, off, rfl, hb, hcl⟩ := hc (by intro e; rw [e] at hlt; simp at hlt)
      rw [if_neg (by omega)]
      refine ⟨b, off + k, by simp only [Option.map_some, run.add_none], hb, ?_⟩
      intro i u hu
      rw [List.getElem?_drop] at hu
      rw [Nat.add_assoc]
      exact hcl _ _ hu
    · intro hh
      have ha : a = none := by
        by_cases e : cap = k
        · rw [if_pos e] at hh; exact hh
        · rw [if_neg e] at hh; simpa using hh
      have := hn ha
      omega

end Go.Proofs.YtbfheehaagcmeaaDoor.can
