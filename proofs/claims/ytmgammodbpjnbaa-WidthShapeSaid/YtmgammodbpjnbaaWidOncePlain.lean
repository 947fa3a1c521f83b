/-
  Plain facts: each number lies in just one stretch of just one class; what stands at the ends of the stretches. No program in sight.
-/
import Derived.Test.YtmgammodbpjnbaaWidNarPlain
namespace Go.Proofs.Ytmgammodbpjnbaa.wid

def inS (r : Int) (p : Int × Int) : Bool := decide (p.1 ≤ r) && decide (r ≤ p.2)
/-- all stretches of all classes -/
def every (c : Nat) : List (Int × Int) := (List.range c).flatMap fun (j : Nat) => rangesT j
theorem every_succ (c : Nat) : every (c + 1) = every c ++ rangesT c := by unfold every; rw [List.range_succ, List.flatMap_append]; simp

def ins (p : Int × Int) : List (Int × Int) → List (Int × Int)
  | [] => [p]
  | q :: l => if p.1 ≤ q.1 then p :: q :: l else q :: ins p l
def isort : List (Int × Int) → List (Int × Int)
  | [] => []
  | p :: l => ins p (isort l)
theorem ins_perm (p : Int × Int) : ∀ l, (ins p l).Perm (p :: l)
  | [] => List.Perm.refl _
  | q :: l => by
    unfold ins
    split
    · exact List.Perm.refl _
    · exact ((ins_perm p l).cons q).trans (List.Perm.swap p q l)
theorem isort_perm : ∀ l, (isort l).Perm l
  | [] => List.Perm.refl _
  | p :: l => (ins_perm p _).trans ((isort_perm l).cons p)
/-- one stretch begins where the one ahead of it has ended -/
def chain (a : Int) : List (Int × Int) → Bool
  | [] => a == 0x110000
  | p :: l => decide (p.1 = a) && (decide (p.1 ≤ p.2) && chain (p.2 + 1) l)
theorem every_chain : chain 0 (isort (every 10)) = true := by decide +kernel
theorem chain_count (r : Int) : ∀ (l : List (Int × Int)) (a : Int), chain a l = true → a ≤ 0x110000 ∧ l.countP (inS r) = if a ≤ r ∧ r < 0x110000 then 1 else 0
  | [], a, h => by
    simp only [chain, beq_iff_eq] at h
    subst h
    refine ⟨by omega, ?_⟩
    rw [if_neg (by omega)]
    rfl
  | p :: l, a, h => by
    simp only [chain, Bool.and_eq_true, decide_eq_true_eq] at h
    obtain ⟨rfl, h2, h3⟩ := h
    obtain ⟨i1, i2⟩ := chain_count r l (p.2 + 1) h3
    refine ⟨by omega, ?_⟩
    rw [List.countP_cons, i2]
    unfold inS
    by_cases h4 : p.1 ≤ r
    · by_cases h5 : r ≤ p.2
      · rw [if_neg (by omega), if_pos (by simp [h4, h5]), if_pos (by omega)]
      · by_cases h6 : r < 1114112
        · rw [if_pos (by omega), if_neg (by simp [h5]), if_pos (by omega)]
        · rw [if_neg (by omega), if_neg (by simp [h5]), if_neg (by omega)]
    · rw [if_neg (by omega), if_neg (by simp [h4]), if_neg (by omega)]
/-- EACH NUMBER LIES IN JUST ONE STRETCH. -/
theorem every_once (r : Int) : (every 10).countP (inS r) = if 0 ≤ r ∧ r ≤ 0x10ffff then 1 else 0 := by
  rw [← (isort_perm (every 10)).countP_eq, (chain_count r _ 0 every_chain).2]
  by_cases h : 0 ≤ r ∧ r ≤ 0x10ffff
  · rw [if_pos h, if_pos (by omega)]
  · rw [if_neg h, if_neg (by omega)]

theorem narrow_apart : ∀ p ∈ narrowT, ∀ q ∈ all, p.2 < q.1 ∨ q.2.1 < p.1 := by decide +kernel
theorem ranges_bnd : ∀ c ∈ List.range 10, ∀ p ∈ rangesT (c : Nat), 0 ≤ p.1 ∧ p.1 ≤ p.2 ∧ p.2 ≤ 0x10ffff := by decide +kernel
/-- A CLASS's STRETCHES HAVE ITS OWN NUMBERS. -/
theorem in_kind {c : Nat} (hc : c < 10) {p : Int × Int} (hp : p ∈ rangesT c) {r : Int} (h1 : p.1 ≤ r) (h2 : r ≤ p.2) : kind r = c := by
  obtain ⟨b1, b2, b3⟩ := ranges_bnd c (by simpa using hc) p hp
  rw [kind_scan (by omega) (by omega)]
  by_cases h9 : c = 9
  · subst h9
    have hp' : p ∈ narrowT := hp
    apply scan_miss
    intro q hq hx
    have := narrow_apart p hp' q hq
    omega
  · have e : rangesT (c : Nat) = tab c := by unfold rangesT; rw [if_neg (by omega), if_pos (by omega)]; rfl
    rw [e, tab_all c (by omega)] at hp
    simp only [stretches, List.mem_map, List.mem_filter, beq_iff_eq] at hp
    obtain ⟨q, ⟨hq, hqc⟩, rfl⟩ := hp
    rw [scan_hit all_sorted q hq h1 h2, hqc]

/-- what the ends of a stretch are, and what stands beside them -/
def endsOk (c : Nat) (l : List (Int × Int)) (i : Nat) : Bool :=
  (decide (kind (l.getD i (0, 0)).1 = c) && decide (kind (l.getD i (0, 0)).2 = c)) &&
  ((decide ((l.getD i (0, 0)).1 ≤ 0) || !decide (kind ((l.getD i (0, 0)).1 - 1) = c)) && (decide (1114111 ≤ (l.getD i (0, 0)).2) || !decide (kind ((l.getD i (0, 0)).2 + 1) = c)) &&
  (i == 0 || decide ((l.getD (i - 1) (0, 0)).2 + 2 ≤ (l.getD i (0, 0)).1)))
theorem ends_all : ∀ c ∈ List.range 10, ∀ i ∈ List.range (rangesT (c : Nat)).length, endsOk c (rangesT (c : Nat)) i = true := by decide +kernel
theorem ranges_some : ∀ c ∈ List.range 10, 1 ≤ (rangesT (c : Nat)).length := by decide +kernel
end Go.Proofs.Ytmgammodbpjnbaa.wid
