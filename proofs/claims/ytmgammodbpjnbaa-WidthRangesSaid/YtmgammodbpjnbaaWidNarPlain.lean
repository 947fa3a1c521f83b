/-
  Plain facts on the stretches of all classes: sorted, and what lies between them. No program in sight.
-/
import Derived.Test.YtmgammodbpjnbaaWidPlain
import Derived.Sort.Statements
namespace Go.Proofs.Ytmgammodbpjnbaa.wid

def cat (k : Nat) : List (Int × Int) := (List.range k).flatMap tab
theorem cat_succ (k : Nat) : cat (k + 1) = cat k ++ tab k := by
  unfold cat
  rw [List.range_succ, List.flatMap_append]
  simp
def allS : List (Int × Int) := all.map fun p => (p.1, p.2.1)
theorem cat_len : (cat 9).length = 84 := by decide +kernel
theorem allS_len : allS.length = 84 := by decide +kernel
theorem cat_perm : (cat 9).Perm allS := by decide +kernel
theorem cat_firsts : ∀ a ∈ cat 9, ∀ b ∈ cat 9, a.1 = b.1 → a = b := by decide +kernel
theorem allS_rises : allS.Pairwise (fun a b => a.1 ≤ b.1) := by decide +kernel
theorem allS_bounds : ∀ a ∈ allS, 0 ≤ a.1 ∧ a.1 ≤ a.2 ∧ a.2 ≤ 0x10ffff := by decide +kernel
theorem cat_le (k : Nat) (h : k ≤ 9) : (cat k).length ≤ 84 := by
  have : k = 0 ∨ k = 1 ∨ k = 2 ∨ k = 3 ∨ k = 4 ∨ k = 5 ∨ k = 6 ∨ k = 7 ∨ k = 8 ∨ k = 9 := by omega
  rcases this with rfl | rfl | rfl | rfl | rfl | rfl | rfl | rfl | rfl | rfl <;> decide +kernel
theorem tab_le (k : Nat) (h : k ≤ 8) : 1 ≤ (tab k).length ∧ (tab k).length ≤ 84 := by
  have : k = 0 ∨ k = 1 ∨ k = 2 ∨ k = 3 ∨ k = 4 ∨ k = 5 ∨ k = 6 ∨ k = 7 ∨ k = 8 := by omega
  rcases this with rfl | rfl | rfl | rfl | rfl | rfl | rfl | rfl | rfl <;> decide +kernel

def ltP (a b : Int × Int) : Bool := decide (a.1 < b.1)
theorem swo_ltP : Sort.SWO ltP where
  irrefl := fun x => by simp [ltP]
  trans := fun x y z h1 h2 => by simp [ltP] at *; omega
  ntrans := fun x y z h1 h2 => by simp [ltP] at *; omega

/-- WHAT THE SORT LEAVES: there is one rising order. -/
theorem sorted_is (d' : Array (Int × Int)) (hp : Sort.PermIn 0 84 (cat 9).toArray d') (hs : Sort.SortedIn ltP 0 84 d') : d'.toList = allS := by
  obtain ⟨h1, -, h3⟩ := hp
  have hsz : d'.size = 84 := by rw [h1]; simp [cat_len]
  have e1 : (d'.extract 0 84) = d' := by rw [← hsz]; simp
  have e2 : ((cat 9).toArray.extract 0 84) = (cat 9).toArray := by rw [show 84 = (cat 9).toArray.size by simp [cat_len]]; simp
  rw [e1, e2] at h3
  have hP : d'.toList.Perm (cat 9) := by simpa using h3
  refine List.Perm.eq_of_pairwise (le := fun a b => a.1 ≤ b.1) ?_ ?_ allS_rises (hP.trans cat_perm)
  · intro a b ha hb h4 h5
    exact cat_firsts a (hP.mem_iff.1 ha) b (cat_perm.mem_iff.2 hb) (by omega)
  · rw [List.pairwise_iff_getElem]
    intro i j hi hj hij
    have h6 := hs i j (Nat.zero_le _) hij (by rw [← hsz]; simpa using hj)
    have hi' : i < d'.size := by simpa using hi
    have hj' : j < d'.size := by simpa using hj
    rw [getElem!_pos d' i hi', getElem!_pos d' j hj'] at h6
    simp only [ltP, decide_eq_false_iff_not] at h6
    simp only [Array.getElem_toList]
    omega

/-- between the stretches -/
def gapStep (s : List (Int × Int) × Int) (p : Int × Int) : List (Int × Int) × Int := ((if s.2 < p.1 then s.1 ++ [(s.2, p.1 - 1)] else s.1), p.2 + 1)
def gapsAt (k : Nat) : List (Int × Int) × Int := (allS.take k).foldl gapStep ([], 0)
theorem gaps_zero : gapsAt 0 = ([], 0) := rfl
theorem gaps_succ {k : Nat} (h : k < allS.length) : gapsAt (k + 1) = gapStep (gapsAt k) (allS.getD k (0, 0)) := by
  unfold gapsAt
  rw [List.take_succ_eq_append_getElem h, List.foldl_append]
  simp [List.getD_eq_getElem?_getD, h]
theorem gaps_bounds {k : Nat} (h : k ≤ 84) : (gapsAt k).1.length ≤ k ∧ 0 ≤ (gapsAt k).2 ∧ (gapsAt k).2 ≤ 0x110000 := by
  induction k with
  | zero => rw [gaps_zero]; simp
  | succ k ih =>
    obtain ⟨i1, i2, i3⟩ := ih (by omega)
    have hk : k < allS.length := by rw [allS_len]; omega
    rw [gaps_succ hk]
    have hm : allS.getD k (0, 0) ∈ allS := by simp [List.getD_eq_getElem?_getD, hk]
    obtain ⟨b1, b2, b3⟩ := allS_bounds _ hm
    unfold gapStep
    refine ⟨?_, by simp only []; omega, by simp only []; omega⟩
    simp only []
    split
    · simp; omega
    · omega
theorem gaps_end : (gapsAt 84).2 = 917999 + 1 := by decide +kernel
def narrowT : List (Int × Int) := (gapsAt 84).1 ++ [((gapsAt 84).2, 0x10ffff)]
theorem narrow_len : narrowT.length ≤ 85 := by unfold narrowT; have := (gaps_bounds (Nat.le_refl 84)).1; simp; omega
/-- the stretches of a class -/
def rangesT (c : Int) : List (Int × Int) := if c = 9 then narrowT else if 0 ≤ c ∧ c ≤ 8 then tab c.toNat else []
theorem ranges_len (c : Int) : (rangesT c).length ≤ 85 := by
  unfold rangesT
  split
  · exact narrow_len
  · split
    · have := (tab_le c.toNat (by omega)).2; omega
    · simp
end Go.Proofs.Ytmgammodbpjnbaa.wid
