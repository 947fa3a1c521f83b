/-
  Arguments of the layer canvas, opened: lists of arrays of numbers.
-/
import Derived.Test.YtbfheehaagcmeaaDoorProg
import Derived.ProofKit
import Derived.OpenShut
import Derived.SizedLaws
import Derived.Deep.Slices
import Derived.ChangeSame
import Derived.WideKeyArr2
import Derived.WalkKit
import Derived.Test.YtbfheehaagcmeaaDoorCanNew
namespace Go.Proofs.YtbfheehaagcmeaaDoor.can
open Go.ChangeShapes Go.WideShapes Go.ChangeAt Go.RowKit Go.Proofs
set_option linter.unusedVariables false
section
variable {H : Type} {enc : TypeId × Value → H} {P : Program} {w : World} {base : Nat} {spare : Nat → Bool} {held : Bool}

theorem mapM_each {α β : Type} {f : α → Option β} : ∀ {L : List α} {xs : List β}, L.mapM f = some xs → ∀ i ∈ L, ∃ y, f i = some y
  | [], _, _, i, hi => by cases hi
  | a :: L, xs, h, i, hi => by
    rw [List.mapM_cons] at h
    simp only [bind, Option.bind_eq_some_iff, pure, Option.some.injEq] at h
    obtain ⟨y, hy, ys, hys, rfl⟩ := h
    rcases List.mem_cons.1 hi with rfl | hi
    · exact ⟨y, hy⟩
    · exact mapM_each hys i hi
theorem trod_ints {k e : TypeId} {n fuel : Nat} {q : IntKind} {cs : List Value} {x : DataW H × List MemPlace} (hk : P.underlying k = some (.array n e)) (he : P.underlying e = some (.int q)) (ce : P.cellsOf e = 1)
    (h : DataW.trod enc P w base spare held fuel k cs = some x) : ∀ j, j < n → ∃ a, (cs.drop j).take 1 = [.int q a] ∧ (Lit.int q a).wf = true := by
  cases fuel with
  | zero => simp [DataW.trod] at h
  | succ m =>
    rw [DataW.trod_step] at h
    unfold DataW.trodStep at h
    simp only [hk] at h
    split at h
    · rw [Option.map_eq_some_iff] at h
      obtain ⟨ys, hy, -⟩ := h
      intro j hj
      obtain ⟨y, hy⟩ := mapM_each hy j (by simpa using hj)
      rw [ce, Nat.mul_one] at hy
      obtain ⟨a, ea, -, wa⟩ := DataW.trod_int he hy
      exact ⟨a, ea, wa⟩
    · cases h
end

theorem choose_int {p : Nat → Nat → Int → Prop} {n k : Nat} (h : ∀ i, i < n → ∀ j, j < k → ∃ x, p i j x) : ∃ f : Nat → Nat → Int, ∀ i, i < n → ∀ j, j < k → p i j (f i j) := by
  have h' : ∀ i j, ∃ x, i < n → j < k → p i j x := fun i j => by
    by_cases hi : i < n
    · by_cases hj : j < k
      · obtain ⟨x, hx⟩ := h i hi j hj; exact ⟨x, fun _ _ => hx⟩
      · exact ⟨0, fun _ h => absurd h hj⟩
    · exact ⟨0, fun h => absurd h hi⟩
  exact ⟨fun i j => (h' i j).choose, fun i hi j hj => (h' i j).choose_spec hi hj⟩

/-- a list of arrays of k numbers, as it lies -/
def Arrs (k : Nat) (w : World) (v : Value) (len : Nat) (f : Nat → Nat → Int) : Prop :=
  ∃ a cap, v = .slice a len cap ∧ (len < 9223372036854775808) ∧ ∀ i, i < len → ∃ b off, a = some ⟨b, off, none⟩ ∧ b < w.heap.size ∧ ∀ j, j < k → w.cell? ⟨b, off + i * k + j, none⟩ = some (.int .i64 (f i j)) ∧ (Lit.int .i64 (f i j)).wf = true

set_option maxRecDepth 100000 in
theorem open_arrs {t e : TypeId} {k : Nat} (hk0 : 0 < k) (ht : Tryd.prog.underlying t = some (.slice e)) (he : Tryd.prog.underlying e = some (.array k 3)) (ce : Tryd.prog.cellsOf e = k)
    {H : Type} {enc : TypeId × Value → H} {W : World} {base : Nat} {v : Value} {d : DataW H} {p : List MemPlace} (hv : Value.okWide Tryd.prog W .any base t v)
    (h : DataW.Trod enc Tryd.prog W 0 (fun _ => true) true t v d p) : ∃ len f, Arrs k W v len f := by
  obtain ⟨a, len, cap, rfl⟩ := okWide_slice ht hv
  obtain ⟨fuel, hf⟩ := h
  rcases Go.Deep.open_slice ht hf with ⟨hcs, hx⟩ | ⟨x, l, c, m, n, D, Pl, hcs, -, hl, hm, hmm, hx, hi⟩
  · simp [Value.cells] at hcs
    obtain ⟨rfl, rfl, rfl⟩ := hcs
    exact ⟨0, fun _ _ => 0, none, 0, rfl, by omega, fun i hi => absurd hi (by omega)⟩
  · simp [Value.cells] at hcs
    obtain ⟨rfl, rfl, rfl⟩ := hcs
    simp only [if_true] at hmm
    obtain rfl : cap = m := hmm.symm
    have each : ∀ i, i < cap → ∀ j, j < k → ∃ q, W.cell? (x.add (i * k + j)) = some (.int .i64 q) ∧ (Lit.int .i64 q).wf = true := by
      intro i hc j hj
      obtain ⟨cs', h1, h2⟩ := hi i hc
      rw [ce] at h1
      obtain ⟨_, hlen, hcell⟩ := World.cells?_some h1
      obtain ⟨q, h3, h4⟩ := trod_ints he Tryd.underlying3 (by kernel_rfl) h2 j hj
      have e0 := hcell j (by omega)
      rw [Go.Deep.add_add] at e0
      refine ⟨q, ?_, h4⟩
      rw [e0]
      have hj' : j < cs'.length := by omega
      have : cs'[j]? = some (.int .i64 q) := by
        have h5 := congrArg (fun l => l[0]?) h3
        simpa [List.getElem?_take, List.getElem?_drop] using h5
      simpa using this
    obtain ⟨f, hf'⟩ := choose_int each
    refine ⟨len, f, some x, cap, rfl, ?_, fun i hil => ?_⟩
    · have : maxLen = 9223372036854775807 := rfl
      omega
    obtain ⟨b, off, spot⟩ := x
    have h00 := (hf' 0 (by omega) 0 hk0).1
    have hspot : spot = none := by simpa [Addr.add] using World.cell?_spot h00
    subst hspot
    rw [run.add_none] at h00
    refine ⟨b, off, rfl, run.lt_of_cell h00, fun j hj => ?_⟩
    have h1 := hf' i (by omega) j hj
    rw [run.add_none, ← Nat.add_assoc] at h1
    exact h1
end Go.Proofs.YtbfheehaagcmeaaDoor.can
