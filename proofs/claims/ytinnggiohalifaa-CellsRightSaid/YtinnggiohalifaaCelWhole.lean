/-
  The walks of the layer cells: is a row right?
-/
import Derived.Test.YtinnggiohalifaaCelUnits
import Derived.Test.YtinnggiohalifaaCelHelp
namespace Go.Proofs.Ytinnggiohalifaa.cel
open Go Go.RowKit Go.Proofs
set_option linter.unusedVariables false

def wholeF : Nat → List CV → Bool
  | _, [] => true
  | 0, _ :: _ => true
  | f + 1, c :: t => decide (0 < unitT (c :: t)) && wholeF f ((c :: t).drop (max (unitT (c :: t)) 1))
/-- is a row right? -/
def wholeT (L : List CV) : Bool := wholeF L.length L
theorem wholeF_any : ∀ (n m : Nat) (L : List CV), L.length ≤ n → L.length ≤ m → wholeF n L = wholeF m L
  | _, _, [], _, _ => by simp [wholeF]
  | n + 1, m + 1, c :: t, hn, hm => by
    simp only [wholeF]
    congr 1
    have : ((c :: t).drop (max (unitT (c :: t)) 1)).length ≤ t.length := by rw [List.length_drop, List.length_cons]; omega
    refine wholeF_any n m _ ?_ ?_ <;> simp only [List.length_cons] at hn hm <;> omega
  | 0, _, c :: t, hn, _ => by simp at hn
  | _, 0, c :: t, _, hm => by simp at hm
theorem wholeT_step {L : List CV} {i : Nat} (h : i < L.length) : wholeT (L.drop i) = (decide (0 < unitT (L.drop i)) && wholeT (L.drop (i + max (unitT (L.drop i)) 1))) := by
  have hd : L.drop i = L[i] :: L.drop (i + 1) := List.drop_eq_getElem_cons h
  rw [← List.drop_drop]
  generalize hR : L.drop i = R at *
  rw [hd]
  unfold wholeT
  show wholeF (L.drop (i + 1)).length.succ _ = _
  simp only [wholeF]
  congr 1
  refine wholeF_any _ _ _ ?_ (Nat.le_refl _)
  rw [List.length_drop, List.length_cons]
  omega
theorem wholeT_end (L : List CV) : wholeT (L.drop L.length) = true := by rw [List.drop_length]; rfl

set_option maxHeartbeats 1000000 in
theorem wholeStep_any (i n : Nat) (p : Nat) (b : Bool) (w : World) (hp : w.heap[p]? = some (.cells #[.bool b] 4 (0, 0))) :
    Calls Try.prog 72 #[.int .i64 i, .int .i64 n, .pointer (some ⟨p, 0, none⟩)] w fun e w' => e = .returned (.tuple #[]) ∧ w' = w.setCell ⟨p, 0, none⟩ (.bool (b && decide (0 < n))) := by
  have c0 := blk_cell hp 0
  change w.cell? _ = some (.bool b) at c0
  have f0 := blk_free hp 0
  clear hp
  cases b with
  | false =>
    go_enter Try.func72, Try.ntmps72
    go_wp2
    first | go_end0 | (refine bodyPost_ret (results_none rfl _ _ _) rfl ?_)
    exact ⟨rfl, rfl⟩
  | true =>
    by_cases h : 0 < n
    · have hd : decide (0 < n) = true := decide_eq_true h
      rw [hd]
      clear hd
      go_enter Try.func72, Try.ntmps72
      go_wp2
      first | go_end0 | (refine bodyPost_ret (results_none rfl _ _ _) rfl ?_)
      exact ⟨rfl, rfl⟩
    · have hd : decide (0 < n) = false := decide_eq_false h
      rw [hd]
      clear hd
      go_enter Try.func72, Try.ntmps72
      go_wp2
      first | go_end0 | (refine bodyPost_ret (results_none rfl _ _ _) rfl ?_)
      exact ⟨rfl, rfl⟩

set_option maxRecDepth 100000 in
set_option maxHeartbeats 2000000 in
theorem whole_any (a : Option Addr) (cap : Nat) (L : List CV) (w : World) (hR : Reads5 w (.slice a L.length cap) L) (hcap : L.length ≤ cap) (hN : L.length ≤ 140737488355328) (hL : ∀ c ∈ L, Fit c) :
    Calls Try.prog 50 #[.slice a L.length cap] w fun e w' => e = .returned (.bool (wholeT L)) ∧ Below w.heap.size w w' := by
  have hb0 := run.below_one w (.cells #[.bool true] 4)
  have hU := units_whole a cap L (.pointer (some ⟨w.heap.size, 0, none⟩)) (w.alloc (.cells #[.bool true] 4))
    (fun i X => Below w.heap.size w X ∧ ∃ b, X.heap[w.heap.size]? = some (.cells #[.bool b] 4 (0, 0)) ∧ wholeT L = (b && wholeT (L.drop i))) hcap hN hL
    ⟨hb0, true, heap_alloc_new _ _, by simp⟩ (fun i X h => hR.below h.1)
    (fun i X Y h hb => ⟨h.1.trans (hb.mono h.1.size), by obtain ⟨b, h1, h2⟩ := h.2; exact ⟨b, (hb.block _ (Array.getElem?_eq_some_iff.1 h1).1).trans h1, h2⟩⟩)
    (fun i X hi h => by
      obtain ⟨h1, b, h2, h3⟩ := h
      refine (wholeStep_any i (unitT (L.drop i)) w.heap.size b X h2).mono fun e Y he => ?_
      obtain ⟨he, rfl⟩ := he
      refine ⟨he, h1.setCell (p := ⟨w.heap.size, 0, none⟩) (Nat.le_refl _) _, _, blk_set h2, ?_⟩
      rw [h3, wholeT_step hi, Bool.and_assoc])
  have HU := run.hid hU
  have HE := run.hid (wholeT_end L)
  clear hU hR hL hb0
  generalize L.length = N at *
  generalize wholeT L = r at *
  go_enter Try.func50, Try.ntmps50
  go_wp2_with fail
  refine HU.out.mono ?_
  rintro e w1 ⟨rfl, hb1, b, h1, h2⟩
  rw [HE.out, Bool.and_true] at h2
  subst h2
  have c0 := blk_cell h1 0
  change w1.cell? _ = some (.bool _) at c0
  clear h1 HU HE
  go_wp2
  go_ret
  exact ⟨rfl, hb1⟩
end Go.Proofs.Ytinnggiohalifaa.cel
