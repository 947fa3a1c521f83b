/-
  A gap's Delete of nothing; a gap's Delete and Insert, told of lists of clusters.
-/
import Derived.Test.YtgfjaegjkklcpaaEdTurn
namespace Go.Proofs.Ytgfjaegjkklcpaa.ed
open Go Go.RowKit Go.Proofs
set_option linter.unusedVariables false
set_option maxRecDepth 100000 in
set_option maxHeartbeats 2000000 in
theorem delete_none {g lb n cap f u : Nat} {A : List Value} {w : World} (h : edC.G g lb n cap f u A w) (hn : n ≤ 1099511627776) (i : Nat) (hi : i ≤ f + (n - u)) :
    Calls Try.prog 67 #[.pointer (some ⟨g, 0, none⟩), .int .i64 (i : Nat), .int .i64 0] w fun e w' => e = .returned (.slice none 0 0) ∧ Same w w' := by
  have HLEN := run.hid (edC.len_any h (by omega))
  obtain ⟨N, hN⟩ : ∃ N, N = f + (n - u) := ⟨_, rfl⟩
  rw [← hN] at hi HLEN
  have hin : ¬ ((N : Nat) : Int) < (i : Int) := by omega
  have hi0 : ¬ (i : Int) < 0 := by omega
  clear h hN
  go_enter Try.func67, Try.ntmps67
  go_wp2_with fail
  refine HLEN.out.mono ?_
  rintro e w1 ⟨rfl, hs1⟩
  have HS := run.hid hs1
  clear hs1 HLEN
  go_wp2
  go_ret
  exact ⟨rfl, HS.out⟩
theorem cellsT_drop (F : List TV) {i : Nat} (hi : i ≤ F.length) : (cellsT F).drop (i * 2) = cellsT (F.drop i) := by
  have e : cellsT F = cellsT (F.take i) ++ cellsT (F.drop i) := by
    conv => lhs; rw [← List.take_append_drop i F]
    unfold cellsT
    rw [List.flatMap_append]
  rw [e, List.drop_append_of_le_length (by rw [cellsT_length, List.length_take]; omega), List.drop_of_length_le (by rw [cellsT_length, List.length_take]; omega), List.nil_append]
theorem cellsT_app (F H : List TV) : cellsT (F ++ H) = cellsT F ++ cellsT H := by unfold cellsT; rw [List.flatMap_append]
/-- the gap of these clusters -/
def GapOf (g lb : Nat) (F : List TV) (w : World) : Prop := ∃ n cap f u A, edC.G g lb n cap f u A w ∧ HasC (n * 2) (f * 2) (u * 2) A (cellsT F) ∧ n ≤ 1099511627776 ∧ f + (n - u) = F.length
theorem gap_delete {g lb : Nat} {F : List TV} {w : World} (h : GapOf g lb F w) (i m : Nat) (him : i + m ≤ F.length) (hF : F.length ≤ 1048576) :
    Calls Try.prog 67 #[.pointer (some ⟨g, 0, none⟩), .int .i64 (i : Nat), .int .i64 (m : Nat)] w fun e w' => ∃ lb', GapOf g lb' (F.take i ++ F.drop (i + m)) w' ∧ (∃ v, e = .returned v) ∧ (lb' = lb ∨ w.heap.size ≤ lb') ∧ Kept (fun b => b = g ∨ b = lb) w w' := by
  obtain ⟨n, cap, f, u, A, hG, hc, hn, hl⟩ := h
  by_cases h0 : m = 0
  · subst h0
    refine (delete_none hG hn i (by omega)).mono ?_
    rintro e w' ⟨rfl, hs⟩
    refine ⟨lb, ⟨n, cap, f, u, A, Same.ga hG hs, by rw [Nat.add_zero, List.take_append_drop]; exact hc, hn, by rw [Nat.add_zero, List.take_append_drop]; exact hl⟩, ⟨_, rfl⟩, .inl rfl, Same.kept (Kept.refl _ w) hs⟩
  · refine (edC.delete_any hG hc (cellsT_one F) i m m (by omega) hn (by omega) (by omega) (by omega)).mono ?_
    rintro e w' ⟨v, rfl, -, lb', n', cap', U', A', hG', hc', hl', hlb, hmx, -, hk⟩
    refine ⟨lb', ⟨n', cap', i, U', A', hG', ?_, by omega, ?_⟩, ⟨_, rfl⟩, hlb, hk⟩
    · rw [cellsT_app, ← cellsT_take F i (by omega), ← cellsT_drop F (by omega)]
      exact hc'
    · rw [List.length_append, List.length_take, List.length_drop]
      omega
end Go.Proofs.Ytgfjaegjkklcpaa.ed
