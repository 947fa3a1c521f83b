/-
  The walks of the layer cluster: One.
-/
import Derived.Test.YtfncneedpnikbaaCluSplit
import Derived.Laws.ResultCell
namespace Go.Proofs.Ytfncneedpnikbaa.clu
open Go.RowKit Go.Proofs
open Go.Proofs.Ytfncneedpnikbaa.wid Go.Proofs.Ytfncneedpnikbaa.utf
set_option linter.unusedVariables false

theorem cl_len_one {L : List Int} (h : (cl L).length = 1) : cl L = [L] := by
  obtain ⟨p, hp⟩ := List.length_eq_one_iff.1 h
  have := cl_flat _ L (Nat.le_refl _)
  rw [hp] at this
  simp only [List.flatten_cons, List.flatten_nil, List.append_nil] at this
  rw [hp, this]

/-- what One tells -/
def oneOk (s : ByteArray) : Prop := (cl (runes (bs s))).length = 1 ∧ str (text (runes (bs s))) = s
def OneIs (s : ByteArray) (w : World) (e : Ending) (w' : World) : Prop :=
  Below w.heap.size w w' ∧ ((oneOk s ∧ e = .returned (.tuple #[.agg #[.string s, .int .i64 (wide (runes (bs s)))], .bool true])) ∨
    (¬ oneOk s ∧ e = .returned (.tuple #[.agg #[.string ByteArray.empty, .int .i64 0], .bool false])))

theorem two_cells (w1 : World) (n : Nat) (a b u v : Value) (t : TypeId) (h : w1.heap[n]? = some (.cells #[a, b] t (0, 0))) :
    ((w1.setCell ⟨n, 0, none⟩ u).setCell ⟨n, 1, none⟩ v).cell? ⟨n, 0, none⟩ = some u ∧ ((w1.setCell ⟨n, 0, none⟩ u).setCell ⟨n, 1, none⟩ v).cell? ⟨n, 1, none⟩ = some v := by
  obtain ⟨hlt, hk⟩ := Array.getElem?_eq_some_iff.1 h
  have h1 : (w1.setCell ⟨n, 0, none⟩ u).heap[n]? = some (.cells #[u, b] t (0, 0)) := by
    show (w1.heap.modify n _)[n]? = _
    rw [Array.getElem?_eq_getElem (by rw [Array.size_modify]; exact hlt), Array.getElem_modify_self, hk]
    rfl
  obtain ⟨hlt2, hk2⟩ := Array.getElem?_eq_some_iff.1 h1
  have h2 : ((w1.setCell ⟨n, 0, none⟩ u).setCell ⟨n, 1, none⟩ v).heap[n]? = some (.cells #[u, v] t (0, 0)) := by
    show ((w1.setCell ⟨n, 0, none⟩ u).heap.modify n _)[n]? = _
    rw [Array.getElem?_eq_getElem (by rw [Array.size_modify]; exact hlt2), Array.getElem_modify_self, hk2]
    rfl
  constructor <;> simp [World.cell?, h2]
theorem below_two (w w1 : World) (n : Nat) (u v : Value) (hB : Below n w w1) : Below n w ((w1.setCell ⟨n, 0, none⟩ u).setCell ⟨n, 1, none⟩ v) :=
  (hB.setCell (p := ⟨n, 0, none⟩) (Nat.le_refl _) _).setCell (p := ⟨n, 1, none⟩) (Nat.le_refl _) _

set_option maxRecDepth 100000 in
set_option maxHeartbeats 4000000 in
theorem one_any (s : ByteArray) (w : World) (hs : s.size ≤ 1099511627776) : Calls Try.prog 15 #[.string s] w (OneIs s w) := by
  have HS := run.hid (fun w => split_any s w hs)
  unfold Splits at HS
  have hOK := run.hid (show oneOk s ↔ (cl (runes (bs s))).length = 1 ∧ str (text (runes (bs s))) = s from Iff.rfl)
  have hC1 := run.hid (fun h => @cl_len_one (runes (bs s)) h)
  unfold OneIs
  generalize runes (bs s) = L at *
  go_enter Try.func15, Try.ntmps15
  have hbel := run.below_one w (.cells #[.string ByteArray.empty, .int .i64 0] 30)
  have hnew := run.heap_new w (.cells #[.string ByteArray.empty, .int .i64 0] 30)
  go_wp2_with fail
  refine (HS.out _).mono ?_
  rintro e w1 ⟨v, rfl, hown, hb1⟩
  have hB := hbel.trans (hb1.mono hbel.size)
  have hnew1 := (hb1.block w.heap.size (by simp)).trans hnew
  by_cases h1 : (cl L).length = 1
  · have h2 := hC1.out h1
    rw [h1, h2] at hown
    obtain ⟨g, cap, rfl⟩ := ownsRow_succ (k := 0) hown
    have hc0 : w1.cell? ⟨g, 0, none⟩ = some (.string (str (text L))) := (hown.cellAt 0 (by simp)).trans rfl
    have hc1 : w1.cell? ⟨g, 1, none⟩ = some (.int .i64 (wide L)) := (hown.cellAt 1 (by simp)).trans rfl
    have hn0 : w1.cell? ⟨w.heap.size, 0, none⟩ = some (.string ByteArray.empty) := by simp [World.cell?, hnew1]
    have hn1 : w1.cell? ⟨w.heap.size, 1, none⟩ = some (.int .i64 0) := by simp [World.cell?, hnew1]
    have hnf : w1.frozen? ⟨w.heap.size, 0, none⟩ = false := by simp [World.frozen?, hnew1]
    have hnf1 : w1.frozen? ⟨w.heap.size, 1, none⟩ = false := by simp [World.frozen?, hnew1]
    have hEQ := run.hid (toList_eq_iff (str (text L)) s)
    by_cases h3 : str (text L) = s
    · have hok := run.hid (hOK.out.2 ⟨h1, h3⟩)
      rw [h3] at hc0
      clear hOK hC1 hEQ HS hown h2 hnew
      generalize hwd : wide L = wd at *
      have HWD := run.hid hwd
      clear hwd
      go_wp2
      have hT := two_cells w1 w.heap.size _ _ (.string s) (.int .i64 wd) _ hnew1
      refine bodyPost_ret (v := .tuple #[.agg #[.string s, .int .i64 wd], .bool true]) ((results_cell_tmp rfl _ _ _).trans (by simp [go_sem, hT.1, hT.2])) rfl ?_
      exact ⟨below_two w w1 _ _ _ hB, .inl ⟨hok.out, by rw [HWD.out]⟩⟩
    · have hok := run.hid (fun h => h3 (hOK.out.1 h).2)
      have hE2 : ((str (text L)).toList == s.toList) = false := by rw [hEQ.out]; exact decide_eq_false h3
      clear hOK hC1 hEQ HS hown h2 hnew
      generalize hwd : wide L = wd at *
      have HWD := run.hid hwd
      clear hwd
      generalize str (text L) = st at *
      go_wp2
      have hT := two_cells w1 w.heap.size _ _ (.string ⟨#[]⟩) (.int .i64 0) _ hnew1
      refine bodyPost_ret (v := .tuple #[.agg #[.string ⟨#[]⟩, .int .i64 0], .bool false]) ((results_cell_tmp rfl _ _ _).trans (by simp [go_sem, hT.1, hT.2])) rfl ?_
      exact ⟨below_two w w1 _ _ _ hB, .inr ⟨hok.out, rfl⟩⟩
  · have hok := run.hid (fun h => h1 (hOK.out.1 h).1)
    obtain ⟨a, cap, rfl⟩ := run.own_value hown
    have hn0 : w1.cell? ⟨w.heap.size, 0, none⟩ = some (.string ByteArray.empty) := by simp [World.cell?, hnew1]
    have hn1 : w1.cell? ⟨w.heap.size, 1, none⟩ = some (.int .i64 0) := by simp [World.cell?, hnew1]
    have hnf : w1.frozen? ⟨w.heap.size, 0, none⟩ = false := by simp [World.frozen?, hnew1]
    have hnf1 : w1.frozen? ⟨w.heap.size, 1, none⟩ = false := by simp [World.frozen?, hnew1]
    clear hOK hC1 HS hown hnew
    generalize (cl L).length = k at *
    go_wp2
    have hT := two_cells w1 w.heap.size _ _ (.string ⟨#[]⟩) (.int .i64 0) _ hnew1
    refine bodyPost_ret (v := .tuple #[.agg #[.string ⟨#[]⟩, .int .i64 0], .bool false]) ((results_cell_tmp rfl _ _ _).trans (by simp [go_sem, hT.1, hT.2])) rfl ?_
    exact ⟨below_two w w1 _ _ _ hB, .inr ⟨hok.out, rfl⟩⟩

end Go.Proofs.Ytfncneedpnikbaa.clu
