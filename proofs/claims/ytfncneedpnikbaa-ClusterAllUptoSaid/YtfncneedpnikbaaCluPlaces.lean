/-
  Where clusters begin: the plain list, and the document's walk.
-/
import Derived.Test.YtfncneedpnikbaaCluSplit
import Derived.Test.YtfncneedpnikbaaCluRef2
namespace Go.Proofs.Ytfncneedpnikbaa.clu
open Go.RowKit Go.Proofs
open Go.Proofs.Ytfncneedpnikbaa.wid Go.Proofs.Ytfncneedpnikbaa.utf
set_option linter.unusedVariables false

/-- where the i-th begins -/
def ptN (X : List (List Int)) (i : Nat) : Nat := (text (X.take i).flatten).length
theorem ptN_zero (X : List (List Int)) : ptN X 0 = 0 := rfl
theorem ptN_next {X : List (List Int)} {i : Nat} (h : i < X.length) : ptN X (i + 1) = ptN X i + (text (X.getD i [])).length := by
  unfold ptN
  rw [List.take_succ_eq_append_getElem h, List.flatten_append, text_append, List.length_append]
  simp [List.getD_eq_getElem?_getD, h]
theorem ptN_le (L : List Int) (i : Nat) : ptN (cl L) i ≤ 4 * L.length := by
  have h1 := (text_length ((cl L).take i).flatten).2
  have h2 := congrArg List.length (flat_parts L i)
  rw [List.length_append] at h2
  unfold ptN
  omega
theorem ptN_cons (p : List Int) (t : List (List Int)) (i : Nat) : ptN (p :: t) (i + 1) = (text p).length + ptN t i := by
  unfold ptN
  rw [List.take_succ_cons, List.flatten_cons, text_append, List.length_append]
theorem placed_get : ∀ (X : List (List Int)) (a i : Nat), i < X.length → (placed a X)[i]? = some (a + ptN X i, X.getD i [])
  | [], a, i, h => by simp at h
  | p :: t, a, 0, _ => by simp [placed, ptN_zero]
  | p :: t, a, i + 1, h => by
    have := placed_get t (a + (text p).length) i (by simpa using h)
    simp only [placed, List.getElem?_cons_succ, this, ptN_cons, Nat.add_assoc]
    simp
def pvl (X : List (List Int)) (k : Nat) : List Value := (List.range k).map fun i => Value.int .i64 (ptN X i)
theorem pvl_length (X : List (List Int)) (k : Nat) : (pvl X k).length = k := by simp [pvl]
theorem pvl_next (X : List (List Int)) (k : Nat) : pvl X k ++ [.int .i64 (ptN X k)] = pvl X (k + 1) := by simp [pvl, List.range_succ]
theorem pvl_get {X : List (List Int)} {k i : Nat} (h : i < k) : (pvl X k)[i]? = some (.int .i64 (ptN X i)) := by simp [pvl, h]
theorem cc_get {X : List (List Int)} {i : Nat} (h : i < X.length) : (cc X)[i * 2]? = some (.string (str (text (X.getD i [])))) ∧ (cc X)[i * 2 + 1]? = some (.int .i64 (wide (X.getD i []))) := by
  have e2 : X = X.take i ++ (X.getD i [] :: X.drop (i + 1)) := by
    conv => lhs; rw [← List.take_append_drop i X, List.drop_eq_getElem_cons h]
    simp [List.getD_eq_getElem?_getD, h]
  have e : cc X = cc (X.take i) ++ ([.string (str (text (X.getD i []))), .int .i64 (wide (X.getD i []))] ++ cc (X.drop (i + 1))) := by
    conv => lhs; rw [e2]
    simp [cc]
  have hl : (cc (X.take i)).length = i * 2 := by rw [cc_length, List.length_take]; congr 1; omega
  rw [e]
  constructor
  · rw [List.getElem?_append_right (by omega), hl]; simp
  · rw [List.getElem?_append_right (by omega), hl]; simp
theorem info_int1 : (Try.prog.info? 3).map (fun i => (i.zero, i.size, i.bytes)) = some (some (.int .i64 0), 1, 8) := by kernel_rfl

set_option maxRecDepth 100000 in
set_option maxHeartbeats 1000000 in
theorem places_any (B : Nat) (v : Value) (X : List (List Int)) (w : World) (h : w.ownsRow B 30 2 v X.length (cc X)) (hl : X.length ≤ 1099511627776) (hp : ∀ i, ptN X i ≤ 4398046511104) :
    Calls Try.prog 5 #[v] w fun e w' => ∃ v', e = .returned v' ∧ w'.ownsRow w.heap.size 3 1 v' X.length (pvl X X.length) ∧ Below w.heap.size w w' := by
  obtain ⟨ir, hir, hrz0, hrz1, hrz2⟩ := info_parts info_int1
  have HO := run.hid h
  have HC := run.hid (fun i hi => (@cc_get X i hi).1)
  have HP := run.hid hp
  have HN := run.hid (fun i hi => @ptN_next X i hi)
  have HV := run.hid (fun k => pvl_next X k)
  have hsz : Hid (∀ i, i < X.length → (str (text (X.getD i []))).size = (text (X.getD i [])).length) := fun i _ => str_size _
  obtain ⟨a, c, rfl⟩ := run.own_value h
  clear h hp
  generalize hNl : X.length = N at *
  have HNL := run.hid hNl
  clear hNl
  go_enter Try.func5, Try.ntmps5
  go_wp2
  go_loopw [3, 4, 5] (fun vo vp vi wr => ∃ i : Nat, i ≤ N ∧ vi = .int .i64 i ∧ vp = .int .i64 (ptN X i) ∧ Hid (wr.ownsRow w.heap.size 3 1 vo i (pvl X i)) ∧ Below w.heap.size w wr) (fun _ _ vi _ => (N - intOf vi).toNat)
  case atStart => exact ⟨0, by omega, rfl, by rw [ptN_zero]; rfl, World.ownsRow_nil _ _ _ _, Below.refl _ _⟩
  case round =>
    obtain ⟨i, hiN, rfl, rfl, HR, hbel⟩ := hrel
    have hz := hbel.size
    by_cases hil : i < N
    · obtain ⟨g, rfl⟩ : ∃ g, a = some ⟨g, 0, none⟩ := by
        rcases HO.out.2 with ⟨-, h0⟩ | ⟨g, cap, cur, e, -⟩
        · omega
        · simp only [Value.slice.injEq] at e; exact ⟨g, e.1⟩
      have c1 := (HO.out.cellAt (i * 2) (by omega)).trans (HC.out i hil)
      have hglt := (HO.out.lt g rfl).2
      replace c1 := (hbel.cell (p := ⟨g, i * 2, none⟩) hglt).trans c1
      have hnx := HN.out i hil
      have hs := hsz.out i hil
      have hb1 := HP.out i
      have hb2 := HP.out (i + 1)
      have HVi := run.hid (HV.out i)
      rw [hnx] at hb2
      have HNX := run.hid hnx
      generalize str (text (X.getD i [])) = st at *
      generalize (text (X.getD i [])).length = m at *
      have HS := run.hid hs
      subst hs
      generalize hpi : ptN X i = pi at *
      have HPI := run.hid hpi
      clear hpi hnx hsz HN HV HP HC
      have HR2 := run.hid (HR.out.alloc (.cells #[.int .i64 pi] 3))
      go_wp2_with (at_builtin; refine run.wpList_append_any _ rfl _ (.tmp 14) 24 rfl w.heap.size 3 ir (.int .i64 0) 1 8 Try.underlying24 hir hrz0 hrz1 hrz2 rfl (by decide) _ i _ rfl HR2.out _ 1 [.int .i64 pi] rfl (run.readsN_new wr [.int .i64 pi] 1 1 _ rfl) (by intro u hu; simp at hu; subst hu; rfl) (by unfold maxLen; omega) (by omega) (by simp; omega) ?_)
      intro vo2 w2 hown2 hgrow2 _ _
      rw [HVi.out] at hown2
      have HR3 := run.hid hown2
      have hb3 := run.below_append (hbel.alloc hz (.cells #[.int .i64 pi] 3)) HR2.out hgrow2 (by simp; omega)
      have hgn : some g ≠ u3.ownBlock := fun e => by
        have h1 := (HR2.out.lt g e.symm).1
        omega
      have c2 : w2.cell? ⟨g, i * 2, none⟩ = some (.string st) := hgrow2.cell (run.cell_old wr _ c1) hgn
      clear hown2 hgrow2 HR HR2 c1
      go_wp2
      go_roundw
      case rel => exact ⟨i + 1, by omega, by go_num, by rw [HNX.out]; go_num, HR3, hb3⟩
      case measure => simp [intOf]; omega
    · obtain rfl : i = N := by omega
      clear HC HP HN HV hsz hil
      go_wp2
      go_ret
      exact ⟨_, rfl, HR.out, hbel⟩
end Go.Proofs.Ytfncneedpnikbaa.clu
