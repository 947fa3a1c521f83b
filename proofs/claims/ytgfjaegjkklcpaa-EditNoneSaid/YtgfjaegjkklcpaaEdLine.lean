/-
  The editor's line: the clusters that a text makes, blanks where line feeds were.
-/
import Derived.Test.YtgfjaegjkklcpaaEdText
import Derived.Test.YtgfjaegjkklcpaaWrpFlow
namespace Go.Proofs.Ytgfjaegjkklcpaa.ed
open Go Go.RowKit Go.Proofs
open Go.Proofs.Ytgfjaegjkklcpaa.wrp (flow flow_any flow_len nl sp)
set_option linter.unusedVariables false
def shownE (q : TV) : TV := if q.1 = nl then (sp, 1) else q
/-- the clusters of the line that a text makes -/
def lineT (s : ByteArray) : List TV := (flow s).map shownE
theorem cellsT_eq (F : List TV) : cellsT F = clu.cells2 F := rfl
theorem lineT_len (s : ByteArray) : (lineT s).length = (flow s).length := by unfold lineT; simp
/-- up to i they are shown as they should be -/
def upTo (F : List TV) (i : Nat) : List TV := (F.take i).map shownE ++ F.drop i
theorem upTo_len (F : List TV) (i : Nat) (h : i ≤ F.length) : (upTo F i).length = F.length := by unfold upTo; simp; omega
theorem upTo_zero (F : List TV) : upTo F 0 = F := by unfold upTo; simp
theorem upTo_all (F : List TV) : upTo F F.length = F.map shownE := by unfold upTo; simp
theorem upTo_at {F : List TV} {i : Nat} (h : i < F.length) : (upTo F i).getD i tv0 = F.getD i tv0 := by
  unfold upTo
  simp only [List.getD_eq_getElem?_getD]
  rw [List.getElem?_append_right (by simp; omega)]
  simp [Nat.min_eq_left (Nat.le_of_lt h)]
theorem upTo_next {F : List TV} {i : Nat} (h : i < F.length) : upTo F (i + 1) = (upTo F i).set i (shownE (F.getD i tv0)) := by
  apply List.ext_getElem?
  intro j
  rw [List.getElem?_set, upTo_len F i (by omega)]
  unfold upTo
  by_cases e : i = j
  · subst e
    rw [if_pos rfl, if_pos h, List.getElem?_append_left (by simp; omega), List.getElem?_map, List.getElem?_take_of_lt (by omega)]
    simp [List.getD_eq_getElem?_getD, h]
  · rw [if_neg e]
    by_cases hj : j < i
    · rw [List.getElem?_append_left (by simp; omega), List.getElem?_append_left (by simp; omega), List.getElem?_map, List.getElem?_map, List.getElem?_take_of_lt (by omega), List.getElem?_take_of_lt hj]
    · rw [List.getElem?_append_right (by simp; omega), List.getElem?_append_right (by simp; omega), List.getElem?_drop, List.getElem?_drop]
      congr 1
      simp
      omega
theorem cellsT_set : ∀ (F : List TV) (i : Nat) (q : TV), i < F.length → cellsT (F.set i q) = ((cellsT F).set (i * 2) (.string q.1)).set (i * 2 + 1) (.int .i64 (q.2 : Nat))
  | p :: F, 0, q, _ => rfl
  | p :: F, i + 1, q, h => by
    have ih := cellsT_set F i q (by simpa using h)
    have e1 : cellsT ((p :: F).set (i + 1) q) = .string p.1 :: .int .i64 (p.2 : Nat) :: cellsT (F.set i q) := rfl
    have e2 : cellsT (p :: F) = .string p.1 :: .int .i64 (p.2 : Nat) :: cellsT F := rfl
    rw [e1, e2, ih, show (i + 1) * 2 = i * 2 + 1 + 1 by omega]
    rfl
theorem own_cells {X : World} {B g n cap : Nat} {F : List TV} (h : X.ownsRow B 73 2 (.slice (some ⟨g, 0, none⟩) n cap) n (cellsT F)) {i : Nat} (hi : i < F.length) : X.cell? ⟨g, i * 2, none⟩ = some (.string (F.getD i tv0).1) ∧ X.cell? ⟨g, i * 2 + 1, none⟩ = some (.int .i64 ((F.getD i tv0).2 : Nat)) := by
  obtain ⟨h1, h2⟩ := cellsT_at F i hi
  obtain ⟨-, a, c, e, hc, -⟩ := run.readsN_own h
  simp only [Value.slice.injEq] at e
  obtain ⟨rfl, -, -⟩ := e
  obtain ⟨b, off, e, -, hr⟩ := hc (by intro h0; rw [h0] at h1; simp at h1)
  simp only [Option.some.injEq, Addr.mk.injEq] at e
  obtain ⟨rfl, rfl, -⟩ := e
  have a1 := hr _ _ h1
  have a2 := hr _ _ h2
  rw [Nat.zero_add] at a1 a2
  exact ⟨a1, a2⟩
set_option maxRecDepth 100000 in
set_option maxHeartbeats 4000000 in
theorem line_any (s : ByteArray) (w : World) (hs : s.size ≤ 68719476736) :
    Calls Try.prog 40 #[.string s] w fun e w' => ∃ v, e = .returned v ∧ w'.ownsRow w.heap.size 73 2 v (lineT s).length (cellsT (lineT s)) ∧ Below w.heap.size w w' := by
  obtain ⟨it, hinf, -, hsz, -⟩ := info_parts (show (Try.prog.info? 73).map (fun i => (i.zero, i.size, i.bytes)) = some (some (.agg #[.string ⟨#[]⟩, .int .i64 0]), 2, 24) from by kernel_rfl)
  have HFL := run.hid (flow_any s w hs)
  have hlen := flow_len s
  have hll := lineT_len s
  rw [hll]
  unfold lineT
  generalize flow s = F at *
  have HAL := run.hid (upTo_all F)
  rw [← HAL.out]
  have HZ := run.hid (upTo_zero F)
  have HLN := run.hid (fun i hi => upTo_len F i hi)
  have HAT := run.hid (fun i (hi : i < F.length) => @upTo_at F i hi)
  have HNX := run.hid (fun i (hi : i < F.length) => @upTo_next F i hi)
  have hNb : F.length ≤ 274877906944 := by omega
  clear hlen hll
  generalize hN : F.length = N at *
  have HN := run.hid hN
  clear hN
  go_enter Try.func40, Try.ntmps40
  go_wp2_with fail
  refine HFL.out.mono ?_
  rintro e w1 ⟨v, rfl, hown, hb1⟩
  change w1.ownsRow _ _ _ _ _ (cellsT F) at hown
  rw [← HZ.out] at hown
  have HO := run.hid hown
  have hlen0 := fun (X : World) => (show (Builtin.len_ #[70] 3 #[v]).run Try.prog X = .ok (.int .i64 (N : Nat)) X from by
    obtain ⟨a, c, rfl⟩ := run.own_value hown
    simp [go_sem, Builtin.len_])
  clear HFL hown HZ
  go_wp2
  go_loopw [10] (fun vi wr => ∃ i : Nat, i ≤ N ∧ vi = .int .i64 i ∧ wr.ownsRow w.heap.size 73 2 v N (cellsT (upTo F i)) ∧ Below w.heap.size w wr) (fun vi _ => ((N : Int) - intOf vi).toNat)
  case atStart => exact ⟨0, Nat.zero_le _, rfl, HO.out, hb1⟩
  case round =>
    obtain ⟨i, hi, rfl, hown, hbel⟩ := hrel
    by_cases hlt : i < N
    · obtain ⟨g3, cap, rfl⟩ : ∃ g3 cap, v = .slice (some ⟨g3, 0, none⟩) N cap := by
        rcases hown.2 with ⟨-, h0⟩ | ⟨g3, cap, cur, rfl, -⟩
        · omega
        · exact ⟨g3, cap, rfl⟩
      have hup := HLN.out i (by omega)
      obtain ⟨x0, x1⟩ := own_cells hown (i := i) (by rw [hup]; exact hlt)
      rw [HAT.out i (by first | exact hlt | (rw [HN.out]; exact hlt))] at x0 x1
      have hnx := HNX.out i (by first | exact hlt | (rw [HN.out]; exact hlt))
      obtain ⟨q, hq⟩ : ∃ q, F.getD i tv0 = q := ⟨_, rfl⟩
      rw [hq] at x0 x1 hnx
      have HQ := run.hid hq
      clear hq
      obtain ⟨qt, qw⟩ := q
      dsimp only at x0 x1
      have hs1 := hbel.size
      have hb2 := run.below_one wr (.cells #[.string qt, .int .i64 (qw : Nat)] 73)
      have hown2 := hown.alloc (.cells #[.string qt, .int .i64 (qw : Nat)] 73)
      have hbel2 := hbel.trans (hb2.mono hs1)
      by_cases e : qt = nl
      · have hcmp : (qt.toList == [10]) = true := by rw [wrp.nl_eq]; simp [e]
        have hsq : shownE (qt, qw) = (sp, 1) := if_pos e
        rw [hsq] at hnx
        obtain ⟨y0, y1⟩ := own_cells hown2 (i := i) (by rw [hup]; exact hlt)
        have f0 := hown2.frozenAt (i * 2)
        have f1 := hown2.frozenAt (i * 2 + 1)
        have hst := ((hown2.stored (i * 2) (.string ⟨#[32]⟩)).1.stored (i * 2 + 1) (.int .i64 (1 : Nat))).1
        have hgb := run.grown_trans (hown2.stored (i * 2) (.string ⟨#[32]⟩)).2 ((hown2.stored (i * 2) (.string ⟨#[32]⟩)).1.stored (i * 2 + 1) (.int .i64 (1 : Nat))).2 (.inl rfl)
        have hg3 := (hown.lt g3 rfl).1
        have hbel3 := hbel2.grown hgb (by have := hbel2.size; omega) (fun q hq => by simp only [Option.some.injEq] at hq; omega)
        have hnx2 : cellsT (upTo F (i + 1)) = ((cellsT (upTo F i)).set (i * 2) (.string ⟨#[32]⟩)).set (i * 2 + 1) (.int .i64 (1 : Nat)) := by
          rw [hnx, cellsT_set _ _ _ (by rw [hup]; exact hlt)]
          rfl
        have HF := run.hid (And.intro hst hbel3)
        have HX := run.hid hnx2
        clear hnx hnx2 hst hgb hbel3 hsq HO HLN HAT HNX hown hown2 hbel hbel2 hb2 e hup
        go_wp2
        go_roundw
        case rel => exact ⟨i + 1, by omega, by go_num, by rw [HX.out]; exact HF.out.1, HF.out.2⟩
        case measure => simp [intOf]; omega
      · have hcmp : (qt.toList == [10]) = false := by
          cases hc : (qt.toList == [10]) with
          | false => rfl
          | true => rw [wrp.nl_eq] at hc; simp at hc; exact (e hc).elim
        have hsq : shownE (qt, qw) = (qt, qw) := if_neg e
        rw [hsq] at hnx
        have hnx2 : upTo F (i + 1) = upTo F i := by
          rw [hnx]
          apply List.ext_getElem?
          intro j
          rw [List.getElem?_set]
          by_cases ej : i = j
          · subst ej
            have hu := HAT.out i (by first | exact hlt | (rw [HN.out]; exact hlt))
            rw [if_pos rfl, if_pos (by rw [hup]; exact hlt), List.getElem?_eq_getElem (by rw [hup]; exact hlt)]
            rw [List.getD_eq_getElem?_getD, List.getElem?_eq_getElem (by rw [hup]; exact hlt)] at hu
            rw [HQ.out] at hu
            exact congrArg some hu.symm
          · rw [if_neg ej]
        have HF := run.hid (And.intro hown2 hbel2)
        have HX := run.hid hnx2
        clear hnx hnx2 hsq HO HLN HAT HNX hown hown2 hbel hbel2 hb2 e hup HQ
        go_wp2
        go_roundw
        case rel => exact ⟨i + 1, by omega, by go_num, by rw [HX.out]; exact HF.out.1, HF.out.2⟩
        case measure => simp [intOf]; omega
    · obtain rfl : i = N := by omega
      have HF := run.hid (And.intro hown hbel)
      clear HLN HAT HNX hown hbel
      go_wp2
      go_ret
      exact ⟨_, rfl, HF.out.1, HF.out.2⟩
end Go.Proofs.Ytgfjaegjkklcpaa.ed
