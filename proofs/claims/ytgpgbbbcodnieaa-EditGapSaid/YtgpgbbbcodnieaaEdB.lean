/-
  The editor: strings.Builder, text, line, New, an editor in memory, turn, Undo, Redo.
-/
import Derived.Test.YtgpgbbbcodnieaaEdA
import Derived.Test.YtgpgbbbcodnieaaProg
import Derived.Test.YtgpgbbbcodnieaaShelf
import Derived.Shelf.Strings.BuilderK
import Derived.Shelf.Abstract
import Derived.WalkSmall
import Derived.Deep.DeepCutAuto
import Derived.WalkKit
import Derived.Test.YtgpgbbbcodnieaaWrpFlow
import Derived.Test.YtgpgbbbcodnieaaEdGapC
import Derived.BigRegion
import Derived.BigQuiet
namespace Go.Proofs.Ytgpgbbbcodnieaa.ed
open Go Go.RowKit Go.Proofs Go.Shelf
set_option linter.unusedVariables false
theorem info_builder : (Try.prog.info? 80).map (fun i => (i.size)) = some 2 := by kernel_rfl
set_option maxRecDepth 100000 in
set_option maxHeartbeats 2000000 in
theorem check_used {b : Nat} {w : World} (h0 : w.cell? ⟨b, 0, none⟩ = some (.pointer (some ⟨b, 0, none⟩))) :
    Calls Try.prog 50 #[.pointer (some ⟨b, 0, none⟩)] w fun e w' => e = .returned (.tuple #[]) ∧ w' = w := by
  obtain ⟨j, hj, _⟩ := Option.map_eq_some_iff.1 info_builder
  go_enter Try.func50, Try.ntmps50
  go_wp2
  rw [Lib.run_neq_ptr_same w _ Try.underlying77 hj]
  go_wp2
  first | go_end0 | (refine bodyPost_ret (results_none rfl _ _ _) rfl ?_)
  exact ⟨rfl, rfl⟩
set_option maxRecDepth 100000 in
set_option maxHeartbeats 2000000 in
theorem check_new {b : Nat} {w : World} (h0 : w.cell? ⟨b, 0, none⟩ = some (.pointer none)) (hsh : w.shape? b = some (80, 2)) (hfz : w.frozen? ⟨b, 0, none⟩ = false) :
    Calls Try.prog 50 #[.pointer (some ⟨b, 0, none⟩)] w fun e w' => e = .returned (.tuple #[]) ∧ w' = w.setCell ⟨b, 0, none⟩ (.pointer (some ⟨b, 0, none⟩)) := by
  obtain ⟨j, hj, hjs⟩ := Option.map_eq_some_iff.1 info_builder
  go_enter Try.func50, Try.ntmps50
  go_wp2
  rw [Lib.run_to_unsafe w ⟨b, 0, none⟩ Try.underlying77 Try.underlying106 hj (by rw [hjs]; decide) hsh (Nat.zero_lt_succ 1)]
  simp only [Result.andThen]
  rw [Oper.upon_value]
  go_wp2
  rw [run_callFunc_extern Try.func57 (by kernel_rfl) (by kernel_rfl) (by kernel_rfl) (e := Extern.AbiNoEscape.same) (by kernel_rfl)]
  rw [Lib.run_noEscape]
  simp only [Result.andThen]
  rw [Oper.upon_value]
  go_wp2
  rw [Lib.run_from_unsafe w ⟨b, 0, none⟩ Try.underlying106 Try.underlying77 hj hsh (by kernel_rfl)]
  simp only [Result.andThen]
  rw [Oper.upon_value]
  go_wp2
  first | go_end0 | (refine bodyPost_ret (results_none rfl _ _ _) rfl ?_)
  exact ⟨rfl, rfl⟩
abbrev Built (B b : Nat) (l : List UInt8) (w : World) : Prop := Lib.IsBuilderF 80 5 B b (Lib.byteCells l) w
theorem built_new (w : World) (B : Nat) (hB : B ≤ w.heap.size) : Built B w.heap.size [] (w.alloc (.cells #[.pointer none, .slice none 0 0] 80)) :=
  Lib.IsBuilderF.of (.inl ⟨hB, .slice none 0 0, heap_alloc_new w _, World.ownsRow_nil _ _ _ _, by simp [Value.ownBlock]⟩)
theorem check_any {B b : Nat} {bs : List Value} {w : World} (h : Lib.IsBuilderF 80 5 B b bs w) :
    Calls Try.prog 50 #[.pointer (some ⟨b, 0, none⟩)] w fun e w' => e = .returned (.tuple #[]) ∧ Lib.BuilderAtF 80 5 B b (.pointer (some ⟨b, 0, none⟩)) bs w' ∧ Below B w w' ∧ Lib.OthersKept 5 (some b) w w' := by
  rcases h with h | h
  · refine (check_new h.cell0 h.shape h.frozen0).mono ?_
    rintro e w' ⟨rfl, rfl⟩
    exact ⟨rfl, h.used _, (Below.refl B w).setCell (p := ⟨b, 0, none⟩) h.1 _, (Lib.OthersKept.refl _ _ w).setCell ⟨b, 0, none⟩ rfl _⟩
  · refine (check_used h.cell0).mono ?_
    rintro e w' ⟨rfl, rfl⟩
    exact ⟨rfl, h, Below.refl B _, Lib.OthersKept.refl _ _ _⟩
theorem info_byte : (Try.prog.info? 5).map (fun i => (i.zero, i.size, i.bytes)) = some (some (.int .u8 0), 1, 1) := by kernel_rfl
set_option maxHeartbeats 2000000 in
set_option maxRecDepth 100000 in
theorem write_any {B b : Nat} {l : List UInt8} (s : ByteArray) {w : World} (h : Built B b l w) (hlen : l.length + s.size ≤ 140737488355328) (hBw : B ≤ w.heap.size) :
    Calls Try.prog 38 #[.pointer (some ⟨b, 0, none⟩), .string s] w fun e w' => e = .returned (.tuple #[.int .i64 s.size, .nilIface]) ∧ Built B b (l ++ s.data.toList) w' ∧ Below B w w' ∧ Lib.OthersKept 5 (some b) w w' := by
  obtain ⟨i0, hi, hz0, hz1, hz2⟩ := info_parts info_byte
  have hbl := Lib.byteCells_length l
  have hap : Lib.byteCells (l ++ s.data.toList) = Lib.byteCells l ++ Lib.strCells s := by rw [Lib.byteCells_append]; rfl
  unfold Built at *
  rw [hap]
  generalize Lib.byteCells l = bs at *
  have hlen2 : bs.length + s.size ≤ 140737488355328 := by omega
  have H1 := run.hid (check_any h)
  clear hap hbl hlen h
  go_enter Try.func38, Try.ntmps38
  go_wp2_with fail
  refine H1.out.mono ?_
  rintro e w1 ⟨rfl, h1, hb1, hk1⟩
  obtain ⟨hB, v, hbk, hown, hne⟩ := h1
  have c0 : w1.cell? ⟨b, 0, none⟩ = some (.pointer (some ⟨b, 0, none⟩)) := by rw [Lib.cell_of_heap hbk]; rfl
  have c1 : w1.cell? ⟨b, 1, none⟩ = some v := by rw [Lib.cell_of_heap hbk]; rfl
  clear H1
  go_wp2_with (at_builtin; refine Lib.wpList_append_own_stringF _ rfl _ _ 78 9 rfl B 5 i0 Try.underlying78 Try.underlying9 hi hz0 hz1 hz2 _ _ _ rfl hown s rfl ?c3 ?c4 ?c5 ?_)
  case c3 => unfold maxLen; omega
  case c4 => omega
  case c5 => have := hb1.size; omega
  intro v' w2 hown' hgrow _
  have hlt : b < w1.heap.size := by
    rcases Nat.lt_or_ge b w1.heap.size with h' | h'
    · exact h'
    · simp [Array.getElem?_eq_none h'] at hbk
  have hb2 : w2.heap[b]? = some (.cells #[.pointer (some ⟨b, 0, none⟩), v] 80 (0, 0)) := by
    rw [hgrow.block b hlt (fun e => hne e.symm)]
    exact hbk
  have d0 : w2.cell? ⟨b, 0, none⟩ = some (.pointer (some ⟨b, 0, none⟩)) := by rw [Lib.cell_of_heap hb2]; rfl
  have d1 : w2.cell? ⟨b, 1, none⟩ = some v := by rw [Lib.cell_of_heap hb2]; rfl
  have f1 : w2.frozen? ⟨b, 1, none⟩ = false := Lib.frozen_of_heap hb2 1
  obtain ⟨ao, n', cap, rfl⟩ : ∃ ao n' cap, v' = .slice ao n' cap := by
    rcases hown'.2 with ⟨hv, _⟩ | ⟨g, cap, cur, fz, hv, _⟩
    · exact ⟨_, _, _, hv⟩
    · exact ⟨_, _, _, hv⟩
  go_wp2
  go_ret2
  refine ⟨rfl, .inr ?_, ?_, (hk1.grown hgrow (Lib.ownsRowF_kind hown)).setCell ⟨b, 1, none⟩ rfl _⟩
  · exact Lib.BuilderAtF.put (T := 80) (e := 5) hB hb2 (bs' := bs ++ Lib.strCells s) (by simpa [Lib.strCells_length] using hown') (by decide)
  · exact (hb1.grown hgrow (by have := hb1.size; omega) (fun k hk => (hown.lt k hk).1)).setCell (p := ⟨b, 1, none⟩) hB _
theorem string_any {B b : Nat} {l : List UInt8} {w : World} (h : Built B b l w) (hB : B ≤ w.heap.size) :
    Calls Try.prog 37 #[.pointer (some ⟨b, 0, none⟩)] w fun e w' => e = .returned (.string ⟨l.toArray⟩) ∧ Built B b l w' ∧ Below B w w' :=
  (Try.Builder_String_any_k B b l w h hB).mono fun e w' ⟨he, h1, h2, _⟩ => ⟨he, h1, h2⟩
theorem builtAt_below {T e : TypeId} {B b : Nat} {p : Value} {bs : List Value} {W W' : World} (h : Lib.BuilderAtF T e B b p bs W) (hb : Below W.heap.size W W') : Lib.BuilderAtF T e B b p bs W' := by
  have hlt := h.lt
  obtain ⟨hB, v, hv, hown, hne⟩ := h
  refine ⟨hB, v, (hb.block b hlt).trans hv, ?_, hne⟩
  exact hown.kept (row := none) ⟨hb.os, hb.tape, hb.output, hb.size, fun k hk _ => hb.block k hk⟩ (Classical.em _)
theorem built_below {B b : Nat} {l : List UInt8} {W W' : World} (h : Built B b l W) (hb : Below W.heap.size W W') : Built B b l W' := by
  rcases h with h | h
  · exact .inl (builtAt_below h hb)
  · exact .inr (builtAt_below h hb)
end Go.Proofs.Ytgpgbbbcodnieaa.ed
namespace Go.Proofs.Ytgpgbbbcodnieaa.ed
open Go Go.RowKit Go.Proofs
set_option linter.unusedVariables false
/-- a cluster: its text, its width -/
abbrev TV := ByteArray × Nat
def tv0 : TV := (⟨#[]⟩, 0)
def cellsT (F : List TV) : List Value := F.flatMap fun q => [.string q.1, .int .i64 (q.2 : Nat)]
theorem cellsT_length (F : List TV) : (cellsT F).length = F.length * 2 := by
  induction F with
  | nil => rfl
  | cons q F ih => unfold cellsT at *; rw [List.flatMap_cons, List.length_append, ih, List.length_cons]; simp; omega
theorem cellsT_one (F : List TV) : ∀ v ∈ cellsT F, v.oneCell' = true := by
  intro v hv
  unfold cellsT at hv
  rw [List.mem_flatMap] at hv
  obtain ⟨q, -, hq⟩ := hv
  simp only [List.mem_cons, List.not_mem_nil, or_false] at hq
  rcases hq with rfl | rfl <;> rfl
theorem cellsT_at : ∀ (F : List TV) (i : Nat), i < F.length → (cellsT F)[i * 2]? = some (.string (F.getD i tv0).1) ∧ (cellsT F)[i * 2 + 1]? = some (.int .i64 ((F.getD i tv0).2 : Nat))
  | q :: F, 0, _ => ⟨rfl, rfl⟩
  | q :: F, i + 1, h => by
    have ih := cellsT_at F i (by simpa using h)
    have e : cellsT (q :: F) = [.string q.1, .int .i64 (q.2 : Nat)] ++ cellsT F := rfl
    rw [e, List.getElem?_append_right (by simp; omega), List.getElem?_append_right (by simp; omega)]
    rw [show (i + 1) * 2 - [Value.string q.1, .int .i64 (q.2 : Nat)].length = i * 2 by simp; omega, show (i + 1) * 2 + 1 - [Value.string q.1, .int .i64 (q.2 : Nat)].length = i * 2 + 1 by simp; omega]
    simpa using ih
/-- the bytes of clusters -/
def textL (F : List TV) : List UInt8 := F.flatMap fun q => q.1.data.toList
theorem textL_snoc {F : List TV} {i : Nat} (h : i < F.length) : textL (F.take (i + 1)) = textL (F.take i) ++ (F.getD i tv0).1.data.toList := by
  unfold textL
  rw [List.take_succ_eq_append_getElem h, List.flatMap_append]
  simp [List.getD_eq_getElem?_getD, h]
theorem textL_le (F : List TV) (i : Nat) : (textL (F.take i)).length ≤ (textL F).length := by
  have h : textL F = textL (F.take i) ++ textL (F.drop i) := by unfold textL; rw [← List.flatMap_append, List.take_append_drop]
  rw [h, List.length_append]; omega
set_option maxRecDepth 100000 in
set_option maxHeartbeats 4000000 in
theorem text_any (a : Option Addr) (c : Nat) (F : List TV) (w : World) (hS : Src 2 w a F.length c (cellsT F)) (hN : (textL F).length ≤ 1099511627776) (hF : F.length ≤ 1099511627776) :
    Calls Try.prog 39 #[.slice a F.length c] w fun e w' => e = .returned (.string ⟨(textL F).toArray⟩) ∧ Below w.heap.size w w' := by
  obtain ⟨it, hinf, -, hsz, -⟩ := info_parts (show (Try.prog.info? 74).map (fun i => (i.zero, i.size, i.bytes)) = some (some (.agg #[.string ⟨#[]⟩, .int .i64 0]), 2, 24) from by kernel_rfl)
  have HAT := run.hid (fun i (hi : i < F.length) => show ∃ b off, a = some ⟨b, off, none⟩ ∧ b < w.heap.size ∧ w.cell? ⟨b, off + i * 2, none⟩ = some (.string (F.getD i tv0).1) ∧ w.cell? ⟨b, off + i * 2 + 1, none⟩ = some (.int .i64 ((F.getD i tv0).2 : Nat)) from by
    rcases hS.at' with ⟨-, h0, -⟩ | ⟨b, off, e, hlt, hc⟩
    · omega
    · obtain ⟨h1, h2⟩ := cellsT_at F i hi
      exact ⟨b, off, e, hlt, hc _ _ h1, hc _ _ h2⟩)
  have HSN := run.hid (fun i (hi : i < F.length) => @textL_snoc F i hi)
  have HLE := run.hid (fun i => textL_le F i)
  have HAL := run.hid (show textL (F.take F.length) = textL F by rw [List.take_of_length_le (Nat.le_refl _)])
  obtain ⟨L, hL⟩ : ∃ L, L = textL F := ⟨_, rfl⟩
  rw [← hL] at hN HAL HLE ⊢
  have hb0 := run.below_one w (.cells #[.pointer none, .slice none 0 0] 80)
  have HB0 := run.hid (And.intro (built_new w w.heap.size (Nat.le_refl _)) hb0)
  clear hS hL hb0
  generalize hNN : F.length = N at *
  clear hNN
  go_enter Try.func39, Try.ntmps39
  go_upto_region 2 with fail
  generalize w.alloc (.cells #[.pointer none, .slice none 0 0] 80) = w1 at *
  go_wp2
  go_loopw [8] (fun vi wr => ∃ i : Nat, i ≤ N ∧ vi = .int .i64 i ∧ Built w.heap.size w.heap.size (textL (F.take i)) wr ∧ Below w.heap.size w wr) (fun vi _ => ((N : Int) - intOf vi).toNat)
  case atStart => exact ⟨0, Nat.zero_le _, rfl, HB0.out.1, HB0.out.2⟩
  case round =>
    obtain ⟨i, hi, rfl, hbu, hbel⟩ := hrel
    by_cases hlt : i < N
    · obtain ⟨b, off, rfl, hb, h0, h1⟩ := HAT.out i hlt
      have x0 := (hbel.cell (p := ⟨b, off + i * 2, none⟩) hb).trans h0
      have x1 := (hbel.cell (p := ⟨b, off + i * 2 + 1, none⟩) hb).trans h1
      have hsn := HSN.out i hlt
      have hle := HLE.out (i + 1)
      rw [hsn, List.length_append] at hle
      generalize F.getD i tv0 = q at *
      obtain ⟨qt, qw⟩ := q
      dsimp only at x0 x1 hsn hle
      have hqs : qt.data.toList.length = qt.size := rfl
      have hs := hbel.size
      have hb2 := run.below_one wr (.cells #[.string qt, .int .i64 (qw : Nat)] 74)
      have HWR := run.hid (write_any qt (built_below hbu hb2) (by omega) (by rw [World.size_alloc]; omega))
      have HBL := run.hid (hbel.trans (hb2.mono hs))
      have HS := run.hid hsn
      clear HAT HSN HLE HAL HB0 h0 h1 hbu hbel hb2 hsn hle hqs
      go_wp2_with fail
      refine HWR.out.mono ?_
      rintro e w5 ⟨rfl, hbu, hbw, -⟩
      have HF := run.hid (And.intro hbu (HBL.out.trans hbw))
      clear HWR HBL hbu hbw x0 x1
      go_wp2
      go_roundw
      case rel => exact ⟨i + 1, by omega, by go_num, by rw [HS.out]; exact HF.out.1, HF.out.2⟩
      case measure => simp [intOf]; omega
    · obtain rfl : i = N := by omega
      have HST := run.hid (string_any hbu hbel.size)
      rw [HAL.out] at HST
      have HBL := run.hid hbel
      clear HAT HSN HLE HAL HB0 hbu hbel
      go_wp2_with fail
      refine HST.out.mono ?_
      rintro e w5 ⟨rfl, -, hbw⟩
      have HF := run.hid (HBL.out.trans hbw)
      go_wp2
      go_ret
      exact ⟨rfl, HF.out⟩
end Go.Proofs.Ytgpgbbbcodnieaa.ed
namespace Go.Proofs.Ytgpgbbbcodnieaa.ed
open Go Go.RowKit Go.Proofs
open Go.Proofs.Ytgpgbbbcodnieaa.wrp (flow flow_any flow_len nl sp)
set_option linter.unusedVariables false
def shownE (q : TV) : TV := if q.1 = nl then (sp, 1) else q
/-- the clusters of the line that a text makes -/
def lineT (s : ByteArray) : List TV := (flow s).map shownE
theorem cellsT_eq (F : List TV) : cellsT F = clu.cells2 F := rfl
theorem lineT_len (s : ByteArray) : (lineT s).length = (flow s).length := by unfold lineT; simp
/-- up to i they are shown as they should be -/
def upTo (F : List TV) (i : Nat) : List TV := (F.take i).map shownE ++ F.drop i
theorem upTo_len (F : List TV) (i : Nat) (h : i ≤ F.length) : (upTo F i).length = F.length := by unfold upTo; simp; omega
theorem upTo_zero (F : List TV) : upTo F 0 = F := by unfold upTo; simp
theorem upTo_all (F : List TV) : upTo F F.length = F.map shownE := by unfold upTo; simp
theorem upTo_at {F : List TV} {i : Nat} (h : i < F.length) : (upTo F i).getD i tv0 = F.getD i tv0 := by
  unfold upTo
  simp only [List.getD_eq_getElem?_getD]
  rw [List.getElem?_append_right (by simp; omega)]
  simp [Nat.min_eq_left (Nat.le_of_lt h)]
theorem upTo_next {F : List TV} {i : Nat} (h : i < F.length) : upTo F (i + 1) = (upTo F i).set i (shownE (F.getD i tv0)) := by
  apply List.ext_getElem?
  intro j
  rw [List.getElem?_set, upTo_len F i (by omega)]
  unfold upTo
  by_cases e : i = j
  · subst e
    rw [if_pos rfl, if_pos h, List.getElem?_append_left (by simp; omega), List.getElem?_map, List.getElem?_take_of_lt (by omega)]
    simp [List.getD_eq_getElem?_getD, h]
  · rw [if_neg e]
    by_cases hj : j < i
    · rw [List.getElem?_append_left (by simp; omega), List.getElem?_append_left (by simp; omega), List.getElem?_map, List.getElem?_map, List.getElem?_take_of_lt (by omega), List.getElem?_take_of_lt hj]
    · rw [List.getElem?_append_right (by simp; omega), List.getElem?_append_right (by simp; omega), List.getElem?_drop, List.getElem?_drop]
      congr 1
      simp
      omega
theorem cellsT_set : ∀ (F : List TV) (i : Nat) (q : TV), i < F.length → cellsT (F.set i q) = ((cellsT F).set (i * 2) (.string q.1)).set (i * 2 + 1) (.int .i64 (q.2 : Nat))
  | p :: F, 0, q, _ => rfl
  | p :: F, i + 1, q, h => by
    have ih := cellsT_set F i q (by simpa using h)
    have e1 : cellsT ((p :: F).set (i + 1) q) = .string p.1 :: .int .i64 (p.2 : Nat) :: cellsT (F.set i q) := rfl
    have e2 : cellsT (p :: F) = .string p.1 :: .int .i64 (p.2 : Nat) :: cellsT F := rfl
    rw [e1, e2, ih, show (i + 1) * 2 = i * 2 + 1 + 1 by omega]
    rfl
theorem own_cells {X : World} {B g n cap : Nat} {F : List TV} (h : X.ownsRow B 74 2 (.slice (some ⟨g, 0, none⟩) n cap) n (cellsT F)) {i : Nat} (hi : i < F.length) : X.cell? ⟨g, i * 2, none⟩ = some (.string (F.getD i tv0).1) ∧ X.cell? ⟨g, i * 2 + 1, none⟩ = some (.int .i64 ((F.getD i tv0).2 : Nat)) := by
  obtain ⟨h1, h2⟩ := cellsT_at F i hi
  obtain ⟨-, a, c, e, hc, -⟩ := run.readsN_own h
  simp only [Value.slice.injEq] at e
  obtain ⟨rfl, -, -⟩ := e
  obtain ⟨b, off, e, -, hr⟩ := hc (by intro h0; rw [h0] at h1; simp at h1)
  simp only [Option.some.injEq, Addr.mk.injEq] at e
  obtain ⟨rfl, rfl, -⟩ := e
  have a1 := hr _ _ h1
  have a2 := hr _ _ h2
  rw [Nat.zero_add] at a1 a2
  exact ⟨a1, a2⟩
set_option maxRecDepth 100000 in
set_option maxHeartbeats 4000000 in
theorem line_any (s : ByteArray) (w : World) (hs : s.size ≤ 68719476736) :
    Calls Try.prog 44 #[.string s] w fun e w' => ∃ v, e = .returned v ∧ w'.ownsRow w.heap.size 74 2 v (lineT s).length (cellsT (lineT s)) ∧ Below w.heap.size w w' := by
  obtain ⟨it, hinf, -, hsz, -⟩ := info_parts (show (Try.prog.info? 74).map (fun i => (i.zero, i.size, i.bytes)) = some (some (.agg #[.string ⟨#[]⟩, .int .i64 0]), 2, 24) from by kernel_rfl)
  have HFL := run.hid (flow_any s w hs)
  have hlen := flow_len s
  have hll := lineT_len s
  rw [hll]
  unfold lineT
  generalize flow s = F at *
  have HAL := run.hid (upTo_all F)
  rw [← HAL.out]
  have HZ := run.hid (upTo_zero F)
  have HLN := run.hid (fun i hi => upTo_len F i hi)
  have HAT := run.hid (fun i (hi : i < F.length) => @upTo_at F i hi)
  have HNX := run.hid (fun i (hi : i < F.length) => @upTo_next F i hi)
  have hNb : F.length ≤ 274877906944 := by omega
  clear hlen hll
  generalize hN : F.length = N at *
  have HN := run.hid hN
  clear hN
  go_enter Try.func44, Try.ntmps44
  go_wp2_with fail
  refine HFL.out.mono ?_
  rintro e w1 ⟨v, rfl, hown, hb1⟩
  change w1.ownsRow _ _ _ _ _ (cellsT F) at hown
  rw [← HZ.out] at hown
  have HO := run.hid hown
  have hlen0 := fun (X : World) => (show (Builtin.len_ #[86] 3 #[v]).run Try.prog X = .ok (.int .i64 (N : Nat)) X from by
    obtain ⟨a, c, rfl⟩ := run.own_value hown
    simp [go_sem, Builtin.len_])
  clear HFL hown HZ
  go_wp2
  go_loopw [10] (fun vi wr => ∃ i : Nat, i ≤ N ∧ vi = .int .i64 i ∧ wr.ownsRow w.heap.size 74 2 v N (cellsT (upTo F i)) ∧ Below w.heap.size w wr) (fun vi _ => ((N : Int) - intOf vi).toNat)
  case atStart => exact ⟨0, Nat.zero_le _, rfl, HO.out, hb1⟩
  case round =>
    obtain ⟨i, hi, rfl, hown, hbel⟩ := hrel
    by_cases hlt : i < N
    · obtain ⟨g3, cap, rfl⟩ : ∃ g3 cap, v = .slice (some ⟨g3, 0, none⟩) N cap := by
        rcases hown.2 with ⟨-, h0⟩ | ⟨g3, cap, cur, rfl, -⟩
        · omega
        · exact ⟨g3, cap, rfl⟩
      have hup := HLN.out i (by omega)
      obtain ⟨x0, x1⟩ := own_cells hown (i := i) (by rw [hup]; exact hlt)
      rw [HAT.out i (by first | exact hlt | (rw [HN.out]; exact hlt))] at x0 x1
      have hnx := HNX.out i (by first | exact hlt | (rw [HN.out]; exact hlt))
      obtain ⟨q, hq⟩ : ∃ q, F.getD i tv0 = q := ⟨_, rfl⟩
      rw [hq] at x0 x1 hnx
      have HQ := run.hid hq
      clear hq
      obtain ⟨qt, qw⟩ := q
      dsimp only at x0 x1
      have hs1 := hbel.size
      have hb2 := run.below_one wr (.cells #[.string qt, .int .i64 (qw : Nat)] 74)
      have hown2 := hown.alloc (.cells #[.string qt, .int .i64 (qw : Nat)] 74)
      have hbel2 := hbel.trans (hb2.mono hs1)
      by_cases e : qt = nl
      · have hcmp : (qt.toList == [10]) = true := by rw [wrp.nl_eq]; simp [e]
        have hsq : shownE (qt, qw) = (sp, 1) := if_pos e
        rw [hsq] at hnx
        obtain ⟨y0, y1⟩ := own_cells hown2 (i := i) (by rw [hup]; exact hlt)
        have f0 := hown2.frozenAt (i * 2)
        have f1 := hown2.frozenAt (i * 2 + 1)
        have hst := ((hown2.stored (i * 2) (.string ⟨#[32]⟩)).1.stored (i * 2 + 1) (.int .i64 (1 : Nat))).1
        have hgb := run.grown_trans (hown2.stored (i * 2) (.string ⟨#[32]⟩)).2 ((hown2.stored (i * 2) (.string ⟨#[32]⟩)).1.stored (i * 2 + 1) (.int .i64 (1 : Nat))).2 (.inl rfl)
        have hg3 := (hown.lt g3 rfl).1
        have hbel3 := hbel2.grown hgb (by have := hbel2.size; omega) (fun q hq => by simp only [Option.some.injEq] at hq; omega)
        have hnx2 : cellsT (upTo F (i + 1)) = ((cellsT (upTo F i)).set (i * 2) (.string ⟨#[32]⟩)).set (i * 2 + 1) (.int .i64 (1 : Nat)) := by
          rw [hnx, cellsT_set _ _ _ (by rw [hup]; exact hlt)]
          rfl
        have HF := run.hid (And.intro hst hbel3)
        have HX := run.hid hnx2
        clear hnx hnx2 hst hgb hbel3 hsq HO HLN HAT HNX hown hown2 hbel hbel2 hb2 e hup
        go_wp2
        go_roundw
        case rel => exact ⟨i + 1, by omega, by go_num, by rw [HX.out]; exact HF.out.1, HF.out.2⟩
        case measure => simp [intOf]; omega
      · have hcmp : (qt.toList == [10]) = false := by
          cases hc : (qt.toList == [10]) with
          | false => rfl
          | true => rw [wrp.nl_eq] at hc; simp at hc; exact (e hc).elim
        have hsq : shownE (qt, qw) = (qt, qw) := if_neg e
        rw [hsq] at hnx
        have hnx2 : upTo F (i + 1) = upTo F i := by
          rw [hnx]
          apply List.ext_getElem?
          intro j
          rw [List.getElem?_set]
          by_cases ej : i = j
          · subst ej
            have hu := HAT.out i (by first | exact hlt | (rw [HN.out]; exact hlt))
            rw [if_pos rfl, if_pos (by rw [hup]; exact hlt), List.getElem?_eq_getElem (by rw [hup]; exact hlt)]
            rw [List.getD_eq_getElem?_getD, List.getElem?_eq_getElem (by rw [hup]; exact hlt)] at hu
            rw [HQ.out] at hu
            exact congrArg some hu.symm
          · rw [if_neg ej]
        have HF := run.hid (And.intro hown2 hbel2)
        have HX := run.hid hnx2
        clear hnx hnx2 hsq HO HLN HAT HNX hown hown2 hbel hbel2 hb2 e hup HQ
        go_wp2
        go_roundw
        case rel => exact ⟨i + 1, by omega, by go_num, by rw [HX.out]; exact HF.out.1, HF.out.2⟩
        case measure => simp [intOf]; omega
    · obtain rfl : i = N := by omega
      have HF := run.hid (And.intro hown hbel)
      clear HLN HAT HNX hown hbel
      go_wp2
      go_ret
      exact ⟨_, rfl, HF.out.1, HF.out.2⟩
end Go.Proofs.Ytgpgbbbcodnieaa.ed
namespace Go.Proofs.Ytgpgbbbcodnieaa.ed
open Go Go.RowKit Go.Proofs
set_option linter.unusedVariables false
/-- clusters, as many as the bytes of a text may be -/
def cutL : List TV → Nat → List TV
  | [], _ => []
  | q :: F, n => if 65536 < n + q.1.size then [] else q :: cutL F (n + q.1.size)
def newT (s : ByteArray) : List TV := cutL (lineT s) 0
def sizeL (F : List TV) : Nat := (textL F).length
theorem sizeL_snoc {F : List TV} {i : Nat} (h : i < F.length) : sizeL (F.take (i + 1)) = sizeL (F.take i) + (F.getD i tv0).1.size := by
  unfold sizeL
  rw [textL_snoc h, List.length_append]
  rfl
theorem cutL_at : ∀ (F : List TV) (n i : Nat), i ≤ F.length → (∀ j, j ≤ i → n + sizeL (F.take j) ≤ 65536) → (i = F.length ∨ 65536 < n + sizeL (F.take (i + 1))) → cutL F n = F.take i
  | [], n, i, hi, _, _ => by simp [cutL]
  | q :: F, n, 0, _, _, h => by
    rcases h with h | h
    · simp at h
    · have : sizeL ((q :: F).take 1) = q.1.size := by unfold sizeL textL; simp
      rw [this] at h
      unfold cutL
      rw [if_pos h]
      rfl
  | q :: F, n, i + 1, hi, hle, h => by
    have hs : ∀ j, sizeL ((q :: F).take (j + 1)) = q.1.size + sizeL (F.take j) := fun j => by
      unfold sizeL textL
      rw [List.take_succ_cons, List.flatMap_cons, List.length_append]
      rfl
    have h1 := hle 1 (by omega)
    have e1 : sizeL ((q :: F).take 1) = q.1.size := by unfold sizeL textL; simp
    rw [e1] at h1
    unfold cutL
    rw [if_neg (by omega), cutL_at F (n + q.1.size) i (by simpa using hi) (fun j hj => by have := hle (j + 1) (by omega); rw [hs] at this; omega) (by
      rcases h with h | h
      · left; simpa using h
      · right; rw [hs] at h; omega)]
    rfl
theorem cellsT_take (F : List TV) : ∀ i, i ≤ F.length → (cellsT F).take (i * 2) = cellsT (F.take i) := by
  intro i hi
  have e : cellsT F = cellsT (F.take i) ++ cellsT (F.drop i) := by
    conv => lhs; rw [← List.take_append_drop i F]
    unfold cellsT
    rw [List.flatMap_append]
  rw [e, List.take_append_of_le_length (by rw [cellsT_length, List.length_take]; omega), List.take_of_length_le (by rw [cellsT_length, List.length_take]; omega)]
/-- a stretch of an owned row, read -/
theorem src_own {X : World} {B n : Nat} {a : Option Addr} {cap : Nat} {F : List TV} (h : X.ownsRow B 74 2 (.slice a n cap) n (cellsT F)) (hn : F.length = n) {i : Nat} (hi : i ≤ n) : Src 2 X a i cap (cellsT (F.take i)) := by
  obtain ⟨-, a', c', e, hc, h0⟩ := run.readsN_own h
  simp only [Value.slice.injEq, true_and] at e
  obtain ⟨rfl, rfl⟩ := e
  refine ⟨by rw [cellsT_length, List.length_take]; congr 1; omega, cellsT_one _, ?_⟩
  cases a with
  | none =>
    left
    have hcap := h0 rfl
    rcases h.2 with ⟨e, h1⟩ | ⟨g, c, cur, e, -⟩
    · exact ⟨rfl, by omega, hcap⟩
    · cases e
  | some ad =>
    right
    obtain ⟨b, off, spot⟩ := ad
    by_cases hne : cellsT F = []
    · have hF : n = 0 := by have := cellsT_length F; rw [hne] at this; simp at this; omega
      rcases h.2 with ⟨e, h1⟩ | ⟨g, c, cur, e, h2, h3, -⟩
      · cases e
      · simp only [Value.slice.injEq, Option.some.injEq] at e
        obtain ⟨e, -, -⟩ := e
        refine ⟨g, 0, by rw [e], (Array.getElem?_eq_some_iff.1 h3).1, fun j v hj => ?_⟩
        have : F.take i = [] := List.length_eq_zero_iff.1 (by rw [List.length_take]; omega)
        rw [this] at hj
        simp [cellsT] at hj
    · obtain ⟨b', off', e, hlt, hr⟩ := hc hne
      refine ⟨b', off', e, hlt, fun j v hj => hr j v ?_⟩
      rw [← cellsT_take F i (by omega), List.getElem?_take] at hj
      split at hj
      · exact hj
      · cases hj
theorem flow_size {s : ByteArray} {q : TV} (h : q ∈ Go.Proofs.Ytgpgbbbcodnieaa.wrp.flow s) : q.1.size ≤ 64 := by
  have h1 : q ∈ clu.told (Go.Proofs.Ytgpgbbbcodnieaa.wrp.flowText s) := by
    unfold Go.Proofs.Ytgpgbbbcodnieaa.wrp.flow Go.Proofs.Ytgpgbbbcodnieaa.wrp.kept2 at h
    rw [List.mem_filter] at h
    exact h.1
  unfold clu.told clu.seen at h1
  rw [List.mem_map] at h1
  obtain ⟨p, hp, rfl⟩ := h1
  have h2 := (clu.cl_piece _ _ (Nat.le_refl _) p hp).2.1
  have h3 := (utf.text_length p).2
  show (utf.str (utf.text p)).size ≤ 64
  rw [utf.str_size]
  omega
theorem line_size {s : ByteArray} {i : Nat} (hi : i < (lineT s).length) : ((lineT s).getD i tv0).1.size ≤ 64 := by
  have hm : (lineT s).getD i tv0 ∈ lineT s := by
    rw [List.getD_eq_getElem?_getD, List.getElem?_eq_getElem hi]
    exact List.getElem_mem _
  unfold lineT at hm
  rw [List.mem_map] at hm
  obtain ⟨q, hq, he⟩ := hm
  have h1 := flow_size hq
  have e : (lineT s).getD i tv0 = shownE q := he.symm
  rw [e]
  unfold shownE
  split
  · decide
  · exact h1
/-- what New hands back -/
def NewIs (s : ByteArray) (w : World) (e : Ending) (w' : World) : Prop :=
  ∃ b g lb cap A, e = .returned (.pointer (some ⟨b, 0, none⟩)) ∧ w'.heap[b]? = some (.cells #[.pointer (some ⟨g, 0, none⟩), .int .i64 ((newT s).length : Nat), .int .i64 (-1), .slice none 0 0, .int .i64 0] 72 (0, 0)) ∧ edC.G g lb (newT s).length cap (newT s).length (newT s).length A w' ∧ HasC ((newT s).length * 2) ((newT s).length * 2) ((newT s).length * 2) A (cellsT (newT s)) ∧ w.heap.size ≤ g ∧ w.heap.size ≤ lb ∧ g < b ∧ lb < b ∧ Below w.heap.size w w'
set_option maxRecDepth 100000 in
set_option maxHeartbeats 8000000 in
theorem new_any (s : ByteArray) (w : World) (hs : s.size ≤ 68719476736) : Calls Try.prog 25 #[.string s] w (NewIs s w) := by
  obtain ⟨it, hinf, -, hsz, -⟩ := info_parts edC.info
  have HLI := run.hid (line_any s w hs)
  have hlen := Go.Proofs.Ytgpgbbbcodnieaa.wrp.flow_len s
  have hll := lineT_len s
  have HC := run.hid (fun i => cutL_at (lineT s) 0 i)
  have HIS := run.hid (show ∀ e w', NewIs s w e w' ↔ ∃ b g lb cap A, e = .returned (.pointer (some ⟨b, 0, none⟩)) ∧ w'.heap[b]? = some (.cells #[.pointer (some ⟨g, 0, none⟩), .int .i64 ((cutL (lineT s) 0).length : Nat), .int .i64 (-1), .slice none 0 0, .int .i64 0] 72 (0, 0)) ∧ edC.G g lb (cutL (lineT s) 0).length cap (cutL (lineT s) 0).length (cutL (lineT s) 0).length A w' ∧ HasC ((cutL (lineT s) 0).length * 2) ((cutL (lineT s) 0).length * 2) ((cutL (lineT s) 0).length * 2) A (cellsT (cutL (lineT s) 0)) ∧ w.heap.size ≤ g ∧ w.heap.size ≤ lb ∧ g < b ∧ lb < b ∧ Below w.heap.size w w' from fun _ _ => Iff.rfl)
  have HSZ := run.hid (fun i (hi : i < (lineT s).length) => @line_size s i hi)
  generalize NewIs s w = POST at *
  generalize lineT s = F at *
  have hNb : F.length ≤ 274877906944 := by omega
  clear hlen hll
  have HAT := run.hid (fun i (hi : i < F.length) => @sizeL_snoc F i hi)
  generalize hN : F.length = N at *
  have HN := run.hid hN
  clear hN
  go_enter Try.func25, Try.ntmps25
  go_wp2_with fail
  refine HLI.out.mono ?_
  rintro e w1 ⟨v, rfl, hown, hb1⟩
  obtain ⟨a, cap, rfl⟩ := run.own_value hown
  have HOW := run.hid hown
  have hcapN : N ≤ cap := by
    rcases hown.2 with ⟨e, h0⟩ | ⟨g, c, cur, e, -, -, h1, -⟩
    · omega
    · simp only [Value.slice.injEq] at e
      omega
  clear HLI hown
  go_upto_region 3 with fail
  go_wp2
  go_loopw [11, 4, 3] (fun vi vn vl wr => ∃ i n : Nat, i ≤ N ∧ vi = .int .i64 i ∧ vn = .int .i64 n ∧ vl = .slice a N cap ∧ n ≤ 65536 ∧ n = sizeL (F.take i) ∧ Hid (∀ j, j ≤ i → 0 + sizeL (F.take j) ≤ 65536) ∧ Below w.heap.size w wr ∧ Below w1.heap.size w1 wr) (fun vi _ _ _ => ((N : Int) - intOf vi).toNat)
  case atStart => exact ⟨0, 0, Nat.zero_le _, rfl, rfl, rfl, by omega, rfl, run.hid (fun j hj => by have h0 : j = 0 := (by omega); subst h0; show 0 + 0 ≤ 65536; omega), hb1, Below.refl _ _⟩
  case round =>
    obtain ⟨i, n, hi, rfl, rfl, rfl, hn, hnn, HJ, hbel, hbel1⟩ := hrel
    by_cases hlt : i < N
    · have hown := run.own_below HOW.out hbel1
      obtain ⟨g3, rfl⟩ : ∃ g3, a = some ⟨g3, 0, none⟩ := by
        rcases hown.2 with ⟨e, h0⟩ | ⟨g3, c, cur, e, -⟩
        · omega
        · simp only [Value.slice.injEq] at e
          exact ⟨g3, e.1⟩
      obtain ⟨x0, x1⟩ := own_cells hown (i := i) (by rw [HN.out]; exact hlt)
      have hsn := HAT.out i hlt
      have hsz1 := HSZ.out i hlt
      rw [← hnn] at hsn
      generalize F.getD i tv0 = q at *
      obtain ⟨qt, qw⟩ := q
      dsimp only at x0 x1 hsn hsz1
      have hb2 := run.below_one wr (.cells #[.string qt, .int .i64 (qw : Nat)] 74)
      have hB1 := hbel.trans (hb2.mono hbel.size)
      have hB2 := hbel1.trans (hb2.mono hbel1.size)
      have hqb : qt.size ≤ 64 := hsz1
      by_cases hbig : 65536 < n + qt.size
      · have hbig2 : (65536 : Int) < (n : Int) + (qt.size : Int) := by omega
        have hic : (i : Int) ≤ (cap : Int) := by omega
        have hcut : cutL F 0 = F.take i := HC.out i hi HJ.out (.inr (by rw [hsn]; omega))
        have hlk : (F.take i).length = i := by rw [List.length_take, HN.out]; omega
        have his := HIS.out
        rw [hcut, hlk] at his
        have HISk := run.hid his
        have HNG := run.hid (edC.new_any (w := (wr.alloc (.cells #[.string qt, .int .i64 (qw : Nat)] 74))) (some ⟨g3, 0, none⟩) i cap (cellsT (F.take i)) (src_own (run.own_below HOW.out hB2) HN.out hi) (by omega))
        have HBL := run.hid (hB1)
        clear hcut hlk his HIS HC HOW HAT HJ hown hsn hnn hb2 hB1 hB2 hbel hbel1
        go_wp2_with fail
        refine HNG.out.mono ?_
        rintro e w5 ⟨g, lb, cap2, A, rfl, hG, hH, hg1, hg2, hb5⟩
        have hgl := (Array.getElem?_eq_some_iff.1 hG.hg).1
        have hll := (Array.getElem?_eq_some_iff.1 hG.hl).1
        have hB5 := HBL.out.trans (hb5.mono HBL.out.size)
        have hs5 := hB5.size
        have hsb := HBL.out.size
        have hG6 := hG.kept (S := fun _ => False) ((Kept.refl _ w5).alloc (.cells #[.pointer (some ⟨g, 0, none⟩), .int .i64 (i : Nat), .int .i64 (-1), .slice none 0 0, .int .i64 0] 72)) (fun h => h) (fun h => h)
        have hfin := (HISk.out (.returned (.pointer (some ⟨w5.heap.size, 0, none⟩))) (w5.alloc (.cells #[.pointer (some ⟨g, 0, none⟩), .int .i64 (i : Nat), .int .i64 (-1), .slice none 0 0, .int .i64 0] 72))).2 ⟨w5.heap.size, g, lb, cap2, A, rfl, heap_alloc_new _ _, hG6, hH, by omega, by omega, hgl, hll, hB5.alloc hs5 _⟩
        have HFIN := run.hid hfin
        clear hG hH hG6 hfin HISk hB5 hb5
        go_wp2
        first | exact HFIN.out | exact bodyPost_ret (v := _) rfl rfl HFIN.out | exact ⟨rfl, _, rfl, HFIN.out⟩
      · have hbig2 : ¬ (65536 : Int) < (n : Int) + (qt.size : Int) := by omega
        have HF := run.hid (And.intro hB1 hB2)
        have HJ2 := run.hid (show ∀ j, j ≤ i + 1 → 0 + sizeL (F.take j) ≤ 65536 from fun j hj => by
          rcases Nat.lt_or_ge i j with h | h
          · have e : j = i + 1 := by omega
            subst e
            rw [hsn]
            omega
          · exact HJ.out j h)
        have HSN := run.hid hsn
        clear hown hsn hnn HJ hb2 hB1 hB2 hbel hbel1 HC HAT HIS HOW
        go_wp2
        go_roundw
        case rel => exact ⟨i + 1, n + qt.size, by omega, by go_num, by go_num, rfl, by omega, HSN.out.symm, HJ2, HF.out.1, HF.out.2⟩
        case measure => simp [intOf]; omega
    · obtain rfl : i = N := by omega
      have hcut : cutL F 0 = F.take i := HC.out i (Nat.le_refl _) HJ.out (.inl rfl)
      have hlk : (F.take i).length = i := by rw [List.length_take, HN.out]; omega
      have his := HIS.out
      rw [hcut, hlk] at his
      have HISk := run.hid his
      have HNG := run.hid (edC.new_any (w := wr) a i cap (cellsT (F.take i)) (src_own (run.own_below HOW.out hbel1) HN.out (Nat.le_refl _)) (by omega))
      have HBL := run.hid (hbel)
      clear hcut hlk his HIS HC HOW HAT HJ hbel hbel1
      go_wp2_with fail
      refine HNG.out.mono ?_
      rintro e w5 ⟨g, lb, cap2, A, rfl, hG, hH, hg1, hg2, hb5⟩
      have hgl := (Array.getElem?_eq_some_iff.1 hG.hg).1
      have hll := (Array.getElem?_eq_some_iff.1 hG.hl).1
      have hB5 := HBL.out.trans (hb5.mono HBL.out.size)
      have hs5 := hB5.size
      have hsb := HBL.out.size
      have hG6 := hG.kept (S := fun _ => False) ((Kept.refl _ w5).alloc (.cells #[.pointer (some ⟨g, 0, none⟩), .int .i64 (i : Nat), .int .i64 (-1), .slice none 0 0, .int .i64 0] 72)) (fun h => h) (fun h => h)
      have hfin := (HISk.out (.returned (.pointer (some ⟨w5.heap.size, 0, none⟩))) (w5.alloc (.cells #[.pointer (some ⟨g, 0, none⟩), .int .i64 (i : Nat), .int .i64 (-1), .slice none 0 0, .int .i64 0] 72))).2 ⟨w5.heap.size, g, lb, cap2, A, rfl, heap_alloc_new _ _, hG6, hH, by omega, by omega, hgl, hll, hB5.alloc hs5 _⟩
      have HFIN := run.hid hfin
      clear hG hH hG6 hfin HISk hB5 hb5
      go_wp2
      first | exact HFIN.out | exact bodyPost_ret (v := _) rfl rfl HFIN.out | exact ⟨rfl, _, rfl, HFIN.out⟩
end Go.Proofs.Ytgpgbbbcodnieaa.ed
namespace Go.Proofs.Ytgpgbbbcodnieaa.ed
open Go Go.RowKit Go.Proofs
set_option linter.unusedVariables false
/-- an editor's line and carets: its box b, its gap g, the gap's row lb -/
structure Ed (b g lb : Nat) (F : List TV) (ca an : Int) (sv : Value) (dn : Int) (w : World) : Prop where
  box : w.heap[b]? = some (.cells #[.pointer (some ⟨g, 0, none⟩), .int .i64 ca, .int .i64 an, sv, .int .i64 dn] 72 (0, 0))
  gap : ∃ n cap f u A, edC.G g lb n cap f u A w ∧ HasC (n * 2) (f * 2) (u * 2) A (cellsT F) ∧ n ≤ 1099511627776 ∧ f + (n - u) = F.length
  bg : b ≠ g
  bl : b ≠ lb
theorem Ed.kept {b g lb : Nat} {F : List TV} {ca an : Int} {sv : Value} {dn : Int} {S : Nat → Prop} {w w' : World} (h : Ed b g lb F ca an sv dn w) (hk : Kept S w w') (h1 : ¬ S b) (h2 : ¬ S g) (h3 : ¬ S lb) : Ed b g lb F ca an sv dn w' := by
  obtain ⟨n, cap, f, u, A, hG, hr⟩ := h.gap
  exact ⟨(hk.block b (Array.getElem?_eq_some_iff.1 h.box).1 h1).trans h.box, ⟨n, cap, f, u, A, hG.kept hk h2 h3, hr⟩, h.bg, h.bl⟩
set_option maxHeartbeats 1000000 in
theorem caret_any {b g lb : Nat} {F : List TV} {ca an : Int} {sv : Value} {dn : Int} {w : World} (h : Ed b g lb F ca an sv dn w) :
    Calls Try.prog 17 #[.pointer (some ⟨b, 0, none⟩)] w fun e w' => e = .returned (.int .i64 ca) ∧ Same w w' := by
  have c1 := blk_cell h.box 1
  change w.cell? _ = some (.int .i64 ca) at c1
  clear h
  go_enter Try.func17, Try.ntmps17
  go_wp2
  go_ret
  exact ⟨rfl, Same.refl _⟩
theorem caret_nil (w : World) : Calls Try.prog 17 #[.pointer none] w fun e w' => e = .returned (.int .i64 0) ∧ Same w w' := by
  go_enter Try.func17, Try.ntmps17
  go_wp2
  go_ret
  exact ⟨rfl, Same.refl _⟩
set_option maxRecDepth 100000 in
set_option maxHeartbeats 2000000 in
theorem textOf_any {b g lb : Nat} {F : List TV} {ca an : Int} {sv : Value} {dn : Int} {w : World} (h : Ed b g lb F ca an sv dn w) (hT : (textL F).length ≤ 1099511627776) (hF : F.length ≤ 1099511627776) :
    Calls Try.prog 16 #[.pointer (some ⟨b, 0, none⟩)] w fun e w' => e = .returned (.string ⟨(textL F).toArray⟩) ∧ Below w.heap.size w w' := by
  have c0 := blk_cell h.box 0
  change w.cell? _ = some (.pointer (some ⟨g, 0, none⟩)) at c0
  obtain ⟨n, cap, f, u, A, hG, hc, hn, hl⟩ := h.gap
  have HALL := run.hid (edC.all_any hG hc (cellsT_one F) hn)
  rw [hl] at HALL
  have HTX := run.hid (fun (X : World) (a : Option Addr) (cap : Nat) (hS : Src 2 X a F.length cap (cellsT F)) => text_any a cap F X hS hT hF)
  have HTK := run.hid (show F.take F.length = F from List.take_of_length_le (Nat.le_refl _))
  clear h hG hc hl
  generalize hN : F.length = N at *
  have HN := run.hid hN
  clear hN
  go_enter Try.func16, Try.ntmps16
  go_wp2_with fail
  refine HALL.out.mono ?_
  rintro e w1 ⟨v, rfl, hown, hb1⟩
  obtain ⟨a, c, rfl⟩ := run.own_value hown
  have hsr := src_own hown HN.out (Nat.le_refl N)
  rw [HTK.out] at hsr
  have HT := run.hid (HTX.out w1 a c hsr)
  clear HALL HTX hown hsr
  go_wp2_with fail
  refine HT.out.mono ?_
  rintro e w2 ⟨rfl, hb2⟩
  have HF := run.hid (hb1.trans (hb2.mono hb1.size))
  go_wp2
  go_ret
  exact ⟨rfl, HF.out⟩
theorem textOf_nil (w : World) : Calls Try.prog 16 #[.pointer none] w fun e w' => e = .returned (.string ⟨#[]⟩) ∧ Same w w' := by
  go_enter Try.func16, Try.ntmps16
  go_wp2
  go_ret
  exact ⟨rfl, Same.refl _⟩
end Go.Proofs.Ytgpgbbbcodnieaa.ed
namespace Go.Proofs.Ytgpgbbbcodnieaa.ed
open Go Go.RowKit Go.Proofs
set_option linter.unusedVariables false
set_option maxRecDepth 100000 in
set_option maxHeartbeats 2000000 in
theorem delete_none {g lb n cap f u : Nat} {A : List Value} {w : World} (h : edC.G g lb n cap f u A w) (hn : n ≤ 1099511627776) (i : Nat) (hi : i ≤ f + (n - u)) :
    Calls Try.prog 55 #[.pointer (some ⟨g, 0, none⟩), .int .i64 (i : Nat), .int .i64 0] w fun e w' => e = .returned (.slice none 0 0) ∧ Same w w' := by
  have HLEN := run.hid (edC.len_any h (by omega))
  obtain ⟨N, hN⟩ : ∃ N, N = f + (n - u) := ⟨_, rfl⟩
  rw [← hN] at hi HLEN
  have hin : ¬ ((N : Nat) : Int) < (i : Int) := by omega
  have hi0 : ¬ (i : Int) < 0 := by omega
  clear h hN
  go_enter Try.func55, Try.ntmps55
  go_wp2_with fail
  refine HLEN.out.mono ?_
  rintro e w1 ⟨rfl, hs1⟩
  have HS := run.hid hs1
  clear hs1 HLEN
  go_wp2
  go_ret
  exact ⟨rfl, HS.out⟩
theorem cellsT_drop (F : List TV) {i : Nat} (hi : i ≤ F.length) : (cellsT F).drop (i * 2) = cellsT (F.drop i) := by
  have e : cellsT F = cellsT (F.take i) ++ cellsT (F.drop i) := by
    conv => lhs; rw [← List.take_append_drop i F]
    unfold cellsT
    rw [List.flatMap_append]
  rw [e, List.drop_append_of_le_length (by rw [cellsT_length, List.length_take]; omega), List.drop_of_length_le (by rw [cellsT_length, List.length_take]; omega), List.nil_append]
theorem cellsT_app (F H : List TV) : cellsT (F ++ H) = cellsT F ++ cellsT H := by unfold cellsT; rw [List.flatMap_append]
/-- the gap of these clusters -/
def GapOf (g lb : Nat) (F : List TV) (w : World) : Prop := ∃ n cap f u A, edC.G g lb n cap f u A w ∧ HasC (n * 2) (f * 2) (u * 2) A (cellsT F) ∧ n ≤ 1099511627776 ∧ f + (n - u) = F.length
theorem gap_delete {g lb : Nat} {F : List TV} {w : World} (h : GapOf g lb F w) (i m : Nat) (him : i + m ≤ F.length) (hF : F.length ≤ 1048576) :
    Calls Try.prog 55 #[.pointer (some ⟨g, 0, none⟩), .int .i64 (i : Nat), .int .i64 (m : Nat)] w fun e w' => ∃ lb', GapOf g lb' (F.take i ++ F.drop (i + m)) w' ∧ (∃ v, e = .returned v) ∧ (lb' = lb ∨ w.heap.size ≤ lb') ∧ Kept (fun b => b = g ∨ b = lb) w w' := by
  obtain ⟨n, cap, f, u, A, hG, hc, hn, hl⟩ := h
  by_cases h0 : m = 0
  · subst h0
    refine (delete_none hG hn i (by omega)).mono ?_
    rintro e w' ⟨rfl, hs⟩
    refine ⟨lb, ⟨n, cap, f, u, A, Same.ga hG hs, by rw [Nat.add_zero, List.take_append_drop]; exact hc, hn, by rw [Nat.add_zero, List.take_append_drop]; exact hl⟩, ⟨_, rfl⟩, .inl rfl, Same.kept (Kept.refl _ w) hs⟩
  · refine (edC.delete_any hG hc (cellsT_one F) i m m (by omega) hn (by omega) (by omega) (by omega)).mono ?_
    rintro e w' ⟨v, rfl, -, lb', n', cap', U', A', hG', hc', hl', hlb, hmx, -, hk⟩
    refine ⟨lb', ⟨n', cap', i, U', A', hG', ?_, by omega, ?_⟩, ⟨_, rfl⟩, hlb, hk⟩
    · rw [cellsT_app, ← cellsT_take F i (by omega), ← cellsT_drop F (by omega)]
      exact hc'
    · rw [List.length_append, List.length_take, List.length_drop]
      omega
end Go.Proofs.Ytgpgbbbcodnieaa.ed
namespace Go.Proofs.Ytgpgbbbcodnieaa.ed
open Go Go.RowKit Go.Proofs
set_option linter.unusedVariables false
theorem gap_insert {g lb : Nat} {F H : List TV} {w : World} (h : GapOf g lb F w) (i : Nat) (a : Option Addr) (c : Nat) (hs : Src 2 w a H.length c (cellsT H)) (hi : i ≤ F.length) (hF : F.length ≤ 1048576) (hH : H.length ≤ 1048576) (hfar : ∀ b off, a = some ⟨b, off, none⟩ → b ≠ g ∧ b ≠ lb) :
    Calls Try.prog 56 #[.pointer (some ⟨g, 0, none⟩), .int .i64 (i : Nat), .slice a H.length c] w fun e w' => e = .returned (.bool true) ∧ ∃ lb', GapOf g lb' (F.take i ++ H ++ F.drop i) w' ∧ (lb' = lb ∨ w.heap.size ≤ lb') ∧ Kept (fun b => b = g ∨ b = lb) w w' := by
  obtain ⟨n, cap, f, u, A, hG, hc, hn, hl⟩ := h
  refine (edC.insert_any hG hc (cellsT_one F) i a H.length c (cellsT H) hs (by omega) hn (by omega) hfar).mono ?_
  rintro e w' ⟨rfl, lb', n', cap', U', A', hG', hc', hl', hlb, hmx, hk⟩
  refine ⟨rfl, lb', ⟨n', cap', i + H.length, U', A', hG', ?_, by omega, ?_⟩, hlb, hk⟩
  · rw [cellsT_app, cellsT_app, ← cellsT_take F i (by omega), ← cellsT_drop F (by omega)]
    exact hc'
  · rw [List.length_append, List.length_append, List.length_take, List.length_drop]
    omega
set_option maxRecDepth 100000 in
set_option maxHeartbeats 2000000 in
theorem turn_any {b g lb : Nat} {F H : List TV} {ca an : Int} {sv : Value} {dn : Int} {w : World} (h : Ed b g lb F ca an sv dn w) (i m : Nat) (a : Option Addr) (c : Nat) (nca : Int) (hs : Src 2 w a H.length c (cellsT H)) (him : i + m ≤ F.length) (hF : F.length ≤ 1048576) (hH : H.length ≤ 1048576) (hfar : ∀ k off, a = some ⟨k, off, none⟩ → k ≠ g ∧ k ≠ lb) :
    Calls Try.prog 46 #[.pointer (some ⟨b, 0, none⟩), .int .i64 (i : Nat), .int .i64 (m : Nat), .slice a H.length c, .int .i64 nca] w fun e w' => e = .returned (.tuple #[]) ∧ ∃ lb', Ed b g lb' (F.take i ++ H ++ F.drop (i + m)) nca (-1) sv dn w' ∧ (lb' = lb ∨ w.heap.size ≤ lb') ∧ Kept (fun x => x = b ∨ x = g ∨ x = lb) w w' := by
  have hbg := h.bg
  have hbl := h.bl
  have hbox := h.box
  have hblt := (Array.getElem?_eq_some_iff.1 h.box).1
  have hglt : lb < w.heap.size := by
    obtain ⟨n, cap, f, u, A, hG, -⟩ := h.gap
    exact (Array.getElem?_eq_some_iff.1 hG.hl).1
  have c0 := blk_cell h.box 0
  change w.cell? _ = some (.pointer (some ⟨g, 0, none⟩)) at c0
  have HDE := run.hid (gap_delete h.gap i m him hF)
  have HIN := run.hid (fun (X : World) (lb1 : Nat) (hX : GapOf g lb1 (F.take i ++ F.drop (i + m)) X) (hlb : lb1 = lb ∨ w.heap.size ≤ lb1) (hk : Kept (fun x => x = g ∨ x = lb) w X) => gap_insert hX i a c (hs.kept hk (fun k off e => by rintro (rfl | rfl); exact (hfar _ _ e).1 rfl; exact (hfar _ _ e).2 rfl)) (by rw [List.length_append, List.length_take, List.length_drop]; omega) (by rw [List.length_append, List.length_take, List.length_drop]; omega) hH (fun k off e => ⟨(hfar k off e).1, by
    rcases hlb with rfl | hlb
    · exact (hfar k off e).2
    · rcases hs.at' with ⟨h1, -⟩ | ⟨k', off', h1, hlt, -⟩
      · rw [h1] at e; cases e
      · rw [h1] at e
        simp only [Option.some.injEq, Addr.mk.injEq] at e
        omega⟩))
  have HT := run.hid (show (F.take i ++ F.drop (i + m)).take i ++ H ++ (F.take i ++ F.drop (i + m)).drop i = F.take i ++ H ++ F.drop (i + m) from by
    have hl : (F.take i).length = i := by rw [List.length_take]; omega
    rw [List.take_append_of_le_length (by omega), List.take_of_length_le (by omega), List.drop_append_of_le_length (by omega), List.drop_of_length_le (by omega), List.nil_append])
  have HBX := run.hid hbox
  clear h hs hbox
  generalize H.length = N at *
  go_enter Try.func46, Try.ntmps46
  go_wp2_with fail
  refine HDE.out.mono ?_
  rintro e w1 ⟨lb1, hG1, ⟨v, rfl⟩, hlb1, hk1⟩
  have hbx1 := (hk1.block b hblt (by omega)).trans HBX.out
  have c1 := blk_cell hbx1 0
  change w1.cell? _ = some (.pointer (some ⟨g, 0, none⟩)) at c1
  have HI := run.hid (HIN.out w1 lb1 hG1 hlb1 hk1)
  have HB1 := run.hid hbx1
  have HK := run.hid (And.intro hk1 hlb1)
  clear HDE HIN hG1 hlb1 hk1 hbx1 c0
  go_wp2_with fail
  refine HI.out.mono ?_
  rintro e w2 ⟨rfl, lb2, hG2, hlb2, hk2⟩
  obtain ⟨hk1, hlb1⟩ := HK.out
  rw [HT.out] at hG2
  have hs1 := hk1.size
  have hblb : b ≠ lb1 := by omega
  have hbx2 := (hk2.block b (by omega) (by omega)).trans HB1.out
  have hs2 := hk2.size
  have hE : Ed b g lb2 (F.take i ++ H ++ F.drop (i + m)) nca (-1) sv dn ((w2.setCell ⟨b, 1, none⟩ (.int .i64 nca)).setCell ⟨b, 2, none⟩ (.int .i64 (-1))) := by
    obtain ⟨n, cap, f, u, A, hG, hr⟩ := hG2
    have hkk : Kept (fun x => x = b) w2 ((w2.setCell ⟨b, 1, none⟩ (.int .i64 nca)).setCell ⟨b, 2, none⟩ (.int .i64 (-1))) := Kept.setCell (b := b) (i := 2) (Kept.setCell (b := b) (i := 1) (Kept.refl (fun x => x = b) w2) (.inl rfl) _) (.inl rfl) _
    have hb2 : b ≠ lb2 := by omega
    exact ⟨heap_setCell_same _ _ 2 _ _ _ (heap_setCell_same _ _ 1 _ _ _ hbx2), ⟨n, cap, f, u, A, hG.kept hkk (by omega) (by omega), hr⟩, hbg, hb2⟩
  have hkf : Kept (fun x => x = b ∨ x = g ∨ x = lb) w ((w2.setCell ⟨b, 1, none⟩ (.int .i64 nca)).setCell ⟨b, 2, none⟩ (.int .i64 (-1))) := by
    have hkm : Kept (fun x => x = b ∨ x = g ∨ x = lb) w w2 := (hk1.more (S' := fun x => x = b ∨ x = g ∨ x = lb) (fun k _ h => Or.inr h)).trans hk2 (fun k hk h => by
      rcases h with h | h
      · exact .inr (.inl h)
      · exact .inr (.inr (by omega)))
    exact Kept.setCell (b := b) (i := 2) (Kept.setCell (b := b) (i := 1) hkm (.inl (.inl rfl)) _) (.inl (.inl rfl)) _
  have HF := run.hid (And.intro hE (And.intro (show lb2 = lb ∨ w.heap.size ≤ lb2 by omega) hkf))
  have d0 := blk_cell hbx2 1
  have d1 := blk_cell hbx2 2
  change w2.cell? _ = some (.int .i64 ca) at d0
  change w2.cell? _ = some (.int .i64 an) at d1
  have f0 := blk_free hbx2 1
  have f1 := blk_free hbx2 2
  clear hE hkf hbx2 hk1 hk2 hlb1 hlb2 hG2 HB1 HBX HI HT HK
  go_wp2
  first | go_end0 | (refine bodyPost_ret (results_none rfl _ _ _) rfl ?_)
  exact ⟨rfl, _, HF.out.1, HF.out.2.1, HF.out.2.2⟩
end Go.Proofs.Ytgpgbbbcodnieaa.ed
namespace Go.Proofs.Ytgpgbbbcodnieaa.ed
open Go Go.RowKit Go.Proofs
set_option linter.unusedVariables false
/-- a step: the line and the caret ahead of it, the line and the caret behind it -/
structure St where
  bef : List TV
  ahead : Nat
  aft : List TV
  after : Nat
/-- a row that is read, and lies in none of these blocks -/
def Read (S : Nat → Prop) (w : World) (a : Option Addr) (c : Nat) (F : List TV) : Prop := Src 2 w a F.length c (cellsT F) ∧ ∀ k off, a = some ⟨k, off, none⟩ → ¬ S k
theorem Read.kept {S S1 S' : Nat → Prop} {w w' : World} {a : Option Addr} {c : Nat} {F : List TV} (h : Read S w a c F) (hk : Kept S1 w w') (h1 : ∀ k, S1 k → S k) (h2 : ∀ k, S' k → S k ∨ w.heap.size ≤ k) : Read S' w' a c F := by
  refine ⟨h.1.kept hk (fun b off e hb => h.2 b off e (h1 b hb)), fun k off e hk' => ?_⟩
  rcases h2 k hk' with h3 | h3
  · exact h.2 k off e h3
  · rcases h.1.at' with ⟨h4, -⟩ | ⟨b, off', h4, hlt, -⟩
    · rw [h4] at e; cases e
    · rw [h4] at e
      simp only [Option.some.injEq, Addr.mk.injEq] at e
      omega
/-- a step in memory: where it begins, what went out, what came in -/
def StepAt (S : Nat → Prop) (x : St) (sb off : Nat) (w : World) : Prop :=
  ∃ A out inn Z oa oc ia ic, x.bef = A ++ out ++ Z ∧ x.aft = A ++ inn ++ Z ∧ w.cell? ⟨sb, off, none⟩ = some (.int .i64 (A.length : Nat)) ∧ w.cell? ⟨sb, off + 1, none⟩ = some (.slice oa out.length oc) ∧ w.cell? ⟨sb, off + 2, none⟩ = some (.slice ia inn.length ic) ∧ w.cell? ⟨sb, off + 3, none⟩ = some (.int .i64 (x.ahead : Nat)) ∧ w.cell? ⟨sb, off + 4, none⟩ = some (.int .i64 (x.after : Nat)) ∧ Read S w oa oc out ∧ Read S w ia ic inn
/-- the steps in memory -/
def StepsAt (S : Nat → Prop) (sv : Value) (L : List St) (w : World) : Prop :=
  ∃ a cap, sv = .slice a L.length cap ∧ L.length ≤ cap ∧ ((a = none ∧ cap = 0) ∨ ∃ sb off, a = some ⟨sb, off, none⟩ ∧ sb < w.heap.size ∧ ¬ S sb ∧ ∀ j x, L[j]? = some x → StepAt S x sb (off + j * 5) w)
theorem StepAt.kept {S S1 S' : Nat → Prop} {x : St} {sb off : Nat} {w w' : World} (h : StepAt S x sb off w) (hlt : sb < w.heap.size) (hs : ¬ S sb) (hk : Kept S1 w w') (h1 : ∀ k, S1 k → S k) (h2 : ∀ k, S' k → S k ∨ w.heap.size ≤ k) : StepAt S' x sb off w' := by
  obtain ⟨A, out, inn, Z, oa, oc, ia, ic, e1, e2, c0, c1, c2, c3, c4, r1, r2⟩ := h
  have hb := hk.block sb hlt (fun h => hs (h1 sb h))
  exact ⟨A, out, inn, Z, oa, oc, ia, ic, e1, e2, (World.cell?_of_block (a := ⟨sb, off, none⟩) hb).trans c0, (World.cell?_of_block (a := ⟨sb, off + 1, none⟩) hb).trans c1, (World.cell?_of_block (a := ⟨sb, off + 2, none⟩) hb).trans c2, (World.cell?_of_block (a := ⟨sb, off + 3, none⟩) hb).trans c3, (World.cell?_of_block (a := ⟨sb, off + 4, none⟩) hb).trans c4, r1.kept hk h1 h2, r2.kept hk h1 h2⟩
theorem StepsAt.kept {S S1 S' : Nat → Prop} {sv : Value} {L : List St} {w w' : World} (h : StepsAt S sv L w) (hk : Kept S1 w w') (h1 : ∀ k, S1 k → S k) (h2 : ∀ k, S' k → S k ∨ w.heap.size ≤ k) : StepsAt S' sv L w' := by
  obtain ⟨a, cap, e, hl, h3⟩ := h
  refine ⟨a, cap, e, hl, ?_⟩
  rcases h3 with h3 | ⟨sb, off, rfl, hlt, hs, hx⟩
  · exact .inl h3
  · refine .inr ⟨sb, off, rfl, Nat.lt_of_lt_of_le hlt hk.size, fun h => ?_, fun j x hj => (hx j x hj).kept hlt hs hk h1 h2⟩
    rcases h2 sb h with h4 | h4
    · exact hs h4
    · omega
/-- an editor as it stands -/
structure Sta where
  F : List TV
  ca : Nat
  an : Int
  L : List St
  dn : Nat
/-- it lies in memory; S: what nobody's steps lie in -/
structure EdS (S : Nat → Prop) (b g lb : Nat) (s : Sta) (w : World) : Prop where
  ed : ∃ sv, Ed b g lb s.F s.ca s.an sv s.dn w ∧ StepsAt S sv s.L w
  sb : S b
  sg : S g
  sl : S lb
abbrev Own (b g lb : Nat) : Nat → Prop := fun x => x = b ∨ x = g ∨ x = lb
theorem EdS.own {S : Nat → Prop} {b g lb : Nat} {s : Sta} {w : World} (h : EdS S b g lb s w) : ∀ k, Own b g lb k → S k := by
  rintro k (rfl | rfl | rfl)
  · exact h.sb
  · exact h.sg
  · exact h.sl
/-- what an editor's method leaves: the editor as it stands then, and all else as it was -/
def After (S : Nat → Prop) (b g lb : Nat) (s : Sta) (w w' : World) : Prop := ∃ lb', EdS (fun x => S x ∨ x = lb') b g lb' s w' ∧ (lb' = lb ∨ w.heap.size ≤ lb') ∧ Kept (Own b g lb) w w'
theorem EdS.kept {S S1 S' : Nat → Prop} {b g lb : Nat} {s : Sta} {w w' : World} (h : EdS S b g lb s w) (hk : Kept S1 w w') (h1 : ∀ k, S1 k → S k ∧ ¬ Own b g lb k) (h2 : ∀ k, S' k → S k ∨ w.heap.size ≤ k) (h3 : ∀ k, S k → S' k) : EdS S' b g lb s w' := by
  obtain ⟨sv, hE, hS⟩ := h.ed
  exact ⟨⟨sv, hE.kept hk (fun h => (h1 _ h).2 (.inl rfl)) (fun h => (h1 _ h).2 (.inr (.inl rfl))) (fun h => (h1 _ h).2 (.inr (.inr rfl))), hS.kept hk (fun k h => (h1 k h).1) h2⟩, h3 _ h.sb, h3 _ h.sg, h3 _ h.sl⟩
theorem After.stay {S : Nat → Prop} {b g lb : Nat} {s : Sta} {w w' : World} (h : EdS S b g lb s w) (hk : Kept (fun _ => False) w w') : After S b g lb s w w' :=
  ⟨lb, h.kept hk (fun _ h => h.elim) (fun k h' => by rcases h' with h' | rfl; exact .inl h'; exact .inl h.sl) (fun k h => .inl h), .inl rfl, hk.more (fun _ _ h => h.elim)⟩
theorem After.turned {S : Nat → Prop} {b g lb lb' : Nat} {L : List St} {F : List TV} {ca : Nat} {an : Int} {dn : Nat} {sv : Value} {w w' : World} (hs : StepsAt S sv L w) (hb : S b) (hg : S g) (hl : S lb) (hE : Ed b g lb' F ca an sv dn w') (hlb : lb' = lb ∨ w.heap.size ≤ lb') (hk : Kept (Own b g lb) w w') : After S b g lb ⟨F, ca, an, L, dn⟩ w w' := by
  refine ⟨lb', ⟨⟨sv, hE, hs.kept hk (fun k h => ?_) (fun k h => ?_)⟩, .inl hb, .inl hg, .inr rfl⟩, hlb, hk⟩
  · rcases h with rfl | rfl | rfl
    · exact hb
    · exact hg
    · exact hl
  · rcases h with h | rfl
    · exact .inl h
    · rcases hlb with h | h
      · exact .inl (h ▸ hl)
      · exact .inr h
theorem turn_back {A out inn Z : List TV} : (A ++ inn ++ Z).take A.length ++ out ++ (A ++ inn ++ Z).drop (A.length + inn.length) = A ++ out ++ Z := by
  rw [List.append_assoc A inn Z, List.take_append_of_le_length (Nat.le_refl _), List.take_of_length_le (Nat.le_refl _), ← List.drop_drop, List.drop_append_of_le_length (Nat.le_refl _), List.drop_of_length_le (Nat.le_refl A.length), List.nil_append, List.drop_append_of_le_length (Nat.le_refl _), List.drop_of_length_le (Nat.le_refl inn.length), List.nil_append]
set_option maxRecDepth 100000 in
set_option maxHeartbeats 4000000 in
theorem undo_any {S : Nat → Prop} {b g lb : Nat} {F : List TV} {ca : Nat} {an : Int} {L : List St} {n : Nat} {w : World} (h : EdS S b g lb ⟨F, ca, an, L, n + 1⟩ w) (x : St) (hx : L[n]? = some x) (hF : F = x.aft) (hn : n < 1024) (hb1 : x.bef.length ≤ 1048576) (hb2 : x.aft.length ≤ 1048576) :
    Calls Try.prog 21 #[.pointer (some ⟨b, 0, none⟩)] w fun e w' => e = .returned (.bool true) ∧ After S b g lb ⟨x.bef, x.ahead, -1, L, n⟩ w w' := by
  obtain ⟨⟨sv, hE, hS⟩, sb, sg, sl⟩ := h
  dsimp only at hE hS
  obtain ⟨a, cap, rfl, hLc, h3⟩ := hS
  have hnL : n < L.length := (List.getElem?_eq_some_iff.1 hx).1
  rcases h3 with ⟨-, rfl⟩ | ⟨sbl, off, rfl, hslt, hsS, hat⟩
  · omega
  have hS2 : StepsAt S (.slice (some ⟨sbl, off, none⟩) L.length cap) L w := ⟨_, _, rfl, hLc, .inr ⟨sbl, off, rfl, hslt, hsS, hat⟩⟩
  obtain ⟨A, out, inn, Z, oa, oc, ia, ic, e1, e2, k0, k1, k2, k3, k4, r1, r2⟩ := hat n x hx
  have hbox := hE.box
  have hne : sbl ≠ b := fun e => hsS (e ▸ sb)
  have hblt := (Array.getElem?_eq_some_iff.1 hbox).1
  have c3 := blk_cell hbox 3
  have c4 := blk_cell hbox 4
  change w.cell? _ = some (.slice (some ⟨sbl, off, none⟩) L.length cap) at c3
  change w.cell? _ = some (.int .i64 ((n + 1 : Nat) : Int)) at c4
  have f4 := blk_free hbox 4
  obtain ⟨w1, hw1⟩ : ∃ w1, w1 = w.setCell ⟨b, 4, none⟩ (.int .i64 (n : Nat)) := ⟨_, rfl⟩
  have hb1x : w1.heap[b]? = some (.cells #[.pointer (some ⟨g, 0, none⟩), .int .i64 (ca : Nat), .int .i64 an, .slice (some ⟨sbl, off, none⟩) L.length cap, .int .i64 (n : Nat)] 72 (0, 0)) := by rw [hw1]; exact heap_setCell_same _ _ 4 _ _ _ hbox
  have hk1 : Kept (fun k => k = b) w w1 := by rw [hw1]; exact Kept.setCell (b := b) (S := fun k => k = b) (Kept.refl _ w) (.inl rfl) _
  have hsb := hk1.block sbl hslt hne
  have d3 := blk_cell hb1x 3
  have d4 := blk_cell hb1x 4
  change w1.cell? _ = some (.slice (some ⟨sbl, off, none⟩) L.length cap) at d3
  change w1.cell? _ = some (.int .i64 (n : Nat)) at d4
  have m0 := (World.cell?_of_block (a := ⟨sbl, off + n * 5, none⟩) hsb).trans k0
  have m1 := (World.cell?_of_block (a := ⟨sbl, off + n * 5 + 1, none⟩) hsb).trans k1
  have m2 := (World.cell?_of_block (a := ⟨sbl, off + n * 5 + 2, none⟩) hsb).trans k2
  have m3 := (World.cell?_of_block (a := ⟨sbl, off + n * 5 + 3, none⟩) hsb).trans k3
  have m4 := (World.cell?_of_block (a := ⟨sbl, off + n * 5 + 4, none⟩) hsb).trans k4
  have hsz1 : w1.heap.size = w.heap.size := by rw [hw1]; simp [World.setCell]
  have hal : ∀ q, q < w.heap.size → ∀ o v i, w1.cell? ⟨q, i, none⟩ = some v → (w1.alloc o).cell? ⟨q, i, none⟩ = some v := fun q hq o v i h => (World.cell?_of_block (a := ⟨q, i, none⟩) (blk_old o (show q < w1.heap.size by rw [hsz1]; exact hq))).trans h
  have x3 := hal b hblt (.cells #[.int .i64 0, .slice none 0 0, .slice none 0 0, .int .i64 0, .int .i64 0] 94) _ _ d3
  have x4 := hal b hblt (.cells #[.int .i64 0, .slice none 0 0, .slice none 0 0, .int .i64 0, .int .i64 0] 94) _ _ d4
  have y0 := hal sbl hslt (.cells #[.int .i64 0, .slice none 0 0, .slice none 0 0, .int .i64 0, .int .i64 0] 94) _ _ m0
  have y1 := hal sbl hslt (.cells #[.int .i64 0, .slice none 0 0, .slice none 0 0, .int .i64 0, .int .i64 0] 94) _ _ m1
  have y2 := hal sbl hslt (.cells #[.int .i64 0, .slice none 0 0, .slice none 0 0, .int .i64 0, .int .i64 0] 94) _ _ m2
  have y3 := hal sbl hslt (.cells #[.int .i64 0, .slice none 0 0, .slice none 0 0, .int .i64 0, .int .i64 0] 94) _ _ m3
  have y4 := hal sbl hslt (.cells #[.int .i64 0, .slice none 0 0, .slice none 0 0, .int .i64 0, .int .i64 0] 94) _ _ m4
  have hE1 : Ed b g lb F (ca : Nat) an (.slice (some ⟨sbl, off, none⟩) L.length cap) (n : Nat) w1 := by
    obtain ⟨gn, gcap, gf, gu, gA, hG, hr⟩ := hE.gap
    exact ⟨hb1x, ⟨gn, gcap, gf, gu, gA, hG.kept hk1 hE.bg.symm hE.bl.symm, hr⟩, hE.bg, hE.bl⟩
  have hr1 : Read S w1 oa oc out := r1.kept hk1 (fun k h => h ▸ sb) (fun k h => .inl h)
  have hFl : F = A ++ inn ++ Z := hF.trans e2
  have HT := run.hid (fun (X : World) (hX : Kept (fun _ => False) w1 X) => turn_any (hE1.kept hX (fun h => h) (fun h => h) (fun h => h)) A.length inn.length oa oc (x.ahead : Nat) (hr1.1.kept hX (fun _ _ _ h => h)) (by rw [hFl, List.length_append, List.length_append]; omega) (by rw [hF]; exact hb2) (by rw [e1, List.length_append, List.length_append] at hb1; omega) (fun k off e => ⟨fun h => hr1.2 k off e (h ▸ sg), fun h => hr1.2 k off e (h ▸ sl)⟩))
  have HZ := run.hid (show F.take A.length ++ out ++ F.drop (A.length + inn.length) = x.bef from by rw [hFl, e1]; exact turn_back)
  have HK := run.hid (And.intro hk1 hS2)
  have HO := run.hid (And.intro sb (And.intro sg sl))
  clear hsz1 hal hE hat hS2 r1 r2 k0 k1 k2 k3 k4 hb1x hE1 hr1 e1 e2 hF hFl hx hb1 hb2 hsb hbox hsS hk1 sb sg sl
  generalize A.length = AL at *
  generalize out.length = OL at *
  generalize inn.length = IL at *
  generalize L.length = LL at *
  go_enter Try.func21, Try.ntmps21
  go_upto_region 4 with fail
  rw [← hw1]
  clear hw1 c3 c4 f4
  go_region
  have HKA := run.hid (show Kept (fun _ => False) w1 ((w1.alloc (.cells #[.int .i64 (AL : Nat), .slice oa OL oc, .slice ia IL ic, .int .i64 (x.ahead : Nat), .int .i64 (x.after : Nat)] 94)).drew) from ((Kept.refl _ w1).alloc _).drew)
  have hcel := heap_alloc_new w1 (.cells #[.int .i64 (AL : Nat), .slice oa OL oc, .slice ia IL ic, .int .i64 (x.ahead : Nat), .int .i64 (x.after : Nat)] 94)
  clear x3 x4 y0 y1 y2 y3 y4 m0 m1 m2 m3 m4 d3 d4
  go_wp2_with fail
  refine (HT.out _ HKA.out).mono ?_
  rintro e w2 ⟨rfl, lb2, hE2, hlb2, hk2⟩
  obtain ⟨sb, sg, sl⟩ := HO.out
  obtain ⟨hk1, hs1⟩ := HK.out
  have hkk := (hk1.more (S' := Own b g lb) (fun k _ h => .inl h)).trans ((HKA.out.more (S' := Own b g lb) (fun _ _ h => h.elim)).trans hk2 (fun k _ h => h)) (fun k _ h => h)
  have hsz := hk1.size
  have hsz2 := HKA.out.size
  rw [HZ.out] at hE2
  have HF := run.hid (After.turned (ca := x.ahead) (w := w) hs1 sb sg sl hE2 (hlb2.elim .inl (fun h => .inr (by omega))) hkk)
  clear hE2 hk2 hk1 hs1 hkk HT HZ HK HKA hcel
  go_wp2
  go_ret
  exact ⟨rfl, HF.out⟩
set_option maxRecDepth 100000 in
set_option maxHeartbeats 4000000 in
theorem redo_any {S : Nat → Prop} {b g lb : Nat} {F : List TV} {ca : Nat} {an : Int} {L : List St} {n : Nat} {w : World} (h : EdS S b g lb ⟨F, ca, an, L, n⟩ w) (x : St) (hx : L[n]? = some x) (hF : F = x.bef) (hn : n < 1024) (hb1 : x.bef.length ≤ 1048576) (hb2 : x.aft.length ≤ 1048576) :
    Calls Try.prog 22 #[.pointer (some ⟨b, 0, none⟩)] w fun e w' => e = .returned (.bool true) ∧ After S b g lb ⟨x.aft, x.after, -1, L, n + 1⟩ w w' := by
  obtain ⟨⟨sv, hE, hS⟩, sb, sg, sl⟩ := h
  dsimp only at hE hS
  obtain ⟨a, cap, rfl, hLc, h3⟩ := hS
  have hnL : n < L.length := (List.getElem?_eq_some_iff.1 hx).1
  rcases h3 with ⟨-, rfl⟩ | ⟨sbl, off, rfl, hslt, hsS, hat⟩
  · omega
  have hS2 : StepsAt S (.slice (some ⟨sbl, off, none⟩) L.length cap) L w := ⟨_, _, rfl, hLc, .inr ⟨sbl, off, rfl, hslt, hsS, hat⟩⟩
  obtain ⟨A, out, inn, Z, oa, oc, ia, ic, e1, e2, k0, k1, k2, k3, k4, r1, r2⟩ := hat n x hx
  have hbox := hE.box
  have hne : sbl ≠ b := fun e => hsS (e ▸ sb)
  have hblt := (Array.getElem?_eq_some_iff.1 hbox).1
  have d3 := blk_cell hbox 3
  have d4 := blk_cell hbox 4
  change w.cell? _ = some (.slice (some ⟨sbl, off, none⟩) L.length cap) at d3
  change w.cell? _ = some (.int .i64 (n : Nat)) at d4
  have hFl : F = A ++ out ++ Z := hF.trans e1
  have HT := run.hid (fun (X : World) (hX : Kept (fun k => k = b) w X) (hbX : X.heap[b]? = some (.cells #[.pointer (some ⟨g, 0, none⟩), .int .i64 (ca : Nat), .int .i64 an, .slice (some ⟨sbl, off, none⟩) L.length cap, .int .i64 ((n + 1 : Nat) : Int)] 72 (0, 0))) => turn_any (show Ed b g lb F (ca : Nat) an (.slice (some ⟨sbl, off, none⟩) L.length cap) ((n + 1 : Nat) : Int) X from by
      obtain ⟨gn, gcap, gf, gu, gA, hG, hr⟩ := hE.gap
      exact ⟨hbX, ⟨gn, gcap, gf, gu, gA, hG.kept hX hE.bg.symm hE.bl.symm, hr⟩, hE.bg, hE.bl⟩) A.length out.length ia ic (x.after : Nat) (r2.1.kept hX (fun k off e h => r2.2 k off e (h ▸ sb))) (by rw [hFl, List.length_append, List.length_append]; omega) (by rw [hF]; exact hb1) (by rw [e2, List.length_append, List.length_append] at hb2; omega) (fun k off e => ⟨fun h => r2.2 k off e (h ▸ sg), fun h => r2.2 k off e (h ▸ sl)⟩))
  have HZ := run.hid (show F.take A.length ++ inn ++ F.drop (A.length + out.length) = x.aft from by rw [hFl, e2]; exact turn_back)
  have HK := run.hid hS2
  have HO := run.hid (And.intro sb (And.intro sg sl))
  have HBX := run.hid hbox
  have HKS := run.hid (And.intro k0 (And.intro k1 (And.intro k2 (And.intro k3 k4))))
  clear hE hat hS2 r1 r2 k0 k1 k2 k3 k4 e1 e2 hF hFl hx hb1 hb2 hbox hsS sb sg sl
  generalize A.length = AL at *
  generalize out.length = OL at *
  generalize inn.length = IL at *
  have hnq : ((n : Int) == (L.length : Int)) = false := by
    simp only [beq_eq_false_iff_ne, ne_eq]
    omega
  generalize L.length = LL at *
  go_enter Try.func22, Try.ntmps22
  go_upto_region 1 with fail
  go_quiet (fail)
  go_upto_region 3 with fail
  have hkd : Kept (fun _ => False) w (w.drewN nq) := ⟨rfl, rfl, rfl, Nat.le_refl _, fun _ _ _ => rfl⟩
  have hszd : (w.drewN nq).heap.size = w.heap.size := rfl
  generalize w.drewN nq = wd at *
  obtain ⟨k0, k1, k2, k3, k4⟩ := HKS.out
  have hbd : wd.heap[b]? = _ := (hkd.block b hblt (fun h => h)).trans HBX.out
  have hsd := hkd.block sbl hslt (fun h => h)
  have z3 := blk_cell hbd 3
  have z4 := blk_cell hbd 4
  change wd.cell? _ = some (.slice (some ⟨sbl, off, none⟩) LL cap) at z3
  change wd.cell? _ = some (.int .i64 (n : Nat)) at z4
  have m0 := (World.cell?_of_block (a := ⟨sbl, off + n * 5, none⟩) hsd).trans k0
  have m1 := (World.cell?_of_block (a := ⟨sbl, off + n * 5 + 1, none⟩) hsd).trans k1
  have m2 := (World.cell?_of_block (a := ⟨sbl, off + n * 5 + 2, none⟩) hsd).trans k2
  have m3 := (World.cell?_of_block (a := ⟨sbl, off + n * 5 + 3, none⟩) hsd).trans k3
  have m4 := (World.cell?_of_block (a := ⟨sbl, off + n * 5 + 4, none⟩) hsd).trans k4
  have hal : ∀ q, q < w.heap.size → ∀ o v i, wd.cell? ⟨q, i, none⟩ = some v → (wd.alloc o).cell? ⟨q, i, none⟩ = some v := fun q hq o v i h => (World.cell?_of_block (a := ⟨q, i, none⟩) (blk_old o (show q < wd.heap.size by rw [hszd]; exact hq))).trans h
  have x3 := hal b hblt (.cells #[.int .i64 0, .slice none 0 0, .slice none 0 0, .int .i64 0, .int .i64 0] 94) _ _ z3
  have x4 := hal b hblt (.cells #[.int .i64 0, .slice none 0 0, .slice none 0 0, .int .i64 0, .int .i64 0] 94) _ _ z4
  have y0 := hal sbl hslt (.cells #[.int .i64 0, .slice none 0 0, .slice none 0 0, .int .i64 0, .int .i64 0] 94) _ _ m0
  have y1 := hal sbl hslt (.cells #[.int .i64 0, .slice none 0 0, .slice none 0 0, .int .i64 0, .int .i64 0] 94) _ _ m1
  have y2 := hal sbl hslt (.cells #[.int .i64 0, .slice none 0 0, .slice none 0 0, .int .i64 0, .int .i64 0] 94) _ _ m2
  have y3 := hal sbl hslt (.cells #[.int .i64 0, .slice none 0 0, .slice none 0 0, .int .i64 0, .int .i64 0] 94) _ _ m3
  have y4 := hal sbl hslt (.cells #[.int .i64 0, .slice none 0 0, .slice none 0 0, .int .i64 0, .int .i64 0] 94) _ _ m4
  have HBD := run.hid hbd
  have HLT := run.hid (And.intro hblt hszd)
  have HKD := run.hid hkd
  clear hszd hal k0 k1 k2 k3 k4 hsd hbd HKS HBX d3 d4 hkd
  go_region
  have HKA := run.hid (show Kept (fun _ => False) wd ((wd.alloc (.cells #[.int .i64 (AL : Nat), .slice oa OL oc, .slice ia IL ic, .int .i64 (x.ahead : Nat), .int .i64 (x.after : Nat)] 94)).drew) from ((Kept.refl _ wd).alloc _).drew)
  have hcel := heap_alloc_new wd (.cells #[.int .i64 (AL : Nat), .slice oa OL oc, .slice ia IL ic, .int .i64 (x.ahead : Nat), .int .i64 (x.after : Nat)] 94)
  have hcel2 : ((wd.alloc (.cells #[.int .i64 (AL : Nat), .slice oa OL oc, .slice ia IL ic, .int .i64 (x.ahead : Nat), .int .i64 (x.after : Nat)] 94)).drew).heap[wd.heap.size]? = _ := hcel
  have hbA : ((wd.alloc (.cells #[.int .i64 (AL : Nat), .slice oa OL oc, .slice ia IL ic, .int .i64 (x.ahead : Nat), .int .i64 (x.after : Nat)] 94)).drew).heap[b]? = _ := (HKA.out.block b (by rw [HLT.out.2]; exact HLT.out.1) (fun h => h)).trans HBD.out
  clear hcel x3 x4 y0 y1 y2 y3 y4 m0 m1 m2 m3 m4 z3 z4
  generalize ((wd.alloc (.cells #[.int .i64 (AL : Nat), .slice oa OL oc, .slice ia IL ic, .int .i64 (x.ahead : Nat), .int .i64 (x.after : Nat)] 94)).drew) = wA at *
  have hlt := HLT.out.1
  rw [← HLT.out.2] at hlt
  have hnb : wd.heap.size ≠ b := by omega
  generalize wd.heap.size = kx at *
  have q4 := blk_cell hbA 4
  change wA.cell? _ = some (.int .i64 (n : Nat)) at q4
  have f4 := blk_free hbA 4
  obtain ⟨wB, hwB⟩ : ∃ wB, wB = wA.setCell ⟨b, 4, none⟩ (.int .i64 ((n : Int) + 1)) := ⟨_, rfl⟩
  have hkB : Kept (fun k => k = b) wA wB := by rw [hwB]; exact Kept.setCell (b := b) (S := fun k => k = b) (Kept.refl _ wA) (.inl rfl) _
  have hbB : wB.heap[b]? = some (.cells #[.pointer (some ⟨g, 0, none⟩), .int .i64 (ca : Nat), .int .i64 an, .slice (some ⟨sbl, off, none⟩) LL cap, .int .i64 ((n + 1 : Nat) : Int)] 72 (0, 0)) := by rw [hwB, show ((n : Int) + 1) = ((n + 1 : Nat) : Int) from by omega]; exact heap_setCell_same _ _ 4 _ _ _ hbA
  have hcB := (hkB.block kx (Array.getElem?_eq_some_iff.1 hcel2).1 hnb).trans hcel2
  have i0 := blk_cell hcB 0
  have i1 := blk_cell hcB 1
  have i2 := blk_cell hcB 2
  have i4 := blk_cell hcB 4
  change wB.cell? _ = some (.int .i64 (AL : Nat)) at i0
  change wB.cell? _ = some (.slice oa OL oc) at i1
  change wB.cell? _ = some (.slice ia IL ic) at i2
  change wB.cell? _ = some (.int .i64 (x.after : Nat)) at i4
  have hkw : Kept (fun k => k = b) w wB := ((HKD.out.trans HKA.out (fun _ _ h => h)).more (S' := fun k => k = b) (fun _ _ h => h.elim)).trans hkB (fun k _ h => h)
  have HT1 := run.hid (HT.out wB hkw hbB)
  have HKW := run.hid (And.intro hkw HK.out)
  clear HT hcel2 hbA hbB hcB hkB hkw HKA HK HKD HBD HLT hlt
  go_upto_region 5 with fail
  rw [← hwB]
  clear hwB q4 f4
  go_wp2_with fail
  refine HT1.out.mono ?_
  rintro e w2 ⟨rfl, lb2, hE2, hlb2, hk2⟩
  obtain ⟨sb, sg, sl⟩ := HO.out
  obtain ⟨hk1, hs1⟩ := HKW.out
  have hkk := (hk1.more (S' := Own b g lb) (fun k _ h => .inl h)).trans hk2 (fun k _ h => h)
  have hsz := hk1.size
  rw [HZ.out] at hE2
  have HF := run.hid (After.turned (ca := x.after) (w := w) hs1 sb sg sl hE2 (hlb2.elim .inl (fun h => .inr (by omega))) hkk)
  clear hE2 hk2 hk1 hs1 hkk HT1 HZ HKW
  go_wp2
  go_ret
  exact ⟨rfl, HF.out⟩
theorem undo_none {S : Nat → Prop} {b g lb : Nat} {F : List TV} {ca : Nat} {an : Int} {L : List St} {w : World} (h : EdS S b g lb ⟨F, ca, an, L, 0⟩ w) :
    Calls Try.prog 21 #[.pointer (some ⟨b, 0, none⟩)] w fun e w' => e = .returned (.bool false) ∧ After S b g lb ⟨F, ca, an, L, 0⟩ w w' := by
  have HA := run.hid (After.stay h (Kept.refl _ w))
  obtain ⟨⟨sv, hE, hS⟩, sb, sg, sl⟩ := h
  have c4 := blk_cell hE.box 4
  change w.cell? _ = some (.int .i64 ((0 : Nat) : Int)) at c4
  clear hE hS sb sg sl
  go_enter Try.func21, Try.ntmps21
  go_wp2
  go_ret
  exact ⟨rfl, HA.out⟩
theorem redo_none {S : Nat → Prop} {b g lb : Nat} {F : List TV} {ca : Nat} {an : Int} {L : List St} {w : World} (h : EdS S b g lb ⟨F, ca, an, L, L.length⟩ w) :
    Calls Try.prog 22 #[.pointer (some ⟨b, 0, none⟩)] w fun e w' => e = .returned (.bool false) ∧ After S b g lb ⟨F, ca, an, L, L.length⟩ w w' := by
  have HA := run.hid (fun (X : World) (hX : Kept (fun _ => False) w X) => After.stay h hX)
  obtain ⟨⟨sv, hE, hS⟩, sb, sg, sl⟩ := h
  obtain ⟨a, cap, rfl, hLc, h3⟩ := hS
  have c4 := blk_cell hE.box 4
  have c3 := blk_cell hE.box 3
  change w.cell? _ = some (.int .i64 (L.length : Nat)) at c4
  change w.cell? _ = some (.slice a L.length cap) at c3
  have hLL : ((L.length : Int) == (L.length : Int)) = true := by simp
  clear hE sb sg sl h3
  generalize L.length = LL at *
  go_enter Try.func22, Try.ntmps22
  go_upto_region 1 with fail
  go_quiet (fail)
  have hkd : Kept (fun _ => False) w (w.drewN nq) := ⟨rfl, rfl, rfl, Nat.le_refl _, fun _ _ _ => rfl⟩
  have HF := run.hid (HA.out _ hkd)
  clear HA hkd
  go_wp2
  go_ret
  exact ⟨rfl, HF.out⟩
end Go.Proofs.Ytgpgbbbcodnieaa.ed
