/-
  The walk of the law WrapBack.
-/
import Derived.Test.YtgniobgadilpgaaWrpLawText
import Derived.Test.YtgniobgadilpgaaWrpLawWakes
import Derived.Deep.RegionHeld3
namespace Go.Proofs.Ytgniobgadilpgaa.wrp
open Go.RowKit Go.Proofs
open Go.Proofs.Ytgniobgadilpgaa.wid Go.Proofs.Ytgniobgadilpgaa.utf Go.Proofs.Ytgniobgadilpgaa.clu
set_option linter.unusedVariables false

theorem told_full (s : ByteArray) : Full (told s) := by
  intro q hq e
  unfold told clu.seen at hq
  obtain ⟨p, hp, rfl⟩ := List.mem_map.1 hq
  obtain ⟨h1, -, -⟩ := cl_piece _ _ (Nat.le_refl _) p hp
  have h2 := (text_length p).1
  have h3 : (str (text p)).size = (text p).length := str_size _
  have h4 : 0 < p.length := List.length_pos_iff.2 h1
  have h5 : (str (text p)).size = 0 := by
    have := congrArg ByteArray.size e
    exact this
  omega
theorem flow_full (s : ByteArray) : Full (flow s) := (told_full _).sub fun q hq => (List.mem_filter.1 hq).1
theorem box_cells {w : World} {g : Nat} {a b c d : Value} {t : TypeId} (h : w.heap[g]? = some (.cells #[a, b, c, d] t (0, 0))) : w.cell? ⟨g, 0, none⟩ = some a ∧ w.cell? ⟨g, 1, none⟩ = some b ∧ w.cell? ⟨g, 2, none⟩ = some c ∧ w.cell? ⟨g, 3, none⟩ = some d := by
  simp [World.cell?, h]
theorem own_ne_box {w : World} {base e size n g : Nat} {v : Value} {xs : List Value} {c : Array Value} {t : TypeId} {fr : Nat × Nat} (h : w.ownsRow base e size v n xs) (hb : w.heap[g]? = some (.cells c t fr)) (hne : t ≠ e) : some g ≠ v.ownBlock := by
  rcases h.2 with ⟨rfl, -⟩ | ⟨g', cap, cur, rfl, -, hg, -⟩
  · simp [Value.ownBlock]
  · intro e1
    simp only [Value.ownBlock, Option.some.injEq] at e1
    subst e1
    rw [hg] at hb
    simp only [Option.some.injEq, Obj.cells.injEq] at hb
    exact hne hb.2.1.symm
theorem strB_size (fin : Nat) : (strB fin).size ≤ 1 := by
  show (backL fin).toArray.size ≤ 1
  rw [List.size_toArray]; unfold backL
  split
  · simp
  · split <;> simp
theorem strB_bytes (fin : Nat) : (strB fin).data.toList = backL fin := by simp [strB]
theorem cells4_get {L : List LV} {i : Nat} (h : i < L.length) (x0 : LV) : (cells4 L)[i * 4]? = some (.string (L.getD i x0).text) ∧ (cells4 L)[i * 4 + 1]? = some (.int .i64 (L.getD i x0).width) ∧ (cells4 L)[i * 4 + 2]? = some (.int .i8 (L.getD i x0).fin) ∧ (cells4 L)[i * 4 + 3]? = some (.string (L.getD i x0).lost) := by
  have e : cells4 L = cells4 (L.take i) ++ (lcells (L.getD i x0) ++ cells4 (L.drop (i + 1))) := by
    have e2 : L = L.take i ++ (L.getD i x0 :: L.drop (i + 1)) := by
      conv => lhs; rw [← List.take_append_drop i L, List.drop_eq_getElem_cons h]
      simp [List.getD_eq_getElem?_getD, h]
    conv => lhs; rw [e2]
    rw [cells4_append]; rfl
  have hl : (cells4 (L.take i)).length = i * 4 := by rw [cells4_length, List.length_take]; congr 1; omega
  rw [e]
  refine ⟨?_, ?_, ?_, ?_⟩
  all_goals
    rw [List.getElem?_append_right (by omega)]
    simp [hl, lcells]
/-- lines to be read -/
def RL (w : World) (v : Value) (L : List LV) : Prop :=
  ∃ a cap, v = .slice a L.length cap ∧ ∀ i, i < L.length → ∃ b off, a = some ⟨b, off, none⟩ ∧ b < w.heap.size ∧ w.cell? ⟨b, off + i * 4, none⟩ = some (.string (L.getD i ⟨e0, 0, 0, e0⟩).text) ∧ w.cell? ⟨b, off + i * 4 + 1, none⟩ = some (.int .i64 (L.getD i ⟨e0, 0, 0, e0⟩).width) ∧
    w.cell? ⟨b, off + i * 4 + 2, none⟩ = some (.int .i8 (L.getD i ⟨e0, 0, 0, e0⟩).fin) ∧ w.cell? ⟨b, off + i * 4 + 3, none⟩ = some (.string (L.getD i ⟨e0, 0, 0, e0⟩).lost)
theorem rl_own {w : World} {base : Nat} {v : Value} {L : List LV} (h : w.ownsRow base 43 4 v L.length (cells4 L)) : RL w v L := by
  obtain ⟨a, cap, rfl⟩ := run.own_value h
  refine ⟨a, cap, rfl, fun i hi => ?_⟩
  rcases h.2 with ⟨h1, h2⟩ | ⟨g, cap', cur, h1, -, hg, -, -, -, -⟩
  · omega
  simp only [Value.slice.injEq] at h1
  obtain ⟨rfl, -, rfl⟩ := h1
  obtain ⟨c0, c1, c2, c3⟩ := cells4_get hi ⟨e0, 0, 0, e0⟩
  have hlt := (Array.getElem?_eq_some_iff.1 hg).1
  have hl : (cells4 L).length = L.length * 4 := cells4_length L
  refine ⟨g, 0, rfl, hlt, ?_, ?_, ?_, ?_⟩
  · rw [show 0 + i * 4 = i * 4 by omega]; exact (h.cellAt (i * 4) (by omega)).trans c0
  · rw [show 0 + i * 4 + 1 = i * 4 + 1 by omega]; exact (h.cellAt (i * 4 + 1) (by omega)).trans c1
  · rw [show 0 + i * 4 + 2 = i * 4 + 2 by omega]; exact (h.cellAt (i * 4 + 2) (by omega)).trans c2
  · rw [show 0 + i * 4 + 3 = i * 4 + 3 by omega]; exact (h.cellAt (i * 4 + 3) (by omega)).trans c3
theorem RL.below {w w' : World} {v : Value} {L : List LV} (h : RL w v L) (hb : Below w.heap.size w w') : RL w' v L := by
  obtain ⟨a, cap, rfl, h⟩ := h
  refine ⟨a, cap, rfl, fun i hi => ?_⟩
  obtain ⟨b, off, ha, hlt, h0, h1, h2, h3⟩ := h i hi
  exact ⟨b, off, ha, Nat.lt_of_lt_of_le hlt hb.size, (hb.cell (p := ⟨b, off + i * 4, none⟩) hlt).trans h0, (hb.cell (p := ⟨b, off + i * 4 + 1, none⟩) hlt).trans h1, (hb.cell (p := ⟨b, off + i * 4 + 2, none⟩) hlt).trans h2, (hb.cell (p := ⟨b, off + i * 4 + 3, none⟩) hlt).trans h3⟩
theorem backHeld_of {B : Nat} {w2 W : World} {vb : Value} {l : List UInt8} (h : W.ownsRow B 5 1 vb l.length (Lib.byteCells l)) (hb : Below w2.heap.size w2 W) : W.ownsRow B 5 1 vb l.length (Lib.byteCells l) ∧ (convert 41 9 vb).run Try.prog W = .ok (.string ⟨l.toArray⟩) W ∧ Below w2.heap.size w2 W := ⟨h, conv_bytes h, hb⟩
theorem keepBack {B : Nat} {w2 W w1 : World} {vb : Value} {l : List UInt8} (h : W.ownsRow B 5 1 vb l.length (Lib.byteCells l) ∧ (convert 41 9 vb).run Try.prog W = .ok (.string ⟨l.toArray⟩) W ∧ Below w2.heap.size w2 W) (hb : Below W.heap.size W w1) : w1.ownsRow B 5 1 vb l.length (Lib.byteCells l) ∧ (convert 41 9 vb).run Try.prog w1 = .ok (.string ⟨l.toArray⟩) w1 ∧ Below w2.heap.size w2 w1 := backHeld_of (run.own_below h.1 hb) (h.2.2.trans (hb.mono h.2.2.size))

set_option maxRecDepth 100000 in
set_option maxHeartbeats 4000000 in
theorem lawWrapBack_any (s : ByteArray) (wd mode : Int) (w : World) (hs : s.size ≤ 1048576) : Calls Try.prog 8 #[.string s, .int .i64 wd, .int .i8 mode] w fun e w' => e = .returned (.bool true) ∧ Below w.heap.size w w' := by
  obtain ⟨i0, hi, hz0, hz1, hz2⟩ := info_parts info_byte
  have HK := run.hid (fun w => wakes_any w)
  have HL := run.hid (fun w => lines_any s wd mode w (by omega))
  have HF := run.hid (fun w => flow_any s w (by omega))
  have hfl : (flow s).length ≤ 4194304 := by have := flow_len s; omega
  have hok := flow_ok s
  have hcat := hok.cat
  by_cases h0 : wd < 1 ∨ (flow s).length = 0
  · have hT : linesT s wd mode = [] := by
      unfold linesT
      split
      · rfl
      · rename_i h1
        have : flow s = [] := List.length_eq_zero_iff.1 (h0.resolve_left h1)
        rw [this]; rfl
    rw [hT] at HL
    obtain ⟨N, hN⟩ : ∃ N, (flow s).length = N := ⟨_, rfl⟩
    rw [hN] at HF h0
    generalize flow s = X at *
    clear hT hok hcat hN hfl
    go_enter Try.func8, Try.ntmps8
    go_wp2_with fail
    refine (HL.out _).mono ?_
    rintro e w1 ⟨v1, rfl, hown1, hb1⟩
    obtain ⟨a1, c1, rfl⟩ := run.own_value hown1
    go_wp2_with fail
    refine (HF.out _).mono ?_
    rintro e w2 ⟨v2, rfl, hown2, hb2⟩
    obtain ⟨a2, c2, rfl⟩ := run.own_value hown2
    have hb12 := hb1.trans (hb2.mono hb1.size)
    clear hown1 hown2 HL HF
    by_cases h1 : wd < 1
    · clear h0
      go_wp2_with fail
      refine (HK.out _).mono ?_
      rintro e w3 ⟨rfl, hb3⟩
      have hb := hb12.trans (hb3.mono hb12.size)
      go_wp2
      go_ret
      exact ⟨rfl, hb⟩
    · obtain rfl : N = 0 := h0.resolve_left h1
      clear h0
      go_wp2_with fail
      refine (HK.out _).mono ?_
      rintro e w3 ⟨rfl, hb3⟩
      have hb := hb12.trans (hb3.mono hb12.size)
      go_wp2
      go_ret
      exact ⟨rfl, hb⟩
  · have h1 : ¬ wd < 1 := fun h => h0 (.inl h)
    have hx0 : (flow s).length ≠ 0 := fun h => h0 (.inr h)
    have hX : flow s ≠ [] := fun e => hx0 (by rw [e]; rfl)
    have hT : linesT s wd mode = linesTo wd.toNat (modeOf mode) (rowsT (flow s)) (rowsT (flow s)).length := by unfold linesT; rw [if_neg h1]
    have hall := linesTo_all wd.toNat (modeOf mode) (flow s) hX (flow_full s)
    obtain ⟨hat0, hat⟩ := lines_at wd.toNat (modeOf mode) (flow s) hX ⟨e0, 0, 0, e0⟩
    rw [← hT] at hall hat hat0
    have hLlen : (linesT s wd mode).length ≤ 4194305 := by
      rw [hT]
      have h2 := linesTo_len wd.toNat (modeOf mode) (rowsT (flow s)) _ (Nat.le_refl _)
      have h3 := weigh_take (rowsT (flow s)) (rowsT (flow s)).length
      have h4 := rowsT_weigh (flow s)
      omega
    have HTX := run.hid (fun v w' (h : RS w' v (flow s)) => lawText_any v (flow s) w' h.reads (by omega) (by omega))
    have HJ : Hid (joinT (flow s) = ⟨(catL (flow s)).toArray⟩) := rfl
    generalize linesT s wd mode = L at *
    have HAT := run.hid hat
    have HTK := run.hid (fun i (h : i < L.length) => linesL_take ⟨e0, 0, 0, e0⟩ h)
    have HTL := run.hid (fun i => linesL_take_le L i)
    have HEND : Hid (linesL (L.take L.length) = catL (flow s)) := by show _ = _; rw [List.take_of_length_le (Nat.le_refl _)]; exact hall
    have hLn : (linesL L).length ≤ 268435456 := by rw [hall]; omega
    have hx1 : 0 < (flow s).length := by omega
    generalize joinT (flow s) = jt at *
    generalize catL (flow s) = ct at *
    obtain ⟨M, hM⟩ : ∃ M, (flow s).length = M := ⟨_, rfl⟩
    have HFX : Hid (∀ w, Calls Try.prog 13 #[.string s] w fun e w' => ∃ a c, e = .returned (.slice a M c) ∧ Hid (RS w' (.slice a M c) (flow s)) ∧ Below w.heap.size w w') := fun w => (HF.out w).mono fun e w' ⟨v, he, ho, hb⟩ => by
      obtain ⟨a, c, rfl⟩ := run.own_value ho
      rw [hM] at ho he
      rw [← hM] at ho
      exact ⟨a, c, he, by have := rs_own ho; rw [hM] at this; exact this, hb⟩
    rw [hM] at hx0 hx1
    have hM0 : ((M : Int) == 0) = false := by rw [beq_eq_false_iff_ne]; omega
    generalize flow s = X at *
    clear hat hall h0 hT HF hok hcat hM hfl hX
    go_enter Try.func8, Try.ntmps8
    go_wp2_with fail
    refine (HL.out _).mono ?_
    rintro e w1 ⟨v1, rfl, hown1, hb1⟩
    have HR1 := run.hid (rl_own hown1)
    have hs1 := hb1.size
    clear hown1 HL
    go_wp2_with fail
    refine (HFX.out _).mono ?_
    rintro e w2 ⟨a2, c2, rfl, HR2, hb2⟩
    have hb12 := hb1.trans (hb2.mono hs1)
    have hs2 := hb12.size
    have HR1' := run.hid (HR1.out.below hb2)
    clear HFX HR1
    obtain ⟨a1, c1, rfl, hcl⟩ := HR1'.out
    have HCL := run.hid hcl
    clear hcl HR1'
    generalize hN : L.length = N at *
    go_wp2_with fail
    go_loopw [9, 10] (fun vb vi wr => ∃ i : Nat, i ≤ N ∧ vi = .int .i64 i ∧ wr.ownsRow w2.heap.size 5 1 vb (linesL (L.take i)).length (Lib.byteCells (linesL (L.take i))) ∧ Below w2.heap.size w2 wr) (fun _ vi _ => ((N : Int) - intOf vi).toNat)
    case atStart => exact ⟨0, by omega, rfl, World.ownsRow_nil _ _ _ _, Below.refl _ _⟩
    case round =>
      obtain ⟨i, hi', rfl, hown, hbel⟩ := hrel
      by_cases hlt : i < N
      · obtain ⟨b1, o1, rfl, hlb1, x0, x1, x2, x3⟩ := HCL.out i hlt
        replace x0 := (hbel.cell (p := ⟨b1, o1 + i * 4, none⟩) hlb1).trans x0
        replace x1 := (hbel.cell (p := ⟨b1, o1 + i * 4 + 1, none⟩) hlb1).trans x1
        replace x2 := (hbel.cell (p := ⟨b1, o1 + i * 4 + 2, none⟩) hlb1).trans x2
        replace x3 := (hbel.cell (p := ⟨b1, o1 + i * 4 + 3, none⟩) hlb1).trans x3
        obtain ⟨hf3, hfe⟩ := HAT.out i hlt
        have HTi := run.hid (HTK.out i hlt)
        have hlen := HTL.out (i + 1)
        rw [HTi.out, List.length_append] at hlen
        generalize L.getD i ⟨e0, 0, 0, e0⟩ = ln at *
        obtain ⟨tt, tw, tf, tl⟩ := ln
        dsimp only at x0 x1 x2 x3 hf3 hfe
        generalize linesL (L.take i) = tk at *
        have hsz := hbel.size
        have hneb : some wr.heap.size ≠ u9.ownBlock := fun e => by have := (hown.lt _ e.symm).2; omega
        have hlE := toList_eq_iff tl e0
        have hlE0 : (tl.toList == e0.toList) = (tl.toList == ([] : List UInt8)) := by rw [show e0.toList = ([] : List UInt8) from by simp [e0, ByteArray.toList_eq]]
        clear HCL HAT HTK HTL HEND hN HTX HJ HR2 HK
        by_cases hl : tl = e0
        · have hlL : (lineL ⟨tt, tw, tf, tl⟩).length = tt.size + (backL tf).length := by unfold lineL; rw [if_pos hl, List.length_append]; rfl
          rw [hlL] at hlen
          clear hlE hlL hlE0
          subst hl
          unfold e0 at x3
          have HLL := run.hid (show lineL ⟨tt, tw, tf, e0⟩ = tt.data.toList ++ backL tf from by simp [lineL])
          have hq2 : tt.data.toList.length = tt.size := rfl
          have hlen1 : tk.length + tt.size + 1 ≤ 140737488355328 := by omega
          go_wp2_with (at_builtin; refine Lib.wpList_append_own_string _ rfl _ _ 41 9 rfl w2.heap.size 5 i0 Try.underlying41 Try.underlying9 hi hz0 hz1 hz2 _ _ _ rfl (hown.alloc _) _ rfl (by unfold maxLen; omega) (by omega) (by simp; omega) ?_)
          intro v' w3 hown3 hgrow hnil
          have hbel3 := run.below_append (hbel.alloc hsz _) (hown.alloc _) hgrow (by simp; omega)
          have hbx3 := (hgrow.block wr.heap.size (by simp) hneb).trans (run.heap_new wr _)
          have hs3 := hgrow.size
          have hs3' : wr.heap.size < w3.heap.size := by simp at hs3; omega
          rw [Lib.strCells_eq, ← Lib.byteCells_append, show tk.length + tt.size = (tk ++ tt.data.toList).length by rw [List.length_append]; rfl] at hown3
          have hl3 : (tk ++ tt.data.toList).length + 1 ≤ 140737488355328 := by rw [List.length_append]; omega
          generalize htk3 : tk ++ tt.data.toList = tk3 at *
          replace htk3 := run.hid htk3
          obtain ⟨q0, q1, q2, q3⟩ := box_cells hbx3
          clear hown hgrow hnil hbel hlen1 hq2
          go_wp2_with fail
          refine (lawBack_any _ _ _ _ hf3 _).mono ?_
          rintro e w4 ⟨rfl, hb4⟩
          have hown4 := run.own_below hown3 hb4
          have hbel4 := hbel3.trans (hb4.mono hbel3.size)
          have hbx4 := (hb4.block wr.heap.size hs3').trans hbx3
          have hs4 := hbel4.size
          have hs44 := hb4.size
          have hneb4 := own_ne_box hown4 hbx4 (by decide)
          have hbb := strB_size tf
          have HBB := run.hid (strB_bytes tf)
          generalize strB tf = bb at *
          have hq3 : bb.data.toList.length = bb.size := rfl
          clear hown3 hb4 hbx3 q0 q1 q2 q3 hbel3 hs3
          go_wp2_with (at_builtin; refine Lib.wpList_append_own_string _ rfl _ _ 41 9 rfl w2.heap.size 5 i0 Try.underlying41 Try.underlying9 hi hz0 hz1 hz2 _ _ _ rfl (hown4) _ rfl (by unfold maxLen; omega) (by omega) (by omega) ?_)
          intro v5 w5 hown5 hgrow hnil
          have hbel5 := run.below_append hbel4 hown4 hgrow (by omega)
          have hbx5 := (hgrow.block wr.heap.size (by omega) hneb4).trans hbx4
          rw [Lib.strCells_eq, ← Lib.byteCells_append, show tk3.length + bb.size = (tk3 ++ bb.data.toList).length by rw [List.length_append]; rfl, HBB.out, ← htk3.out, List.append_assoc, ← HLL.out, ← HTi.out] at hown5
          obtain ⟨q0, q1, q2, q3⟩ := box_cells hbx5
          clear hown4 hgrow hnil hbel4 hbx4 hbx5 HBB HLL HTi htk3 hl3 hq3 hbb hs4 hs44 hneb4 hneb hlen
          by_cases hlast : i + 1 = N
          · obtain rfl : tf = 0 := hfe.1 hlast
            have hl1 : ((i : Int) == (N : Int) - 1) = true := by rw [beq_iff_eq]; omega
            clear hfe
            go_wp2
            go_roundw
            case rel => exact ⟨i + 1, by omega, by go_num, hown5, hbel5⟩
            case measure => simp [intOf]; omega
          · have hl1 : ((i : Int) == (N : Int) - 1) = false := by rw [beq_eq_false_iff_ne]; omega
            have hl2 : ((tf : Int) == 0) = false := by rw [beq_eq_false_iff_ne]; intro e; exact hlast (hfe.2 (by omega))
            have hl3 : (0 : Int) ≤ (tf : Int) := by omega
            have hl4 : ((tf : Nat) : Int) ≤ 3 := by omega
            clear hfe
            go_wp2
            go_roundw
            case rel => exact ⟨i + 1, by omega, by go_num, hown5, hbel5⟩
            case measure => simp [intOf]; omega
        · have hlL : (lineL ⟨tt, tw, tf, tl⟩).length = tl.size + (backL tf).length := by unfold lineL; rw [if_neg hl, List.length_append]; rfl
          rw [hlL] at hlen
          have hl1 : (tl.toList == ([] : List UInt8)) = false := by rw [← hlE0]; rw [hlE]; exact decide_eq_false hl
          have hl0 : ¬ tl.toList = [] := fun e => by rw [e] at hl1; simp at hl1
          have hl2 : tl.toList.isEmpty = false := by rw [← Bool.not_eq_true, List.isEmpty_iff]; exact hl0
          have HLE := run.hid hl
          clear hl hlE hlL hlE0
          have HLL := run.hid (show lineL ⟨tt, tw, tf, tl⟩ = tl.data.toList ++ backL tf from by unfold lineL; rw [if_neg HLE.out])
          have hq2 : tl.data.toList.length = tl.size := rfl
          have hlen1 : tk.length + tl.size + 1 ≤ 140737488355328 := by omega
          go_wp2_with (at_builtin; refine Lib.wpList_append_own_string _ rfl _ _ 41 9 rfl w2.heap.size 5 i0 Try.underlying41 Try.underlying9 hi hz0 hz1 hz2 _ _ _ rfl (hown.alloc _) _ rfl (by unfold maxLen; omega) (by omega) (by simp; omega) ?_)
          intro v' w3 hown3 hgrow hnil
          have hbel3 := run.below_append (hbel.alloc hsz _) (hown.alloc _) hgrow (by simp; omega)
          have hbx3 := (hgrow.block wr.heap.size (by simp) hneb).trans (run.heap_new wr _)
          have hs3 := hgrow.size
          have hs3' : wr.heap.size < w3.heap.size := by simp at hs3; omega
          rw [Lib.strCells_eq, ← Lib.byteCells_append, show tk.length + tl.size = (tk ++ tl.data.toList).length by rw [List.length_append]; rfl] at hown3
          have hl3 : (tk ++ tl.data.toList).length + 1 ≤ 140737488355328 := by rw [List.length_append]; omega
          generalize htk3 : tk ++ tl.data.toList = tk3 at *
          replace htk3 := run.hid htk3
          obtain ⟨q0, q1, q2, q3⟩ := box_cells hbx3
          clear hown hgrow hnil hbel hlen1 hq2
          go_wp2_with fail
          refine (lawBack_any _ _ _ _ hf3 _).mono ?_
          rintro e w4 ⟨rfl, hb4⟩
          have hown4 := run.own_below hown3 hb4
          have hbel4 := hbel3.trans (hb4.mono hbel3.size)
          have hbx4 := (hb4.block wr.heap.size hs3').trans hbx3
          have hs4 := hbel4.size
          have hs44 := hb4.size
          have hneb4 := own_ne_box hown4 hbx4 (by decide)
          have hbb := strB_size tf
          have HBB := run.hid (strB_bytes tf)
          generalize strB tf = bb at *
          have hq3 : bb.data.toList.length = bb.size := rfl
          clear hown3 hb4 hbx3 q0 q1 q2 q3 hbel3 hs3
          go_wp2_with (at_builtin; refine Lib.wpList_append_own_string _ rfl _ _ 41 9 rfl w2.heap.size 5 i0 Try.underlying41 Try.underlying9 hi hz0 hz1 hz2 _ _ _ rfl (hown4) _ rfl (by unfold maxLen; omega) (by omega) (by omega) ?_)
          intro v5 w5 hown5 hgrow hnil
          have hbel5 := run.below_append hbel4 hown4 hgrow (by omega)
          have hbx5 := (hgrow.block wr.heap.size (by omega) hneb4).trans hbx4
          rw [Lib.strCells_eq, ← Lib.byteCells_append, show tk3.length + bb.size = (tk3 ++ bb.data.toList).length by rw [List.length_append]; rfl, HBB.out, ← htk3.out, List.append_assoc, ← HLL.out, ← HTi.out] at hown5
          obtain ⟨q0, q1, q2, q3⟩ := box_cells hbx5
          clear hown4 hgrow hnil hbel4 hbx4 hbx5 HBB HLL HTi htk3 hl3 hq3 hbb hs4 hs44 hneb4 hneb hlen
          by_cases hlast : i + 1 = N
          · obtain rfl : tf = 0 := hfe.1 hlast
            have hl1 : ((i : Int) == (N : Int) - 1) = true := by rw [beq_iff_eq]; omega
            clear hfe
            go_wp2
            go_roundw
            case rel => exact ⟨i + 1, by omega, by go_num, hown5, hbel5⟩
            case measure => simp [intOf]; omega
          · have hl1 : ((i : Int) == (N : Int) - 1) = false := by rw [beq_eq_false_iff_ne]; omega
            have hl2 : ((tf : Int) == 0) = false := by rw [beq_eq_false_iff_ne]; intro e; exact hlast (hfe.2 (by omega))
            have hl3 : (0 : Int) ≤ (tf : Int) := by omega
            have hl4 : ((tf : Nat) : Int) ≤ 3 := by omega
            clear hfe
            go_wp2
            go_roundw
            case rel => exact ⟨i + 1, by omega, by go_num, hown5, hbel5⟩
            case measure => simp [intOf]; omega
      · obtain rfl : i = N := by omega
        rw [HEND.out] at hown
        have hj := HJ.out
        subst hj
        have HTX2 := run.hid (fun w' (h : w'.ownsRow w2.heap.size 5 1 u9 ct.length (Lib.byteCells ct) ∧ (convert 41 9 u9).run Try.prog w' = .ok (.string ⟨ct.toArray⟩) w' ∧ Below w2.heap.size w2 w') => HTX.out _ w' (HR2.out.below h.2.2))
        have hn0 : decide ((0 : Int) < (i : Int)) = true := decide_eq_true (by omega)
        have hst := backHeld_of hown.drew hbel.drew
        clear HCL HAT HTK HTL HEND hN HTX HJ HR2 hown hlt
        go_wp2_with fail
        go_region_held3 (fun w' => w'.ownsRow w2.heap.size 5 1 u9 ct.length (Lib.byteCells ct) ∧ (convert 41 9 u9).run Try.prog w' = .ok (.string ⟨ct.toArray⟩) w' ∧ Below w2.heap.size w2 w')
          (first
            | assumption
            | exact hst
            | exact keepBack (by assumption) hbt
            | exact keepBack (by assumption) hbk
            | go_keep
            | (trace_state; fail))
          (first
            | (go_at_call 27; refine (HTX2.out _ (by assumption)).mono ?_; rintro e w4 ⟨rfl, hbt⟩)
            | (go_at_call 16; refine (HK.out _).mono ?_; rintro e w5 ⟨rfl, hbk⟩))
        rename_i hH
        have hb := hb12.trans (hH.2.2.mono hs2)
        go_wp2
        go_ret
        exact ⟨rfl, hb⟩

end Go.Proofs.Ytgniobgadilpgaa.wrp
