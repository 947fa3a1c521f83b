/-
  Clusters put in the place of others: in a gap, in an editor.
-/
import Derived.Test.YtgfjaegjkklcpaaEdGapOf
namespace Go.Proofs.Ytgfjaegjkklcpaa.ed
open Go Go.RowKit Go.Proofs
set_option linter.unusedVariables false
theorem gap_insert {g lb : Nat} {F H : List TV} {w : World} (h : GapOf g lb F w) (i : Nat) (a : Option Addr) (c : Nat) (hs : Src 2 w a H.length c (cellsT H)) (hi : i ≤ F.length) (hF : F.length ≤ 1048576) (hH : H.length ≤ 1048576) (hfar : ∀ b off, a = some ⟨b, off, none⟩ → b ≠ g ∧ b ≠ lb) :
    Calls Try.prog 68 #[.pointer (some ⟨g, 0, none⟩), .int .i64 (i : Nat), .slice a H.length c] w fun e w' => e = .returned (.bool true) ∧ ∃ lb', GapOf g lb' (F.take i ++ H ++ F.drop i) w' ∧ (lb' = lb ∨ w.heap.size ≤ lb') ∧ Kept (fun b => b = g ∨ b = lb) w w' := by
  obtain ⟨n, cap, f, u, A, hG, hc, hn, hl⟩ := h
  refine (edC.insert_any hG hc (cellsT_one F) i a H.length c (cellsT H) hs (by omega) hn (by omega) hfar).mono ?_
  rintro e w' ⟨rfl, lb', n', cap', U', A', hG', hc', hl', hlb, hmx, hk⟩
  refine ⟨rfl, lb', ⟨n', cap', i + H.length, U', A', hG', ?_, by omega, ?_⟩, hlb, hk⟩
  · rw [cellsT_app, cellsT_app, ← cellsT_take F i (by omega), ← cellsT_drop F (by omega)]
    exact hc'
  · rw [List.length_append, List.length_append, List.length_take, List.length_drop]
    omega
set_option maxRecDepth 100000 in
set_option maxHeartbeats 2000000 in
theorem turn_any {b g lb : Nat} {F H : List TV} {ca an : Int} {sv : Value} {dn : Int} {w : World} (h : Ed b g lb F ca an sv dn w) (i m : Nat) (a : Option Addr) (c : Nat) (nca : Int) (hs : Src 2 w a H.length c (cellsT H)) (him : i + m ≤ F.length) (hF : F.length ≤ 1048576) (hH : H.length ≤ 1048576) (hfar : ∀ k off, a = some ⟨k, off, none⟩ → k ≠ g ∧ k ≠ lb) :
    Calls Try.prog 47 #[.pointer (some ⟨b, 0, none⟩), .int .i64 (i : Nat), .int .i64 (m : Nat), .slice a H.length c, .int .i64 nca] w fun e w' => e = .returned (.tuple #[]) ∧ ∃ lb', Ed b g lb' (F.take i ++ H ++ F.drop (i + m)) nca (-1) sv dn w' ∧ (lb' = lb ∨ w.heap.size ≤ lb') ∧ Kept (fun x => x = b ∨ x = g ∨ x = lb) w w' := by
  have hbg := h.bg
  have hbl := h.bl
  have hbox := h.box
  have hblt := (Array.getElem?_eq_some_iff.1 h.box).1
  have hglt : lb < w.heap.size := by
    obtain ⟨n, cap, f, u, A, hG, -⟩ := h.gap
    exact (Array.getElem?_eq_some_iff.1 hG.hl).1
  have c0 := blk_cell h.box 0
  change w.cell? _ = some (.pointer (some ⟨g, 0, none⟩)) at c0
  have HDE := run.hid (gap_delete h.gap i m him hF)
  have HIN := run.hid (fun (X : World) (lb1 : Nat) (hX : GapOf g lb1 (F.take i ++ F.drop (i + m)) X) (hlb : lb1 = lb ∨ w.heap.size ≤ lb1) (hk : Kept (fun x => x = g ∨ x = lb) w X) => gap_insert hX i a c (hs.kept hk (fun k off e => by rintro (rfl | rfl); exact (hfar _ _ e).1 rfl; exact (hfar _ _ e).2 rfl)) (by rw [List.length_append, List.length_take, List.length_drop]; omega) (by rw [List.length_append, List.length_take, List.length_drop]; omega) hH (fun k off e => ⟨(hfar k off e).1, by
    rcases hlb with rfl | hlb
    · exact (hfar k off e).2
    · rcases hs.at' with ⟨h1, -⟩ | ⟨k', off', h1, hlt, -⟩
      · rw [h1] at e; cases e
      · rw [h1] at e
        simp only [Option.some.injEq, Addr.mk.injEq] at e
        omega⟩))
  have HT := run.hid (show (F.take i ++ F.drop (i + m)).take i ++ H ++ (F.take i ++ F.drop (i + m)).drop i = F.take i ++ H ++ F.drop (i + m) from by
    have hl : (F.take i).length = i := by rw [List.length_take]; omega
    rw [List.take_append_of_le_length (by omega), List.take_of_length_le (by omega), List.drop_append_of_le_length (by omega), List.drop_of_length_le (by omega), List.nil_append])
  have HBX := run.hid hbox
  clear h hs hbox
  generalize H.length = N at *
  go_enter Try.func47, Try.ntmps47
  go_wp2_with fail
  refine HDE.out.mono ?_
  rintro e w1 ⟨lb1, hG1, ⟨v, rfl⟩, hlb1, hk1⟩
  have hbx1 := (hk1.block b hblt (by omega)).trans HBX.out
  have c1 := blk_cell hbx1 0
  change w1.cell? _ = some (.pointer (some ⟨g, 0, none⟩)) at c1
  have HI := run.hid (HIN.out w1 lb1 hG1 hlb1 hk1)
  have HB1 := run.hid hbx1
  have HK := run.hid (And.intro hk1 hlb1)
  clear HDE HIN hG1 hlb1 hk1 hbx1 c0
  go_wp2_with fail
  refine HI.out.mono ?_
  rintro e w2 ⟨rfl, lb2, hG2, hlb2, hk2⟩
  obtain ⟨hk1, hlb1⟩ := HK.out
  rw [HT.out] at hG2
  have hs1 := hk1.size
  have hblb : b ≠ lb1 := by omega
  have hbx2 := (hk2.block b (by omega) (by omega)).trans HB1.out
  have hs2 := hk2.size
  have hE : Ed b g lb2 (F.take i ++ H ++ F.drop (i + m)) nca (-1) sv dn ((w2.setCell ⟨b, 1, none⟩ (.int .i64 nca)).setCell ⟨b, 2, none⟩ (.int .i64 (-1))) := by
    obtain ⟨n, cap, f, u, A, hG, hr⟩ := hG2
    have hkk : Kept (fun x => x = b) w2 ((w2.setCell ⟨b, 1, none⟩ (.int .i64 nca)).setCell ⟨b, 2, none⟩ (.int .i64 (-1))) := Kept.setCell (b := b) (i := 2) (Kept.setCell (b := b) (i := 1) (Kept.refl (fun x => x = b) w2) (.inl rfl) _) (.inl rfl) _
    have hb2 : b ≠ lb2 := by omega
    exact ⟨heap_setCell_same _ _ 2 _ _ _ (heap_setCell_same _ _ 1 _ _ _ hbx2), ⟨n, cap, f, u, A, hG.kept hkk (by omega) (by omega), hr⟩, hbg, hb2⟩
  have hkf : Kept (fun x => x = b ∨ x = g ∨ x = lb) w ((w2.setCell ⟨b, 1, none⟩ (.int .i64 nca)).setCell ⟨b, 2, none⟩ (.int .i64 (-1))) := by
    have hkm : Kept (fun x => x = b ∨ x = g ∨ x = lb) w w2 := (hk1.more (S' := fun x => x = b ∨ x = g ∨ x = lb) (fun k _ h => Or.inr h)).trans hk2 (fun k hk h => by
      rcases h with h | h
      · exact .inr (.inl h)
      · exact .inr (.inr (by omega)))
    exact Kept.setCell (b := b) (i := 2) (Kept.setCell (b := b) (i := 1) hkm (.inl (.inl rfl)) _) (.inl (.inl rfl)) _
  have HF := run.hid (And.intro hE (And.intro (show lb2 = lb ∨ w.heap.size ≤ lb2 by omega) hkf))
  have d0 := blk_cell hbx2 1
  have d1 := blk_cell hbx2 2
  change w2.cell? _ = some (.int .i64 ca) at d0
  change w2.cell? _ = some (.int .i64 an) at d1
  have f0 := blk_free hbx2 1
  have f1 := blk_free hbx2 2
  clear hE hkf hbx2 hk1 hk2 hlb1 hlb2 hG2 HB1 HBX HI HT HK
  go_wp2
  first | go_end0 | (refine bodyPost_ret (results_none rfl _ _ _) rfl ?_)
  exact ⟨rfl, _, HF.out.1, HF.out.2.1, HF.out.2.2⟩
end Go.Proofs.Ytgfjaegjkklcpaa.ed
