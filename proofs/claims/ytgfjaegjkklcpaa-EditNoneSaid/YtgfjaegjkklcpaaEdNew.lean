/-
  A new editor: the line of a text, no longer than it may be, in a gap.
-/
import Derived.Test.YtgfjaegjkklcpaaEdLine
import Derived.Test.YtgfjaegjkklcpaaEdGapC
namespace Go.Proofs.Ytgfjaegjkklcpaa.ed
open Go Go.RowKit Go.Proofs
set_option linter.unusedVariables false
/-- clusters, as many as the bytes of a text may be -/
def cutL : List TV → Nat → List TV
  | [], _ => []
  | q :: F, n => if 65536 < n + q.1.size then [] else q :: cutL F (n + q.1.size)
def newT (s : ByteArray) : List TV := cutL (lineT s) 0
def sizeL (F : List TV) : Nat := (textL F).length
theorem sizeL_snoc {F : List TV} {i : Nat} (h : i < F.length) : sizeL (F.take (i + 1)) = sizeL (F.take i) + (F.getD i tv0).1.size := by
  unfold sizeL
  rw [textL_snoc h, List.length_append]
  rfl
theorem cutL_at : ∀ (F : List TV) (n i : Nat), i ≤ F.length → (∀ j, j ≤ i → n + sizeL (F.take j) ≤ 65536) → (i = F.length ∨ 65536 < n + sizeL (F.take (i + 1))) → cutL F n = F.take i
  | [], n, i, hi, _, _ => by simp [cutL]
  | q :: F, n, 0, _, _, h => by
    rcases h with h | h
    · simp at h
    · have : sizeL ((q :: F).take 1) = q.1.size := by unfold sizeL textL; simp
      rw [this] at h
      unfold cutL
      rw [if_pos h]
      rfl
  | q :: F, n, i + 1, hi, hle, h => by
    have hs : ∀ j, sizeL ((q :: F).take (j + 1)) = q.1.size + sizeL (F.take j) := fun j => by
      unfold sizeL textL
      rw [List.take_succ_cons, List.flatMap_cons, List.length_append]
      rfl
    have h1 := hle 1 (by omega)
    have e1 : sizeL ((q :: F).take 1) = q.1.size := by unfold sizeL textL; simp
    rw [e1] at h1
    unfold cutL
    rw [if_neg (by omega), cutL_at F (n + q.1.size) i (by simpa using hi) (fun j hj => by have := hle (j + 1) (by omega); rw [hs] at this; omega) (by
      rcases h with h | h
      · left; simpa using h
      · right; rw [hs] at h; omega)]
    rfl
theorem cellsT_take (F : List TV) : ∀ i, i ≤ F.length → (cellsT F).take (i * 2) = cellsT (F.take i) := by
  intro i hi
  have e : cellsT F = cellsT (F.take i) ++ cellsT (F.drop i) := by
    conv => lhs; rw [← List.take_append_drop i F]
    unfold cellsT
    rw [List.flatMap_append]
  rw [e, List.take_append_of_le_length (by rw [cellsT_length, List.length_take]; omega), List.take_of_length_le (by rw [cellsT_length, List.length_take]; omega)]
/-- a stretch of an owned row, read -/
theorem src_own {X : World} {B n : Nat} {a : Option Addr} {cap : Nat} {F : List TV} (h : X.ownsRow B 73 2 (.slice a n cap) n (cellsT F)) (hn : F.length = n) {i : Nat} (hi : i ≤ n) : Src 2 X a i cap (cellsT (F.take i)) := by
  obtain ⟨-, a', c', e, hc, h0⟩ := run.readsN_own h
  simp only [Value.slice.injEq, true_and] at e
  obtain ⟨rfl, rfl⟩ := e
  refine ⟨by rw [cellsT_length, List.length_take]; congr 1; omega, cellsT_one _, ?_⟩
  cases a with
  | none =>
    left
    have hcap := h0 rfl
    rcases h.2 with ⟨e, h1⟩ | ⟨g, c, cur, e, -⟩
    · exact ⟨rfl, by omega, hcap⟩
    · cases e
  | some ad =>
    right
    obtain ⟨b, off, spot⟩ := ad
    by_cases hne : cellsT F = []
    · have hF : n = 0 := by have := cellsT_length F; rw [hne] at this; simp at this; omega
      rcases h.2 with ⟨e, h1⟩ | ⟨g, c, cur, e, h2, h3, -⟩
      · cases e
      · simp only [Value.slice.injEq, Option.some.injEq] at e
        obtain ⟨e, -, -⟩ := e
        refine ⟨g, 0, by rw [e], (Array.getElem?_eq_some_iff.1 h3).1, fun j v hj => ?_⟩
        have : F.take i = [] := List.length_eq_zero_iff.1 (by rw [List.length_take]; omega)
        rw [this] at hj
        simp [cellsT] at hj
    · obtain ⟨b', off', e, hlt, hr⟩ := hc hne
      refine ⟨b', off', e, hlt, fun j v hj => hr j v ?_⟩
      rw [← cellsT_take F i (by omega), List.getElem?_take] at hj
      split at hj
      · exact hj
      · cases hj
theorem flow_size {s : ByteArray} {q : TV} (h : q ∈ Go.Proofs.Ytgfjaegjkklcpaa.wrp.flow s) : q.1.size ≤ 64 := by
  have h1 : q ∈ clu.told (Go.Proofs.Ytgfjaegjkklcpaa.wrp.flowText s) := by
    unfold Go.Proofs.Ytgfjaegjkklcpaa.wrp.flow Go.Proofs.Ytgfjaegjkklcpaa.wrp.kept2 at h
    rw [List.mem_filter] at h
    exact h.1
  unfold clu.told clu.seen at h1
  rw [List.mem_map] at h1
  obtain ⟨p, hp, rfl⟩ := h1
  have h2 := (clu.cl_piece _ _ (Nat.le_refl _) p hp).2.1
  have h3 := (utf.text_length p).2
  show (utf.str (utf.text p)).size ≤ 64
  rw [utf.str_size]
  omega
theorem line_size {s : ByteArray} {i : Nat} (hi : i < (lineT s).length) : ((lineT s).getD i tv0).1.size ≤ 64 := by
  have hm : (lineT s).getD i tv0 ∈ lineT s := by
    rw [List.getD_eq_getElem?_getD, List.getElem?_eq_getElem hi]
    exact List.getElem_mem _
  unfold lineT at hm
  rw [List.mem_map] at hm
  obtain ⟨q, hq, he⟩ := hm
  have h1 := flow_size hq
  have e : (lineT s).getD i tv0 = shownE q := he.symm
  rw [e]
  unfold shownE
  split
  · decide
  · exact h1
/-- what New hands back -/
def NewIs (s : ByteArray) (w : World) (e : Ending) (w' : World) : Prop :=
  ∃ b g lb cap A, e = .returned (.pointer (some ⟨b, 0, none⟩)) ∧ w'.heap[b]? = some (.cells #[.pointer (some ⟨g, 0, none⟩), .int .i64 ((newT s).length : Nat), .int .i64 (-1), .slice none 0 0, .int .i64 0] 80 (0, 0)) ∧ edC.G g lb (newT s).length cap (newT s).length (newT s).length A w' ∧ HasC ((newT s).length * 2) ((newT s).length * 2) ((newT s).length * 2) A (cellsT (newT s)) ∧ w.heap.size ≤ g ∧ w.heap.size ≤ lb ∧ g < b ∧ lb < b ∧ Below w.heap.size w w'
set_option maxRecDepth 100000 in
set_option maxHeartbeats 8000000 in
theorem new_any (s : ByteArray) (w : World) (hs : s.size ≤ 68719476736) : Calls Try.prog 9 #[.string s] w (NewIs s w) := by
  obtain ⟨it, hinf, -, hsz, -⟩ := info_parts edC.info
  have HLI := run.hid (line_any s w hs)
  have hlen := Go.Proofs.Ytgfjaegjkklcpaa.wrp.flow_len s
  have hll := lineT_len s
  have HC := run.hid (fun i => cutL_at (lineT s) 0 i)
  have HIS := run.hid (show ∀ e w', NewIs s w e w' ↔ ∃ b g lb cap A, e = .returned (.pointer (some ⟨b, 0, none⟩)) ∧ w'.heap[b]? = some (.cells #[.pointer (some ⟨g, 0, none⟩), .int .i64 ((cutL (lineT s) 0).length : Nat), .int .i64 (-1), .slice none 0 0, .int .i64 0] 80 (0, 0)) ∧ edC.G g lb (cutL (lineT s) 0).length cap (cutL (lineT s) 0).length (cutL (lineT s) 0).length A w' ∧ HasC ((cutL (lineT s) 0).length * 2) ((cutL (lineT s) 0).length * 2) ((cutL (lineT s) 0).length * 2) A (cellsT (cutL (lineT s) 0)) ∧ w.heap.size ≤ g ∧ w.heap.size ≤ lb ∧ g < b ∧ lb < b ∧ Below w.heap.size w w' from fun _ _ => Iff.rfl)
  have HSZ := run.hid (fun i (hi : i < (lineT s).length) => @line_size s i hi)
  generalize NewIs s w = POST at *
  generalize lineT s = F at *
  have hNb : F.length ≤ 274877906944 := by omega
  clear hlen hll
  have HAT := run.hid (fun i (hi : i < F.length) => @sizeL_snoc F i hi)
  generalize hN : F.length = N at *
  have HN := run.hid hN
  clear hN
  go_enter Try.func9, Try.ntmps9
  go_wp2_with fail
  refine HLI.out.mono ?_
  rintro e w1 ⟨v, rfl, hown, hb1⟩
  obtain ⟨a, cap, rfl⟩ := run.own_value hown
  have HOW := run.hid hown
  have hcapN : N ≤ cap := by
    rcases hown.2 with ⟨e, h0⟩ | ⟨g, c, cur, e, -, -, h1, -⟩
    · omega
    · simp only [Value.slice.injEq] at e
      omega
  clear HLI hown
  go_upto_region 3 with fail
  go_wp2
  go_loopw [11, 4, 3] (fun vi vn vl wr => ∃ i n : Nat, i ≤ N ∧ vi = .int .i64 i ∧ vn = .int .i64 n ∧ vl = .slice a N cap ∧ n ≤ 65536 ∧ n = sizeL (F.take i) ∧ Hid (∀ j, j ≤ i → 0 + sizeL (F.take j) ≤ 65536) ∧ Below w.heap.size w wr ∧ Below w1.heap.size w1 wr) (fun vi _ _ _ => ((N : Int) - intOf vi).toNat)
  case atStart => exact ⟨0, 0, Nat.zero_le _, rfl, rfl, rfl, by omega, rfl, run.hid (fun j hj => by have h0 : j = 0 := (by omega); subst h0; show 0 + 0 ≤ 65536; omega), hb1, Below.refl _ _⟩
  case round =>
    obtain ⟨i, n, hi, rfl, rfl, rfl, hn, hnn, HJ, hbel, hbel1⟩ := hrel
    by_cases hlt : i < N
    · have hown := run.own_below HOW.out hbel1
      obtain ⟨g3, rfl⟩ : ∃ g3, a = some ⟨g3, 0, none⟩ := by
        rcases hown.2 with ⟨e, h0⟩ | ⟨g3, c, cur, e, -⟩
        · omega
        · simp only [Value.slice.injEq] at e
          exact ⟨g3, e.1⟩
      obtain ⟨x0, x1⟩ := own_cells hown (i := i) (by rw [HN.out]; exact hlt)
      have hsn := HAT.out i hlt
      have hsz1 := HSZ.out i hlt
      rw [← hnn] at hsn
      generalize F.getD i tv0 = q at *
      obtain ⟨qt, qw⟩ := q
      dsimp only at x0 x1 hsn hsz1
      have hb2 := run.below_one wr (.cells #[.string qt, .int .i64 (qw : Nat)] 73)
      have hB1 := hbel.trans (hb2.mono hbel.size)
      have hB2 := hbel1.trans (hb2.mono hbel1.size)
      have hqb : qt.size ≤ 64 := hsz1
      by_cases hbig : 65536 < n + qt.size
      · have hbig2 : (65536 : Int) < (n : Int) + (qt.size : Int) := by omega
        have hic : (i : Int) ≤ (cap : Int) := by omega
        have hcut : cutL F 0 = F.take i := HC.out i hi HJ.out (.inr (by rw [hsn]; omega))
        have hlk : (F.take i).length = i := by rw [List.length_take, HN.out]; omega
        have his := HIS.out
        rw [hcut, hlk] at his
        have HISk := run.hid his
        have HNG := run.hid (edC.new_any (w := (wr.alloc (.cells #[.string qt, .int .i64 (qw : Nat)] 73))) (some ⟨g3, 0, none⟩) i cap (cellsT (F.take i)) (src_own (run.own_below HOW.out hB2) HN.out hi) (by omega))
        have HBL := run.hid (hB1)
        clear hcut hlk his HIS HC HOW HAT HJ hown hsn hnn hb2 hB1 hB2 hbel hbel1
        go_wp2_with fail
        refine HNG.out.mono ?_
        rintro e w5 ⟨g, lb, cap2, A, rfl, hG, hH, hg1, hg2, hb5⟩
        have hgl := (Array.getElem?_eq_some_iff.1 hG.hg).1
        have hll := (Array.getElem?_eq_some_iff.1 hG.hl).1
        have hB5 := HBL.out.trans (hb5.mono HBL.out.size)
        have hs5 := hB5.size
        have hsb := HBL.out.size
        have hG6 := hG.kept (S := fun _ => False) ((Kept.refl _ w5).alloc (.cells #[.pointer (some ⟨g, 0, none⟩), .int .i64 (i : Nat), .int .i64 (-1), .slice none 0 0, .int .i64 0] 80)) (fun h => h) (fun h => h)
        have hfin := (HISk.out (.returned (.pointer (some ⟨w5.heap.size, 0, none⟩))) (w5.alloc (.cells #[.pointer (some ⟨g, 0, none⟩), .int .i64 (i : Nat), .int .i64 (-1), .slice none 0 0, .int .i64 0] 80))).2 ⟨w5.heap.size, g, lb, cap2, A, rfl, heap_alloc_new _ _, hG6, hH, by omega, by omega, hgl, hll, hB5.alloc hs5 _⟩
        have HFIN := run.hid hfin
        clear hG hH hG6 hfin HISk hB5 hb5
        go_wp2
        first | exact HFIN.out | exact bodyPost_ret (v := _) rfl rfl HFIN.out | exact ⟨rfl, _, rfl, HFIN.out⟩
      · have hbig2 : ¬ (65536 : Int) < (n : Int) + (qt.size : Int) := by omega
        have HF := run.hid (And.intro hB1 hB2)
        have HJ2 := run.hid (show ∀ j, j ≤ i + 1 → 0 + sizeL (F.take j) ≤ 65536 from fun j hj => by
          rcases Nat.lt_or_ge i j with h | h
          · have e : j = i + 1 := by omega
            subst e
            rw [hsn]
            omega
          · exact HJ.out j h)
        have HSN := run.hid hsn
        clear hown hsn hnn HJ hb2 hB1 hB2 hbel hbel1 HC HAT HIS HOW
        go_wp2
        go_roundw
        case rel => exact ⟨i + 1, n + qt.size, by omega, by go_num, by go_num, rfl, by omega, HSN.out.symm, HJ2, HF.out.1, HF.out.2⟩
        case measure => simp [intOf]; omega
    · obtain rfl : i = N := by omega
      have hcut : cutL F 0 = F.take i := HC.out i (Nat.le_refl _) HJ.out (.inl rfl)
      have hlk : (F.take i).length = i := by rw [List.length_take, HN.out]; omega
      have his := HIS.out
      rw [hcut, hlk] at his
      have HISk := run.hid his
      have HNG := run.hid (edC.new_any (w := wr) a i cap (cellsT (F.take i)) (src_own (run.own_below HOW.out hbel1) HN.out (Nat.le_refl _)) (by omega))
      have HBL := run.hid (hbel)
      clear hcut hlk his HIS HC HOW HAT HJ hbel hbel1
      go_wp2_with fail
      refine HNG.out.mono ?_
      rintro e w5 ⟨g, lb, cap2, A, rfl, hG, hH, hg1, hg2, hb5⟩
      have hgl := (Array.getElem?_eq_some_iff.1 hG.hg).1
      have hll := (Array.getElem?_eq_some_iff.1 hG.hl).1
      have hB5 := HBL.out.trans (hb5.mono HBL.out.size)
      have hs5 := hB5.size
      have hsb := HBL.out.size
      have hG6 := hG.kept (S := fun _ => False) ((Kept.refl _ w5).alloc (.cells #[.pointer (some ⟨g, 0, none⟩), .int .i64 (i : Nat), .int .i64 (-1), .slice none 0 0, .int .i64 0] 80)) (fun h => h) (fun h => h)
      have hfin := (HISk.out (.returned (.pointer (some ⟨w5.heap.size, 0, none⟩))) (w5.alloc (.cells #[.pointer (some ⟨g, 0, none⟩), .int .i64 (i : Nat), .int .i64 (-1), .slice none 0 0, .int .i64 0] 80))).2 ⟨w5.heap.size, g, lb, cap2, A, rfl, heap_alloc_new _ _, hG6, hH, by omega, by omega, hgl, hll, hB5.alloc hs5 _⟩
      have HFIN := run.hid hfin
      clear hG hH hG6 hfin HISk hB5 hb5
      go_wp2
      first | exact HFIN.out | exact bodyPost_ret (v := _) rfl rfl HFIN.out | exact ⟨rfl, _, rfl, HFIN.out⟩
end Go.Proofs.Ytgfjaegjkklcpaa.ed
