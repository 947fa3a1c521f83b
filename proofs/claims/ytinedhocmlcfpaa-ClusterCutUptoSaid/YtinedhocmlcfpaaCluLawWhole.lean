/-
  The law ClusterWhole: the clusters are the clean text.
-/
import Derived.Test.YtinedhocmlcfpaaCluLawCuts
import Derived.Test.YtinedhocmlcfpaaCluSameLaw
import Derived.Test.YtinedhocmlcfpaaUtfRefLists
namespace Go.Proofs.Ytinedhocmlcfpaa.clu
open Go.RowKit Go.Proofs
open Go.Proofs.Ytinedhocmlcfpaa.wid Go.Proofs.Ytinedhocmlcfpaa.utf
set_option linter.unusedVariables false

abbrev TV := ByteArray × Nat
def t0 : TV := (ByteArray.empty, 0)
/-- the bytes of clusters' texts, one behind the other -/
def catN (l : List TV) : List Nat := l.flatMap fun q => bs q.1
theorem catN_take {l : List TV} {i : Nat} (h : i < l.length) : catN (l.take (i + 1)) = catN (l.take i) ++ bs (l.getD i t0).1 := by
  unfold catN
  rw [List.take_succ_eq_append_getElem h, List.flatMap_append]
  simp [List.getD_eq_getElem?_getD, h]
theorem catN_take_le (l : List TV) (i : Nat) : (catN (l.take i)).length ≤ (catN l).length := by
  have h : catN l = catN (l.take i) ++ catN (l.drop i) := by unfold catN; rw [← List.flatMap_append, List.take_append_drop]
  rw [h, List.length_append]; omega
theorem catN_seen : ∀ l : List (List Int), catN (seen l) = text l.flatten
  | [] => rfl
  | p :: t => by
    have e : catN (seen (p :: t)) = bs (str (text p)) ++ catN (seen t) := rfl
    rw [e, catN_seen t, bs_str (text_byte _), List.flatten_cons, text_append]
theorem catN_told (s : ByteArray) : catN (told s) = clean (bs s) := by
  unfold told
  rw [catN_seen, cl_flat _ _ (Nat.le_refl _)]
  rfl
theorem told_at {s : ByteArray} {i : Nat} (h : i < (told s).length) : ∃ p ∈ cl (runes (bs s)), (told s).getD i t0 = (str (text p), wide p) := by
  unfold told at h ⊢
  rw [seen_length] at h
  refine ⟨(cl (runes (bs s)))[i], List.getElem_mem h, ?_⟩
  simp [seen, List.getD_eq_getElem?_getD, h]
theorem piece_runes {s : ByteArray} {p : List Int} (h : p ∈ cl (runes (bs s))) : runes (bs (str (text p))) = p := by
  rw [bs_str (text_byte _), runes_text]
  exact map_fix_of_char (fun r hr => runes_char _ _ (Nat.le_refl _) _ ((cl_piece _ _ (Nat.le_refl _) p h).2.2 r hr))
theorem told_facts {s : ByteArray} {i : Nat} (h : i < (told s).length) : 1 ≤ (runes (bs ((told s).getD i t0).1)).length ∧ (runes (bs ((told s).getD i t0).1)).length ≤ 16 ∧ ((told s).getD i t0).2 ≤ 2 ∧ ((told s).getD i t0).1.size ≤ 64 := by
  obtain ⟨p, hp, e⟩ := told_at h
  obtain ⟨h1, h2, -⟩ := cl_piece _ _ (Nat.le_refl _) p hp
  rw [e, piece_runes hp, str_size]
  have := (text_length p).2
  have h3 := List.length_pos_iff.2 h1
  exact ⟨h3, h2, wide_le p, by omega⟩
theorem told_clean (s : ByteArray) : told (str (clean (bs s))) = told s := by
  unfold told clean
  rw [bs_str (text_byte _)]
  have := runes_clean (bs s)
  unfold clean at this
  rw [this]
theorem bv_bs (s : ByteArray) : Lib.strCells s = bv (bs s) := by
  have h : ∀ c ∈ bs s, c < 256 := by
    intro c hc
    unfold bs at hc
    obtain ⟨u, -, rfl⟩ := List.mem_map.1 hc
    exact u.toNat_lt
  have := cells_bs (bs s) h
  rwa [str_bs] at this
theorem bs_len (s : ByteArray) : (bs s).length = s.size := bs_length s

set_option maxRecDepth 100000 in
set_option maxHeartbeats 4000000 in
theorem lawWhole_any (s : ByteArray) (w : World) (hs : s.size ≤ 1048576) : Calls Try.prog 8 #[.string s] w fun e w' => e = .returned (.bool true) ∧ Below w.heap.size w w' := by
  obtain ⟨i0, hi, hz0, hz1, hz2⟩ := info_parts info_byte
  have hl := runes_len s
  have hcl : (clean (bs s)).length ≤ 4 * s.size := by
    have := (text_length (runes (bs s))).2
    unfold clean
    omega
  have hsz : (str (clean (bs s))).size ≤ 4 * s.size := by rw [str_size]; exact hcl
  have H1 := run.hid (fun w => split_use s w (by omega))
  have H2 := run.hid (fun w => clean_any s w (by omega) (by omega))
  have H3 := run.hid (fun w => split_use (str (clean (bs s))) w (by omega))
  rw [told_clean] at H3
  have HF := run.hid (fun i => @told_facts s i)
  have HT := run.hid (fun i => @catN_take (told s) i)
  have HL := run.hid (fun i => catN_take_le (told s) i)
  have HC := run.hid (catN_told s)
  have hlX := told_length s
  have HCL := run.hid hcl
  generalize told s = X at *
  generalize hcc : clean (bs s) = C at *
  have HCC := run.hid hcc
  clear hcc hcl
  go_enter Try.func8, Try.ntmps8
  go_wp2_with fail
  refine (H1.out _).mono ?_
  rintro e w1 ⟨v1, rfl, -, hr1, hb1⟩
  have R1 := run.hid hr1
  obtain ⟨a1, k1, rfl, -⟩ := hr1
  go_wp2
  go_loopw [4, 5] (fun vb vi wr => ∃ i : Nat, i ≤ X.length ∧ vi = .int .i64 i ∧ wr.ownsRow w1.heap.size 5 1 vb (catN (X.take i)).length (bv (catN (X.take i))) ∧ Below w1.heap.size w1 wr) (fun _ vi _ => (X.length - intOf vi).toNat)
  case atStart => exact ⟨0, by omega, rfl, World.ownsRow_nil _ _ _ _, Below.refl _ _⟩
  case round =>
    obtain ⟨i, hi', rfl, hown, hbel⟩ := hrel
    have hbd := HL.out i
    rw [HC.out] at hbd
    have hcl2 := HCL.out
    by_cases hlt : i < X.length
    · obtain ⟨a', cap', e1, hrow⟩ := R1.out
      simp only [Value.slice.injEq] at e1
      obtain ⟨rfl, -, rfl⟩ := e1
      obtain ⟨b1, o1, rfl, hlb1, hx0, hx1⟩ := hrow i hlt
      replace hx0 := (hbel.cell (p := ⟨b1, o1 + i * 2, none⟩) hlb1).trans hx0
      replace hx1 := (hbel.cell (p := ⟨b1, o1 + i * 2 + 1, none⟩) hlb1).trans hx1
      clear hrow
      obtain ⟨f1, f2, f3, f4⟩ := HF.out i hlt
      have HTi := run.hid (HT.out i hlt)
      unfold t0 at f1 f2 f3 f4 HTi
      generalize X.getD i (ByteArray.empty, 0) = q at *
      obtain ⟨qs, qw⟩ := q
      dsimp only at hx0 hx1 f1 f2 f3 f4 HTi
      have HBV := run.hid (bv_bs qs)
      have HBL := run.hid (bs_len qs)
      go_wp2_with fail
      refine (runes_use qs wr (by omega) (by omega)).mono ?_
      rintro e w2 ⟨v2, rfl, hown2, -, hb2, -⟩
      obtain ⟨a2, k2, rfl⟩ := run.own_value hown2
      clear hown2
      generalize (runes (bs qs)).length = n at *
      replace hx0 := (hb2.cell (p := ⟨b1, o1 + i * 2, none⟩) (Nat.lt_of_lt_of_le hlb1 hbel.size)).trans hx0
      replace hx1 := (hb2.cell (p := ⟨b1, o1 + i * 2 + 1, none⟩) (Nat.lt_of_lt_of_le hlb1 hbel.size)).trans hx1
      have hown1 := run.own_below hown hb2
      have hbel1 := hbel.trans (hb2.mono hbel.size)
      have hsz1 := hbel1.size
      clear hown hb2 hbel
      generalize catN (X.take i) = tk at *
      go_wp2_with (at_builtin; refine Lib.wpList_append_own_string _ rfl _ _ 41 9 rfl w1.heap.size 5 i0 Try.underlying41 Try.underlying9 hi hz0 hz1 hz2 _ _ _ rfl hown1 _ rfl (by unfold maxLen; omega) (by omega) hsz1 ?_)
      intro v' w3 hown3 hgrow hnil
      have hbel3 := run.below_append hbel1 hown1 hgrow hsz1
      rw [HBV.out, bv_append, ← HBL.out, ← List.length_append, ← HTi.out] at hown3
      clear hown1 hgrow hnil hbel1 hx0 hx1
      go_wp2
      go_roundw
      case rel => exact ⟨i + 1, by omega, by go_num, hown3, hbel3⟩
      case measure => simp [intOf]; omega
    · obtain rfl : i = X.length := by omega
      rw [List.take_of_length_le (Nat.le_refl _), HC.out] at hown
      have hB := hb1.trans (hbel.mono hb1.size)
      have R2 := run.hid (R1.out.below hbel)
      clear R1 HF HT HL HC hbd
      go_wp2_with fail
      refine (H2.out _).mono ?_
      rintro e w2 ⟨rfl, hb2⟩
      have hown1 := run.own_below hown hb2
      have hconv := conv_own hown1
      replace hB := hB.trans (hb2.mono hB.size)
      have R3 := run.hid (R2.out.below hb2)
      clear hown hown1 hb2 R2 hbel
      go_wp2_with fail
      refine (H3.out _).mono ?_
      rintro e w3 ⟨v3, rfl, -, hr3, hb3⟩
      replace hB := hB.trans (hb3.mono hB.size)
      have HS := run.hid (lawSame_eq _ _ (upI X) w3 (readsI_up hr3) (readsI_up (R3.out.below hb3)) (by rw [upI_length]; omega))
      clear hr3 hb3 hconv
      go_wp2_with fail
      refine HS.out.mono ?_
      rintro e w4 ⟨rfl, hb4⟩
      replace hB := hB.trans (hb4.mono hB.size)
      go_wp2_with fail
      refine (alive_any _).mono ?_
      rintro e w5 ⟨rfl, hb5⟩
      replace hB := hB.trans (hb5.mono hB.size)
      go_wp2
      go_ret
      exact ⟨rfl, hB⟩

end Go.Proofs.Ytinedhocmlcfpaa.clu
