/-
  The walks of the layer width, more: the document's class.
-/
import Derived.Test.YtdgcfmfjgidbjaaGreatWidAll
namespace Go.Proofs.YtdgcfmfjgidbjaaGreat.wid
open Go.RowKit Go.Proofs
def flat3 (l : List (Int × Int × Nat)) : List Value := l.flatMap fun p => [.int .i32 p.1, .int .i32 p.2.1, .int .i8 p.2.2]

theorem low_any (w : World) : Calls Tryz.prog 100 #[] w fun e w' => e = .returned (.slice (some ⟨w.heap.size, 0, none⟩) low.length low.length) ∧ w' = w.alloc (.cells (flat3 low).toArray 152) := run.calls (by kernel_rfl)

theorem middle_any (w : World) : Calls Tryz.prog 101 #[] w fun e w' => e = .returned (.slice (some ⟨w.heap.size, 0, none⟩) middle.length middle.length) ∧ w' = w.alloc (.cells (flat3 middle).toArray 152) := run.calls (by kernel_rfl)

theorem high_any (w : World) : Calls Tryz.prog 102 #[] w fun e w' => e = .returned (.slice (some ⟨w.heap.size, 0, none⟩) high.length high.length) ∧ w' = w.alloc (.cells (flat3 high).toArray 152) := run.calls (by kernel_rfl)


/-! THE DOCUMENT's -/
def HasTab3 (w : World) (b : Nat) (l : List (Int × Int × Nat)) : Prop :=
  ∀ i, i < l.length → w.cell? ⟨b, i * 3, none⟩ = some (.int .i32 (l.getD i (0, 0, 0)).1) ∧ w.cell? ⟨b, i * 3 + 1, none⟩ = some (.int .i32 (l.getD i (0, 0, 0)).2.1) ∧ w.cell? ⟨b, i * 3 + 2, none⟩ = some (.int .i8 (l.getD i (0, 0, 0)).2.2)

theorem flat3_get : ∀ (l : List (Int × Int × Nat)) (i : Nat), i < l.length → (flat3 l)[i * 3]? = some (.int .i32 (l.getD i (0, 0, 0)).1) ∧ (flat3 l)[i * 3 + 1]? = some (.int .i32 (l.getD i (0, 0, 0)).2.1) ∧ (flat3 l)[i * 3 + 2]? = some (.int .i8 (l.getD i (0, 0, 0)).2.2)
  | [], i, h => by simp at h
  | p :: l, 0, _ => by simp [flat3]
  | p :: l, i + 1, h => by
    have := flat3_get l i (by simpa using h)
    have e1 : (i + 1) * 3 = i * 3 + 1 + 1 + 1 := by omega
    simp only [flat3, List.flatMap_cons, List.cons_append, List.nil_append] at this ⊢
    rw [e1]
    simpa using this

theorem hasTab3_new (w : World) (l : List (Int × Int × Nat)) (t : TypeId) : HasTab3 (w.alloc (.cells (flat3 l).toArray t)) w.heap.size l := by
  intro i hi
  have := flat3_get l i hi
  have hh := run.heap_new w (.cells (flat3 l).toArray t)
  refine ⟨?_, ?_, ?_⟩
  · simp only [World.cell?]; rw [hh]; simpa using this.1
  · simp only [World.cell?]; rw [hh]; simpa using this.2.1
  · simp only [World.cell?]; rw [hh]; simpa using this.2.2

theorem HasTab3.below {w w' : World} {b B : Nat} {l : List (Int × Int × Nat)} (h : HasTab3 w b l) (hb : Below B w w') (hlt : b < B) : HasTab3 w' b l := by
  intro i hi
  exact ⟨(hb.cell (p := ⟨b, i * 3, none⟩) hlt).trans (h i hi).1, (hb.cell (p := ⟨b, i * 3 + 1, none⟩) hlt).trans (h i hi).2.1, (hb.cell (p := ⟨b, i * 3 + 2, none⟩) hlt).trans (h i hi).2.2⟩

def HitAt (l : List (Int × Int × Nat)) (r : Int) (k : Nat) : Prop := (l.getD k (0, 0, 0)).1 ≤ r ∧ r ≤ (l.getD k (0, 0, 0)).2.1

theorem getD3_lt (l : List (Int × Int × Nat)) {k : Nat} (h : k < l.length) : l.getD k (0, 0, 0) = l[k] := by simp [List.getD_eq_getElem?_getD, h]

theorem scan_at : ∀ (l : List (Int × Int × Nat)) (r : Int) (k : Nat), k < l.length → (∀ j, j < k → ¬ HitAt l r j) → HitAt l r k → scan l r = (l.getD k (0, 0, 0)).2.2
  | [], r, k, h, _, _ => by simp at h
  | p :: l, r, 0, _, _, hh => by
    simp only [HitAt, List.getD_cons_zero] at hh ⊢
    simp [scan, List.find?, hh.1, hh.2]
  | p :: l, r, k + 1, h, hno, hh => by
    have h0 := hno 0 (by omega)
    simp only [HitAt, List.getD_cons_zero] at h0
    have hb : (decide (p.1 ≤ r) && decide (r ≤ p.2.1)) = false := by rw [Bool.eq_false_iff]; simpa [Bool.and_eq_true] using h0
    have ih := scan_at l r k (by simpa using h) (fun j hj => by have := hno (j + 1) (by omega); simpa [HitAt] using this) (by simpa [HitAt] using hh)
    simpa [scan, List.find?, hb] using ih
theorem scan_no (l : List (Int × Int × Nat)) (r : Int) (hno : ∀ j, j < l.length → ¬ HitAt l r j) : scan l r = 9 := by
  apply scan_miss
  intro p hp hx
  obtain ⟨j, hj, rfl⟩ := List.getElem_of_mem hp
  exact hno j hj (by unfold HitAt; rw [getD3_lt l hj]; exact hx)
theorem no_start (l : List (Int × Int × Nat)) (r : Int) : ∀ j, j < 0 → ¬ HitAt l r j := by intro j hj; omega
theorem no_next {l : List (Int × Int × Nat)} {r : Int} {k : Nat} (h : ∀ j, j < k → ¬ HitAt l r j) (hk : ¬ HitAt l r k) : ∀ j, j < k + 1 → ¬ HitAt l r j := by
  intro j hj
  by_cases e : j = k
  · subst e; exact hk
  · exact h j (by omega)

def partIs (l : List (Int × Int × Nat)) (f : FuncId) : Prop := ∀ w : World, Calls Tryz.prog f #[] w fun e w' => e = .returned (.slice (some ⟨w.heap.size, 0, none⟩) l.length l.length) ∧ HasTab3 w' w.heap.size l ∧ w.heap.size < w'.heap.size ∧ Below w.heap.size w w'
theorem low_tab : partIs low 100 := fun w => (low_any w).mono fun _ _ ⟨he, hw⟩ => ⟨he, hw ▸ hasTab3_new w low _, by rw [hw]; simp, by rw [hw]; exact run.below_one _ _⟩
theorem middle_tab : partIs middle 101 := fun w => (middle_any w).mono fun _ _ ⟨he, hw⟩ => ⟨he, hw ▸ hasTab3_new w middle _, by rw [hw]; simp, by rw [hw]; exact run.below_one _ _⟩
theorem high_tab : partIs high 102 := fun w => (high_any w).mono fun _ _ ⟨he, hw⟩ => ⟨he, hw ▸ hasTab3_new w high _, by rw [hw]; simp, by rw [hw]; exact run.below_one _ _⟩

theorem refKind_out {r : Int} (h : r < 0 ∨ 0x10ffff < r) : refKind r = 0 := by unfold refKind; rw [if_pos h]
theorem refKind_letter {r : Int} (h : 0x20 ≤ r) (h' : r < 0x7f) : refKind r = 9 := by unfold refKind; rw [if_neg (by omega), if_pos ⟨h, h'⟩]
theorem refKind_low {r : Int} (h : 0 ≤ r) (h' : r < 8960) (hn : ¬ (0x20 ≤ r ∧ r < 0x7f)) : refKind r = scan low r := by unfold refKind; rw [if_neg (by omega), if_neg hn]; unfold part; rw [if_neg (by omega), if_neg (by omega)]
theorem refKind_middle {r : Int} (h : 8960 ≤ r) (h' : r ≤ 10175) : refKind r = scan middle r := by unfold refKind; rw [if_neg (by omega), if_neg (by omega)]; unfold part; rw [if_neg (by omega), if_pos (by omega)]
theorem refKind_high {r : Int} (h : 10175 < r) (h' : r ≤ 0x10ffff) : refKind r = scan high r := by unfold refKind; rw [if_neg (by omega), if_neg (by omega)]; unfold part; rw [if_pos (by omega)]

set_option maxHeartbeats 1000000 in
theorem refKind_any (r : Int) (w : World) :
    Calls Tryz.prog 84 #[.int .i32 r] w fun e w' => e = .returned (.int .i8 (refKind r)) ∧ Below w.heap.size w w' := by
  by_cases hneg : r < 0
  · have hk := run.hid (refKind_out (.inl hneg))
    go_enter Tryz.func84, Tryz.ntmps84
    go_wp2
    go_ret
    exact ⟨ret_eq (i8_eq hk.out.symm), Below.refl _ _⟩
  by_cases hbig : 0x10ffff < r
  · have hk := run.hid (refKind_out (.inr hbig))
    go_enter Tryz.func84, Tryz.ntmps84
    go_wp2
    go_ret
    exact ⟨ret_eq (i8_eq hk.out.symm), Below.refl _ _⟩
  by_cases hlet : 0x20 ≤ r ∧ r < 0x7f
  · have hk := run.hid (refKind_letter hlet.1 hlet.2)
    obtain ⟨ha, hb⟩ := hlet
    go_enter Tryz.func84, Tryz.ntmps84
    go_wp2
    go_ret
    exact ⟨ret_eq (i8_eq hk.out.symm), Below.refl _ _⟩
  by_cases hmid : r < 8960
  · go_enter Tryz.func84, Tryz.ntmps84
    rcases (show r < 0x20 ∨ 0x7f ≤ r from by omega) with hx | hx
    all_goals
      go_wp2_with fail
      refine (low_tab w).mono ?_
      rintro e w1 ⟨rfl, htab, hlt, hb⟩
      go_wp2_with fail
      obtain ⟨l, hl⟩ : ∃ l, l = low := ⟨_, rfl⟩
      have hlen : l.length < 1000 := by rw [hl]; decide
      have HS := run.hid ((refKind_low (r := r) (by omega) hmid hlet).trans (show scan low r = scan l r by rw [hl]))
      rw [← hl] at htab ⊢
      clear hl
      have HT := run.hid htab
      clear htab
      obtain ⟨bB, hbB⟩ : ∃ bB, bB = w.heap.size := ⟨_, rfl⟩
      rw [← hbB] at HT hlt ⊢
      clear hbB
      go_loopw [4] (fun i wr => ∃ k : Nat, k ≤ l.length ∧ i = .int .i64 k ∧ Below w1.heap.size w1 wr ∧ Hid (∀ j, j < k → ¬ HitAt l r j)) (fun i _ => (l.length - intOf i).toNat)
      case atStart => exact ⟨0, by omega, rfl, Below.refl _ _, run.hid (no_start l r)⟩
      case round =>
        obtain ⟨k, hk, rfl, hbel, HN⟩ := hrel
        by_cases hkl : k < l.length
        · have hc := HT.out.below hbel hlt
          obtain ⟨c1, c2, c3⟩ := hc k hkl
          clear hc
          by_cases h1 : (l.getD k (0, 0, 0)).1 ≤ r
          · by_cases h2 : r ≤ (l.getD k (0, 0, 0)).2.1
            · have hf := run.hid (HS.out.trans (scan_at l r k hkl HN.out ⟨h1, h2⟩))
              generalize (l.getD k (0, 0, 0)) = q at *
              go_wp2
              go_ret
              exact ⟨ret_eq (i8_eq hf.out.symm), hb.trans (hbel.mono hb.size)⟩
            · have hf := run.hid (no_next HN.out (fun h : HitAt l r k => h2 h.2))
              generalize (l.getD k (0, 0, 0)) = q at *
              go_wp2
              go_roundw
              case rel => exact ⟨k + 1, by omega, by go_num, hbel, hf⟩
              case measure => simp [intOf]; omega
          · have hf := run.hid (no_next HN.out (fun h : HitAt l r k => h1 h.1))
            generalize (l.getD k (0, 0, 0)) = q at *
            go_wp2
            go_roundw
            case rel => exact ⟨k + 1, by omega, by go_num, hbel, hf⟩
            case measure => simp [intOf]; omega
        · obtain rfl : k = l.length := by omega
          have hf := run.hid (HS.out.trans (scan_no l r HN.out))
          go_wp2
          go_ret
          exact ⟨ret_eq (i8_eq hf.out.symm), hb.trans (hbel.mono hb.size)⟩
  by_cases hhigh : r ≤ 10175
  · go_enter Tryz.func84, Tryz.ntmps84
    go_wp2_with fail
    refine (low_tab w).mono ?_
    rintro e w0 ⟨rfl, _, _, hb0⟩
    go_wp2_with fail
    refine (middle_tab w0).mono ?_
    rintro e w1 ⟨rfl, htab, hlt, hb1⟩
    have hb := hb0.trans (hb1.mono hb0.size)
    clear hb0 hb1
    go_wp2_with fail
    obtain ⟨l, hl⟩ : ∃ l, l = middle := ⟨_, rfl⟩
    have hlen : l.length < 1000 := by rw [hl]; decide
    have HS := run.hid ((refKind_middle (r := r) (by omega) hhigh).trans (show scan middle r = scan l r by rw [hl]))
    rw [← hl] at htab ⊢
    clear hl
    have HT := run.hid htab
    clear htab
    obtain ⟨bB, hbB⟩ : ∃ bB, bB = w0.heap.size := ⟨_, rfl⟩
    rw [← hbB] at HT hlt ⊢
    clear hbB
    go_loopw [4] (fun i wr => ∃ k : Nat, k ≤ l.length ∧ i = .int .i64 k ∧ Below w1.heap.size w1 wr ∧ Hid (∀ j, j < k → ¬ HitAt l r j)) (fun i _ => (l.length - intOf i).toNat)
    case atStart => exact ⟨0, by omega, rfl, Below.refl _ _, run.hid (no_start l r)⟩
    case round =>
      obtain ⟨k, hk, rfl, hbel, HN⟩ := hrel
      by_cases hkl : k < l.length
      · have hc := HT.out.below hbel hlt
        obtain ⟨c1, c2, c3⟩ := hc k hkl
        clear hc
        by_cases h1 : (l.getD k (0, 0, 0)).1 ≤ r
        · by_cases h2 : r ≤ (l.getD k (0, 0, 0)).2.1
          · have hf := run.hid (HS.out.trans (scan_at l r k hkl HN.out ⟨h1, h2⟩))
            generalize (l.getD k (0, 0, 0)) = q at *
            go_wp2
            go_ret
            exact ⟨ret_eq (i8_eq hf.out.symm), hb.trans (hbel.mono hb.size)⟩
          · have hf := run.hid (no_next HN.out (fun h : HitAt l r k => h2 h.2))
            generalize (l.getD k (0, 0, 0)) = q at *
            go_wp2
            go_roundw
            case rel => exact ⟨k + 1, by omega, by go_num, hbel, hf⟩
            case measure => simp [intOf]; omega
        · have hf := run.hid (no_next HN.out (fun h : HitAt l r k => h1 h.1))
          generalize (l.getD k (0, 0, 0)) = q at *
          go_wp2
          go_roundw
          case rel => exact ⟨k + 1, by omega, by go_num, hbel, hf⟩
          case measure => simp [intOf]; omega
      · obtain rfl : k = l.length := by omega
        have hf := run.hid (HS.out.trans (scan_no l r HN.out))
        go_wp2
        go_ret
        exact ⟨ret_eq (i8_eq hf.out.symm), hb.trans (hbel.mono hb.size)⟩
  · go_enter Tryz.func84, Tryz.ntmps84
    go_wp2_with fail
    refine (low_tab w).mono ?_
    rintro e w0 ⟨rfl, _, _, hb0⟩
    go_wp2_with fail
    refine (middle_tab w0).mono ?_
    rintro e w00 ⟨rfl, _, _, hb00⟩
    go_wp2_with fail
    refine (high_tab w00).mono ?_
    rintro e w1 ⟨rfl, htab, hlt, hb1⟩
    have hb2 := hb0.trans (hb00.mono hb0.size)
    have hb := hb2.trans (hb1.mono hb2.size)
    clear hb0 hb1 hb2 hb00
    go_wp2_with fail
    obtain ⟨l, hl⟩ : ∃ l, l = high := ⟨_, rfl⟩
    have hlen : l.length < 1000 := by rw [hl]; decide
    have HS := run.hid ((refKind_high (r := r) (by omega) (by omega)).trans (show scan high r = scan l r by rw [hl]))
    rw [← hl] at htab ⊢
    clear hl
    have HT := run.hid htab
    clear htab
    obtain ⟨bB, hbB⟩ : ∃ bB, bB = w00.heap.size := ⟨_, rfl⟩
    rw [← hbB] at HT hlt ⊢
    clear hbB
    go_loopw [4] (fun i wr => ∃ k : Nat, k ≤ l.length ∧ i = .int .i64 k ∧ Below w1.heap.size w1 wr ∧ Hid (∀ j, j < k → ¬ HitAt l r j)) (fun i _ => (l.length - intOf i).toNat)
    case atStart => exact ⟨0, by omega, rfl, Below.refl _ _, run.hid (no_start l r)⟩
    case round =>
      obtain ⟨k, hk, rfl, hbel, HN⟩ := hrel
      by_cases hkl : k < l.length
      · have hc := HT.out.below hbel hlt
        obtain ⟨c1, c2, c3⟩ := hc k hkl
        clear hc
        by_cases h1 : (l.getD k (0, 0, 0)).1 ≤ r
        · by_cases h2 : r ≤ (l.getD k (0, 0, 0)).2.1
          · have hf := run.hid (HS.out.trans (scan_at l r k hkl HN.out ⟨h1, h2⟩))
            generalize (l.getD k (0, 0, 0)) = q at *
            go_wp2
            go_ret
            exact ⟨ret_eq (i8_eq hf.out.symm), hb.trans (hbel.mono hb.size)⟩
          · have hf := run.hid (no_next HN.out (fun h : HitAt l r k => h2 h.2))
            generalize (l.getD k (0, 0, 0)) = q at *
            go_wp2
            go_roundw
            case rel => exact ⟨k + 1, by omega, by go_num, hbel, hf⟩
            case measure => simp [intOf]; omega
        · have hf := run.hid (no_next HN.out (fun h : HitAt l r k => h1 h.1))
          generalize (l.getD k (0, 0, 0)) = q at *
          go_wp2
          go_roundw
          case rel => exact ⟨k + 1, by omega, by go_num, hbel, hf⟩
          case measure => simp [intOf]; omega
      · obtain rfl : k = l.length := by omega
        have hf := run.hid (HS.out.trans (scan_no l r HN.out))
        go_wp2
        go_ret
        exact ⟨ret_eq (i8_eq hf.out.symm), hb.trans (hbel.mono hb.size)⟩

end Go.Proofs.YtdgcfmfjgidbjaaGreat.wid
