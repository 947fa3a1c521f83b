/-
  The walk of the document's stretches of a class.
-/
import Derived.Test.YtmgammodbpjnbaaWidRanges
import Derived.Test.YtmgammodbpjnbaaRegions
namespace Go.Proofs.Ytmgammodbpjnbaa.wid
open Go.RowKit Go.Proofs
set_option linter.unusedVariables false

def refStep (c : Int) (s : List (Int × Int) × Int) (p : Int × Int × Nat) : List (Int × Int) × Int :=
  let a := if c = 9 ∧ s.2 < p.1 then s.1 ++ [(s.2, p.1 - 1)] else s.1
  ((if c = p.2.2 then a ++ [(p.1, p.2.1)] else a), p.2.1 + 1)
def refAt (c : Int) (k : Nat) : List (Int × Int) × Int := (all.take k).foldl (refStep c) ([], 0)
def refFin (c : Int) : List (Int × Int) := if c = 9 then (refAt c 84).1 ++ [((refAt c 84).2, 0x10ffff)] else (refAt c 84).1
theorem all_len : all.length = 84 := by decide +kernel
theorem refAt_succ (c : Int) {k : Nat} (h : k < all.length) : refAt c (k + 1) = refStep c (refAt c k) (all.getD k (0, 0, 0)) := by
  unfold refAt
  rw [List.take_succ_eq_append_getElem h, List.foldl_append]
  simp [List.getD_eq_getElem?_getD, h]
theorem all_bounds : ∀ a ∈ all, 0 ≤ a.1 ∧ a.1 ≤ a.2.1 ∧ a.2.1 ≤ 0x10ffff := by decide +kernel
theorem all_get {k : Nat} (h : k < 84) : all.getD k (0, 0, 0) ∈ all := by simp [List.getD_eq_getElem?_getD, show k < all.length by rw [all_len]; exact h]
theorem refAt_bounds (c : Int) {k : Nat} (h : k ≤ 84) : (refAt c k).1.length ≤ 2 * k ∧ 0 ≤ (refAt c k).2 ∧ (refAt c k).2 ≤ 0x110000 := by
  induction k with
  | zero => unfold refAt; simp
  | succ k ih =>
    obtain ⟨i1, i2, i3⟩ := ih (by omega)
    rw [refAt_succ c (by rw [all_len]; omega)]
    obtain ⟨b1, b2, b3⟩ := all_bounds _ (all_get (show k < 84 by omega))
    unfold refStep
    refine ⟨?_, by simp only []; omega, by simp only []; omega⟩
    simp only []
    split <;> split <;> (try simp only [List.length_append, List.length_singleton]) <;> omega
theorem refAt_none {c : Int} (h : c < 0 ∨ 9 < c) : ∀ k, k ≤ 84 → (refAt c k).1 = []
  | 0, _ => rfl
  | k + 1, hk => by
    rw [refAt_succ c (by rw [all_len]; omega)]
    have h8 := all_class _ (all_get (show k < 84 by omega))
    unfold refStep
    simp only []
    rw [if_neg (by omega), if_neg (by omega)]
    exact refAt_none h k (by omega)
theorem ref_fin (c : Int) : refFin c = rangesT c := by
  by_cases h : c < 0 ∨ 9 < c
  · unfold refFin rangesT
    rw [if_neg (by omega), if_neg (by omega), if_neg (by omega), refAt_none h 84 (by omega)]
  · have : c = 0 ∨ c = 1 ∨ c = 2 ∨ c = 3 ∨ c = 4 ∨ c = 5 ∨ c = 6 ∨ c = 7 ∨ c = 8 ∨ c = 9 := by omega
    rcases this with rfl | rfl | rfl | rfl | rfl | rfl | rfl | rfl | rfl | rfl <;> decide +kernel

theorem flat3_len (l : List (Int × Int × Nat)) : (flat3 l).length = l.length * 3 := by
  unfold flat3
  induction l with
  | nil => rfl
  | cons p l ih => rw [List.flatMap_cons, List.length_append, ih, List.length_cons]; simp; omega
theorem flat3_app (l m : List (Int × Int × Nat)) : flat3 (l ++ m) = flat3 l ++ flat3 m := by unfold flat3; rw [List.flatMap_append]
theorem flat3_one (l : List (Int × Int × Nat)) : ∀ u ∈ flat3 l, u.oneCell' = true := by
  intro u hu
  obtain ⟨p, -, h⟩ := List.mem_flatMap.1 hu
  simp only [List.mem_cons, List.not_mem_nil, or_false] at h
  rcases h with rfl | rfl | rfl <;> rfl
theorem flat3_at : ∀ (l : List (Int × Int × Nat)) (k : Nat), k < l.length → (flat3 l)[k * 3]? = some (.int .i32 (l.getD k (0, 0, 0)).1) ∧ (flat3 l)[k * 3 + 1]? = some (.int .i32 (l.getD k (0, 0, 0)).2.1) ∧ (flat3 l)[k * 3 + 2]? = some (.int .i8 (l.getD k (0, 0, 0)).2.2)
  | [], k, h => by simp at h
  | p :: l, 0, h => ⟨rfl, rfl, rfl⟩
  | p :: l, k + 1, h => by
    have := flat3_at l k (by simpa using h)
    unfold flat3 at *
    rw [List.flatMap_cons, show (k + 1) * 3 = k * 3 + 3 by omega, show k * 3 + 3 + 1 = k * 3 + 1 + 3 by omega, show k * 3 + 3 + 2 = k * 3 + 2 + 3 by omega]
    exact this
theorem own3_new (w : World) (l : List (Int × Int × Nat)) (hl : l.length ≤ 85) : (w.alloc (.cells (flat3 l).toArray 75)).ownsRow w.heap.size 75 3 (.slice (some ⟨w.heap.size, 0, none⟩) l.length l.length) l.length (flat3 l) := by
  refine ⟨flat3_len l, .inr ⟨w.heap.size, l.length, (flat3 l).toArray, rfl, Nat.le_refl _, run.heap_new _ _, Nat.le_refl _, by unfold maxLen; omega, by simp [flat3_len], ?_⟩⟩
  rw [List.take_of_length_le (by simp [flat3_len])]
theorem info_s : (Try.prog.info? 75).map (fun i => (i.zero, i.size, i.bytes)) = some (some (.agg #[.int .i32 0, .int .i32 0, .int .i8 0]), 3, 12) := by kernel_rfl

theorem low_len : low.length = 28 := rfl
theorem middle_len : middle.length = 33 := rfl
theorem high_len : high.length = 23 := rfl

set_option maxRecDepth 100000 in
set_option maxHeartbeats 2000000 in
theorem refAll_any (w : World) : Calls Try.prog 38 #[] w fun e w' => ∃ v, e = .returned v ∧ w'.ownsRow w.heap.size 75 3 v 84 (flat3 all) ∧ Below w.heap.size w w' := by
  obtain ⟨i, hi, hz0, hz1, hz2⟩ := info_parts info_s
  have HA := run.hid (show flat3 all = flat3 low ++ flat3 middle ++ flat3 high by unfold all; rw [flat3_app, flat3_app])
  have HL := run.hid (fun w' => low_any w')
  have HM := run.hid (fun w' => middle_any w')
  have HH := run.hid (fun w' => high_any w')
  have OL := run.hid (fun w' => own3_new w' low (by rw [low_len]; omega))
  have RM := run.hid (fun w' => run.readsN_new w' (flat3 middle) middle.length 3 75 (flat3_len _))
  have RH := run.hid (fun w' => run.readsN_new w' (flat3 high) high.length 3 75 (flat3_len _))
  have FM := run.hid (flat3_one middle)
  have FH := run.hid (flat3_one high)
  rw [low_len] at HL OL
  rw [middle_len] at HM RM
  rw [high_len] at HH RH
  generalize flat3 all = A at *
  generalize flat3 low = L at *
  generalize flat3 middle = M at *
  generalize flat3 high = Hh at *
  go_enter Try.func38, Try.ntmps38
  go_wp2_with fail
  refine (HL.out _).mono ?_
  rintro e w1 ⟨rfl, rfl⟩
  have O1 := run.hid (OL.out w)
  have B1 := run.hid (run.below_one w (.cells L.toArray 75))
  generalize w.alloc (.cells L.toArray 75) = w1 at *
  have s1 := B1.out.size
  go_wp2_with fail
  refine (HM.out _).mono ?_
  rintro e w2 ⟨rfl, rfl⟩
  have R2 := run.hid (RM.out w1)
  have O2 := run.hid (O1.out.alloc (.cells M.toArray 75))
  have B2 := run.hid (B1.out.alloc s1 (.cells M.toArray 75))
  have s2 := B2.out.size
  generalize hx : w1.alloc (.cells M.toArray 75) = w2 at *
  go_wp2_with (at_builtin; refine run.wpList_append_any _ rfl _ _ 72 rfl w.heap.size 75 i (.agg #[.int .i32 0, .int .i32 0, .int .i8 0]) 3 12 Try.underlying72 hi hz0 hz1 hz2 rfl (by decide) _ 28 L rfl O2.out _ 33 M rfl R2.out FM.out (by unfold maxLen; omega) (by omega) (by omega) ?_)
  intro v3 w3 hown3 hgrow hold hstep
  have B3 := run.hid (run.below_append B2.out O2.out hgrow s2)
  have O3 := run.hid hown3
  have s3 := B3.out.size
  clear hown3 hgrow hold hstep O1 O2 R2 hx
  go_wp2_with fail
  refine (HH.out _).mono ?_
  rintro e w4 ⟨rfl, rfl⟩
  have R4 := run.hid (RH.out w3)
  have O4 := run.hid (O3.out.alloc (.cells Hh.toArray 75))
  have B4 := run.hid (B3.out.alloc s3 (.cells Hh.toArray 75))
  have s4 := B4.out.size
  generalize hx : w3.alloc (.cells Hh.toArray 75) = w4 at *
  go_wp2_with (at_builtin; refine run.wpList_append_any _ rfl _ _ 72 rfl w.heap.size 75 i (.agg #[.int .i32 0, .int .i32 0, .int .i8 0]) 3 12 Try.underlying72 hi hz0 hz1 hz2 rfl (by decide) _ (28 + 33) (L ++ M) rfl O4.out _ 23 Hh rfl R4.out FH.out (by unfold maxLen; omega) (by omega) (by omega) ?_)
  intro v5 w5 hown5 hgrow hold hstep
  have B5 := run.hid (run.below_append B4.out O4.out hgrow s4)
  have O5 := run.hid hown5
  clear hown5 hgrow hold hstep
  go_wp2
  go_ret
  exact ⟨_, rfl, by rw [HA.out, List.append_assoc]; exact O5.out, B5.out⟩

theorem row3_at {w : World} {B n : Nat} {v : Value} {l : List (Int × Int × Nat)} (h : w.ownsRow B 75 3 v n (flat3 l)) {k : Nat} (hk : k < n) :
    ∃ g c, v = .slice (some ⟨g, 0, none⟩) n c ∧ w.cell? ⟨g, k * 3, none⟩ = some (.int .i32 (l.getD k (0, 0, 0)).1) ∧ w.cell? ⟨g, k * 3 + 1, none⟩ = some (.int .i32 (l.getD k (0, 0, 0)).2.1) ∧ w.cell? ⟨g, k * 3 + 2, none⟩ = some (.int .i8 (l.getD k (0, 0, 0)).2.2) := by
  obtain ⟨g, c, rfl⟩ := own_some h (by omega)
  have hl : l.length = n := by have := h.1; rw [flat3_len] at this; omega
  have h3 := flat3_at l k (by omega)
  exact ⟨g, c, rfl, (h.cellAt (k * 3) (by omega)).trans h3.1, (h.cellAt (k * 3 + 1) (by omega)).trans h3.2.1, (h.cellAt (k * 3 + 2) (by omega)).trans h3.2.2⟩

set_option maxRecDepth 100000 in
set_option maxHeartbeats 8000000 in
theorem refRanges_any (c : Int) (hc : -128 ≤ c ∧ c ≤ 127) (w : World) : Calls Try.prog 17 #[.int .i8 c] w fun e w' => ∃ v, e = .returned v ∧ w'.ownsRow w.heap.size 53 2 v (rangesT c).length (flat (rangesT c)) ∧ Below w.heap.size w w' := by
  obtain ⟨i, hi, hz0, hz1, hz2⟩ := info_parts info_e
  have HFIN := run.hid (ref_fin c).symm
  go_enter Try.func17, Try.ntmps17
  go_wp2_with fail
  refine (refAll_any w).mono ?_
  rintro e w1 ⟨vL, rfl, hown, hb⟩
  have HOL := run.hid hown
  have HB1 := run.hid hb
  have hs1 := hb.size
  clear hown hb
  obtain ⟨aL, cL, rfl⟩ := run.own_value HOL.out
  generalize hB : w1.heap.size = B1 at *
  go_wp2
  go_loopw [3, 5, 6] (fun v nv iv wr => ∃ k : Nat, k ≤ 84 ∧ iv = .int .i64 k ∧ nv = .int .i32 (refAt c k).2 ∧ Hid (wr.ownsRow B1 53 2 v (refAt c k).1.length (flat (refAt c k).1)) ∧ Hid (Below B1 w1 wr)) (fun _ _ v _ => 84 - (intOf v).toNat)
  case atStart => exact ⟨0, by omega, rfl, rfl, World.ownsRow_nil _ _ _ _, Below.refl _ _⟩
  case round =>
    obtain ⟨k, hk, rfl, rfl, HO, HBr⟩ := hrel
    have hszr := HBr.out.size
    obtain ⟨gb1, gb2, gb3⟩ := refAt_bounds c hk
    by_cases hlt : k < 84
    · have hka : k < all.length := by rw [all_len]; exact hlt
      have HN := run.hid (refAt_succ c hka)
      obtain ⟨b1, b2, b3⟩ := all_bounds _ (all_get hlt)
      have b4 := all_class _ (all_get hlt)
      obtain ⟨g, cq, hv, c1, c2, c3⟩ := row3_at HOL.out hlt
      cases hv
      have hgl : g < B1 := by have := (HOL.out.lt g rfl).2; omega
      replace c1 := (HBr.out.cell (p := ⟨g, k * 3, none⟩) hgl).trans c1
      replace c2 := (HBr.out.cell (p := ⟨g, k * 3 + 1, none⟩) hgl).trans c2
      replace c3 := (HBr.out.cell (p := ⟨g, k * 3 + 2, none⟩) hgl).trans c3
      generalize all.getD k (0, 0, 0) = p at *
      obtain ⟨p1, p2, pc⟩ := p
      generalize refAt c k = GN at *
      obtain ⟨G, nx⟩ := GN
      simp only at gb1 gb2 gb3 b1 b2 b3 b4 c1 c2 c3 HO
      obtain ⟨n1, hn1⟩ : ∃ n1, n1 = G.length := ⟨_, rfl⟩
      rw [← hn1] at gb1 HO
      have HN1 := run.hid hn1
      have hne1 : ¬ g = wr.heap.size := by omega
      have hne2 : ¬ wr.heap.size = g := by omega
      clear hn1 hka
      by_cases h9 : c = 9
      · have h9b : (c == 9) = true := by simp; omega
        have hcc : (c == (pc : Int)) = false := by simp; omega
        by_cases hgap : nx < p1
        · have HR : Hid (refAt c (k + 1) = (G ++ [(nx, p1 - 1)], p2 + 1)) := by
            show _ = _; rw [HN.out]; unfold refStep; simp only []; rw [if_neg (show ¬ c = (pc : Int) by omega), if_pos (show c = 9 ∧ nx < p1 from ⟨h9, hgap⟩)]
          clear HN h9
          go_wp2_with (at_builtin; refine run.wpList_append_any _ rfl _ _ 43 rfl B1 53 i (.agg #[.int .i32 0, .int .i32 0]) 2 8 Try.underlying43 hi hz0 hz1 hz2 rfl (by decide) _ n1 (flat G) rfl (HO.out.alloc _) _ 1 [.int .i32 nx, .int .i32 (p1 - 1)] rfl (run.readsN_new wr [.int .i32 nx, .int .i32 (p1 - 1)] 1 2 _ rfl) (flat_one [(nx, p1 - 1)]) (by unfold maxLen; omega) (by omega) (by simp; omega) ?_)
          intro v8 w8 hown8 hgrow hold hstep
          have HO8 : Hid (w8.ownsRow B1 53 2 v8 (refAt c (k + 1)).1.length (flat (refAt c (k + 1)).1)) := by
            show World.ownsRow _ _ _ _ _ _ _
            rw [HR.out]
            simp only [List.length_append, List.length_singleton, flat_app]
            rw [← HN1.out]
            exact hown8
          have HB8 := run.hid (run.below_append (HBr.out.alloc (by omega) _) (HO.out.alloc (.cells #[.int .i32 nx, .int .i32 (p1 - 1)] 53)) hgrow (by simp; omega))
          have d2 := (hgrow.cell (a := ⟨g, k * 3 + 1, none⟩) (v := .int .i32 p2) (run.cell_old _ _ c2) (by intro e; have := (HO.out.lt g e.symm).1; omega))
          have d3 := (hgrow.cell (a := ⟨g, k * 3 + 2, none⟩) (v := .int .i8 pc) (run.cell_old _ _ c3) (by intro e; have := (HO.out.lt g e.symm).1; omega))
          clear hown8 hgrow hold hstep HO HBr c1 c2 c3
          go_wp2
          go_roundw
          case rel => exact ⟨k + 1, by omega, by go_num, by rw [HR.out], HO8, HB8⟩
          case measure => simp [intOf]; omega
        · have HR : Hid (refAt c (k + 1) = (G, p2 + 1)) := by
            show _ = _; rw [HN.out]; unfold refStep; simp only []; rw [if_neg (show ¬ c = (pc : Int) by omega), if_neg (show ¬ (c = 9 ∧ nx < p1) by omega)]
          clear HN h9
          have HO8 : Hid (wr.ownsRow B1 53 2 u3 (refAt c (k + 1)).1.length (flat (refAt c (k + 1)).1)) := by
            show World.ownsRow _ _ _ _ _ _ _
            rw [HR.out]
            simp only
            rw [← HN1.out]
            exact HO.out
          clear HO
          go_wp2
          go_roundw
          case rel => exact ⟨k + 1, by omega, by go_num, by rw [HR.out], HO8, HBr⟩
          case measure => simp [intOf]; omega
      · have h9b : (c == 9) = false := by simp; omega
        by_cases hcp : c = pc
        · have hcc : (c == (pc : Int)) = true := by simp; omega
          have HR : Hid (refAt c (k + 1) = (G ++ [(p1, p2)], p2 + 1)) := by
            show _ = _; rw [HN.out]; unfold refStep; simp only []; rw [if_pos hcp, if_neg (show ¬ (c = 9 ∧ nx < p1) by omega)]
          clear HN hcp h9
          go_wp2_with fail
          go_region_law (first | (refine run.step_append_any (by rfl) _ _ 43 (by rfl) B1 53 i (.agg #[.int .i32 0, .int .i32 0]) 2 8 Try.underlying43 hi hz0 hz1 hz2 rfl (by decide) _ _ _ (by rfl) (HO.out.drew.alloc _) _ 1 [.int .i32 p1, .int .i32 p2] (by rfl) (run.readsN_new wr.drew [.int .i32 p1, .int .i32 p2] 1 2 _ rfl) (flat_one [(p1, p2)]) (by unfold maxLen; omega) (by omega) (by simp <;> omega) ?_; intro v8 w8 hown8 hgrow hold hstep))
          all_goals
            have HO8 : Hid (w8.ownsRow B1 53 2 v8 (refAt c (k + 1)).1.length (flat (refAt c (k + 1)).1)) := by
              show World.ownsRow _ _ _ _ _ _ _
              rw [HR.out]
              simp only [List.length_append, List.length_singleton, flat_app]
              rw [← HN1.out]
              exact hown8
            have HB8 := run.hid (run.below_append ((HBr.out.trans (show Below B1 wr wr.drew from ⟨rfl, rfl, rfl, Nat.le_refl _, fun _ _ => rfl⟩)).alloc (by simp; omega) _) (HO.out.drew.alloc (.cells #[.int .i32 p1, .int .i32 p2] 53)) hgrow (by simp; omega))
            have d2 := (hgrow.cell (a := ⟨g, k * 3 + 1, none⟩) (v := .int .i32 p2) (run.cell_old _ _ (show wr.drew.cell? ⟨g, k * 3 + 1, none⟩ = some (.int .i32 p2) from c2)) (by intro e; have := (HO.out.lt g e.symm).1; omega))
            clear hown8 hgrow hold hstep HO HBr c1 c2 c3
            go_wp2
            go_roundw
            case rel => exact ⟨k + 1, by omega, by go_num, by rw [HR.out], HO8, HB8⟩
            case measure => simp [intOf]; omega
        · have hcc : (c == (pc : Int)) = false := by simpa using hcp
          have HR : Hid (refAt c (k + 1) = (G, p2 + 1)) := by
            show _ = _; rw [HN.out]; unfold refStep; simp only []; rw [if_neg hcp, if_neg (show ¬ (c = 9 ∧ nx < p1) by omega)]
          clear HN hcp h9
          have HO8 : Hid (wr.ownsRow B1 53 2 u3 (refAt c (k + 1)).1.length (flat (refAt c (k + 1)).1)) := by
            show World.ownsRow _ _ _ _ _ _ _
            rw [HR.out]
            simp only
            rw [← HN1.out]
            exact HO.out
          clear HO
          go_wp2
          go_roundw
          case rel => exact ⟨k + 1, by omega, by go_num, by rw [HR.out], HO8, HBr⟩
          case measure => simp [intOf]; omega
    · obtain rfl : k = 84 := by omega
      have hrf : refFin c = if c = 9 then (refAt c 84).1 ++ [((refAt c 84).2, 0x10ffff)] else (refAt c 84).1 := rfl
      generalize refAt c 84 = GN at *
      obtain ⟨G, nx⟩ := GN
      simp only at gb1 gb2 gb3 HO hrf
      obtain ⟨n1, hn1⟩ : ∃ n1, n1 = G.length := ⟨_, rfl⟩
      rw [← hn1] at gb1 HO
      have HN1 := run.hid hn1
      clear hn1
      by_cases h9 : c = 9
      · have h9b : (c == 9) = true := by simp; omega
        rw [if_pos h9] at hrf
        have HRF := run.hid hrf
        clear hrf h9
        go_wp2_with (at_builtin; refine run.wpList_append_any _ rfl _ _ 43 rfl B1 53 i (.agg #[.int .i32 0, .int .i32 0]) 2 8 Try.underlying43 hi hz0 hz1 hz2 rfl (by decide) _ n1 (flat G) rfl (HO.out.alloc _) _ 1 [.int .i32 nx, .int .i32 1114111] rfl (run.readsN_new wr [.int .i32 nx, .int .i32 1114111] 1 2 _ rfl) (flat_one [(nx, 1114111)]) (by unfold maxLen; omega) (by omega) (by simp; omega) ?_)
        intro v8 w8 hown8 hgrow hold hstep
        have HO8 : Hid (w8.ownsRow B1 53 2 v8 (rangesT c).length (flat (rangesT c))) := by
          show World.ownsRow _ _ _ _ _ _ _
          rw [HFIN.out, HRF.out]
          simp only [List.length_append, List.length_singleton, flat_app]
          rw [← HN1.out]
          exact hown8
        have HB8 := run.hid (run.below_append (HBr.out.alloc (by omega) _) (HO.out.alloc (.cells #[.int .i32 nx, .int .i32 1114111] 53)) hgrow (by simp; omega))
        clear hown8 hgrow hold hstep HO HBr
        go_wp2
        go_ret
        exact ⟨_, rfl, run.own_mono HO8.out hs1, HB1.out.trans (HB8.out.mono hs1)⟩
      · have h9b : (c == 9) = false := by simp; omega
        rw [if_neg h9] at hrf
        have HRF := run.hid hrf
        clear hrf h9
        go_wp2
        go_ret
        refine ⟨_, rfl, run.own_mono ?_ hs1, HB1.out.trans (HBr.out.mono hs1)⟩
        rw [HFIN.out, HRF.out, ← HN1.out]
        exact HO.out
end Go.Proofs.Ytmgammodbpjnbaa.wid
