/-
  The walks of a gap's methods (int): All, Delete. (Printed by gen_edgap.py.)
-/
import Derived.Test.YtgpgbbbcodnieaaEdGapK
namespace Go.Proofs.Ytgpgbbbcodnieaa.edI
open Go Go.RowKit Go.Proofs Go.Proofs.Ytgpgbbbcodnieaa.ed
set_option linter.unusedVariables false
set_option maxRecDepth 100000 in
set_option maxHeartbeats 8000000 in
theorem all_any {g lb n cap F U : Nat} {A C : List Value} {w : World} (h : G g lb n cap F U A w) (hc : HasC (n * 1) (F * 1) (U * 1) A C) (hone : ∀ v ∈ C, v.oneCell' = true) (hn : n ≤ 17592186043904) :
    Calls Try.prog 35 #[.pointer (some ⟨g, 0, none⟩)] w fun e w' => ∃ v, e = .returned v ∧ w'.ownsRow w.heap.size 3 1 v (F + (n - U)) C ∧ Below w.heap.size w w' := by
  obtain ⟨it, hinf, hz0, hsz, hby⟩ := info_parts info
  have hfu := h.fu
  have hun := h.un
  have hnc := h.nc
  have hglt := (Array.getElem?_eq_some_iff.1 h.hg).1
  have hllt := (Array.getElem?_eq_some_iff.1 h.hl).1
  have hszA := h.sz
  have hFm : F * 1 ≤ cap * 1 := Nat.mul_le_mul_right _ (by omega)
  obtain ⟨wd, hwd⟩ : ∃ wd, wd = w.drew := ⟨_, rfl⟩
  have hh : wd.heap = w.heap := by rw [hwd]; rfl
  have hgd : wd.heap[g]? = _ := (by rw [hh] : wd.heap[g]? = w.heap[g]?).trans h.hg
  have hld : wd.heap[lb]? = _ := (by rw [hh] : wd.heap[lb]? = w.heap[lb]?).trans h.hl
  have hE : (wd.alloc (.cells #[] 3)).ownsRow w.heap.size 3 1 (.slice (some ⟨wd.heap.size, 0, none⟩) 0 0) 0 [] := own_empty (by rw [hh]; exact Nat.le_refl _)
  have hlE : (wd.alloc (.cells #[] 3)).heap[lb]? = some (.cells A.toArray 3 (0, 0)) := (blk_old _ (by rw [hh]; exact hllt)).trans hld
  have hgE := (blk_old (w := wd) (.cells #[] 3) (by rw [hh]; exact hglt)).trans hgd
  obtain ⟨v6, w6, hr6, hown6, hg6, hold6, hst6⟩ := run.run_append_any (P := Try.prog) (wd.alloc (.cells #[] 3)) w.heap.size 22 22 3 it (.int .i64 0) 1 8 Try.underlying22 hinf hz0 hsz hby rfl (by decide) _ 0 [] hE (.slice (some (at0 lb cap 0 1)) F cap) F ((A.drop (0 * 1)).take (F * 1)) (readsG hlE hszA (by omega)) (fun v hv => hone v (has_ahead hc (by omega) (by omega) (by omega) (by omega) v hv)) (by unfold maxLen; omega) (by omega) (by rw [World.size_alloc, hh]; omega)
  have hg6g : w6.heap[g]? = _ := (hg6.block g (by rw [World.size_alloc, hh]; omega) (by show some g ≠ some wd.heap.size; simp only [ne_eq, Option.some.injEq]; rw [hh]; omega)).trans hgE
  have hl6 : w6.heap[lb]? = some (.cells A.toArray 3 (0, 0)) := (hg6.block lb (by rw [World.size_alloc, hh]; omega) (by show some lb ≠ some wd.heap.size; simp only [ne_eq, Option.some.injEq]; rw [hh]; omega)).trans hlE
  have hs6 := hg6.size
  rw [World.size_alloc, hh] at hs6
  rw [Nat.zero_add, List.nil_append] at hown6
  obtain ⟨v7, w7, hr7, hown7, hg7, hold7, hst7⟩ := run.run_append_any (P := Try.prog) w6 w.heap.size 22 22 3 it (.int .i64 0) 1 8 Try.underlying22 hinf hz0 hsz hby rfl (by decide) v6 F _ hown6 (.slice (some (at0 lb cap U 1)) (n - U) (cap - U)) (n - U) ((A.drop (U * 1)).take ((n - U) * 1)) (readsG hl6 hszA (by omega)) (fun v hv => hone v (has_behind hc (by omega) (by omega) (by omega) (by omega) (by omega) v hv)) (by unfold maxLen; omega) (by omega) (by omega)
  have hno : ∀ q, q < w.heap.size → v6.ownBlock ≠ some q := fun q hq e => by have := (hown6.lt q e).1; omega
  have hg7g : w7.heap[g]? = _ := (hg7.block g (by omega) (fun e => hno g hglt (by first | exact e | exact e.symm))).trans hg6g
  have hCC : (A.drop (0 * 1)).take (F * 1) ++ (A.drop (U * 1)).take ((n - U) * 1) = C := by
    rw [Nat.zero_mul, List.drop_zero, Nat.sub_mul]
    exact hc
  rw [hCC] at hown7
  have hbel : Below w.heap.size w w7 := by
    refine ⟨?_, ?_, ?_, by have := hg7.size; omega, fun q hq => ?_⟩
    · exact hg7.os.trans (hg6.os.trans (by rw [hwd]; rfl))
    · exact hg7.tape.trans (hg6.tape.trans (by rw [hwd]; rfl))
    · exact hg7.output.trans (hg6.output.trans (by rw [hwd]; rfl))
    · refine (hg7.block q (by omega) (fun e => hno q hq (by first | exact e | exact e.symm))).trans ((hg6.block q (by rw [World.size_alloc, hh]; omega) (by show some q ≠ some wd.heap.size; simp only [ne_eq, Option.some.injEq]; rw [hh]; omega)).trans ((blk_old _ (by rw [hh]; exact hq)).trans (by rw [hh])))
  have HF := run.hid (And.intro hown7 hbel)
  have HB := run.hid (And.intro hgd (And.intro hgE (And.intro hg6g hg7g)))
  have HWD := run.hid hwd
  clear h hc hgd hld hE hlE hgE hown6 hg6 hold6 hst6 hg6g hl6 hs6 hown7 hg7 hold7 hst7 hno hg7g hCC hbel hwd hh
  go_enter Try.func35, Try.ntmps35
  go_upto_region 3 with fail
  have FB : ∀ (D : Nat → Bool) (X : World), (fun D X => (D 10 = true → D 0 = true) ∧ (D 20 = true → D 10 = true) ∧ (D 0 = false → X = wd) ∧ (D 0 = true → D 10 = false → X = wd.alloc (.cells #[] 3)) ∧ (D 10 = true → D 20 = false → X = w6) ∧ (D 20 = true → X = w7)) D X → X.heap[g]? = some (.cells #[.slice (some ⟨lb, 0, none⟩) n cap, .int .i64 (F : Nat), .int .i64 (U : Nat)] 57 (0, 0)) := by
    rintro D X ⟨q1, q2, q3, q4, q5, q6⟩
    obtain ⟨b1, b2, b3, b4⟩ := HB.out
    cases h20 : D 20 with
    | true => rw [q6 h20]; exact b4
    | false =>
      cases h10 : D 10 with
      | true => rw [q5 h10 h20]; exact b3
      | false =>
        cases h0 : D 0 with
        | true => rw [q4 h0 h10]; exact b2
        | false => rw [q3 h0]; exact b1
  refine lx.region (fun D X => (D 10 = true → D 0 = true) ∧ (D 20 = true → D 10 = true) ∧ (D 0 = false → X = wd) ∧ (D 0 = true → D 10 = false → X = wd.alloc (.cells #[] 3)) ∧ (D 10 = true → D 20 = false → X = w6) ∧ (D 20 = true → X = w7)) (by kernel_rfl) (by kernel_rfl) (by kernel_rfl) ⟨fun h => (by cases h), fun h => (by cases h), fun _ => HWD.out.symm, fun h => (by cases h), fun h => (by cases h), fun h => (by cases h)⟩ ?_
  refine lx.begin 26 rfl ?_
  refine lx.o_eff (.slice (some ⟨wd.heap.size, 0, none⟩) 0 0) (fun D X h0 hdep hC => ?_) ?_
  · obtain ⟨q1, q2, q3, q4, q5, q6⟩ := hC
    obtain rfl := q3 h0
    have h10 : D 10 = false := by
      cases h : D 10 with
      | false => rfl
      | true => have := q1 h; rw [h0] at this; cases this
    have h20 : D 20 = false := by
      cases h : D 20 with
      | false => rfl
      | true => have := q2 h; rw [h10] at this; cases this
    exact ⟨_, run_build0 rfl, fun _ => rfl, q2, (fun h => by cases h), fun _ _ => rfl, (fun h => by have h9 : D 10 = true := h; rw [h10] at h9; cases h9), (fun h => by have h9 : D 20 = true := h; rw [h20] at h9; cases h9)⟩
  refine lx.o_pure (.pointer (some ⟨g, 0, none⟩)) (fun _ _ h => by first | rfl | kernel_rfl) ?_
  refine lx.o_pure (.pointer (some ⟨g, 0, none⟩)) (fun _ _ h => by first | rfl | kernel_rfl) ?_
  refine lx.o_pure (.pointer (some ⟨g, 0, none⟩)) (fun _ _ h => by first | rfl | kernel_rfl) ?_
  refine lx.o_pure (.slice (some ⟨lb, 0, none⟩) n cap) (fun D X hC => lx.run_load rfl rfl Try.underlying22 rfl (blk_cell (FB D X hC) 0)) ?_
  refine lx.o_pure (.pointer (some ⟨g, 0, none⟩)) (fun _ _ h => by first | rfl | kernel_rfl) ?_
  refine lx.o_pure (.pointer (some ⟨g, 0, none⟩)) (fun _ _ h => by first | rfl | kernel_rfl) ?_
  refine lx.o_pure (.pointer (some ⟨g, 1, none⟩)) (fun _ _ h => by first | rfl | kernel_rfl) ?_
  refine lx.o_pure (.int .i64 (F : Nat)) (fun D X hC => lx.run_load rfl rfl Try.underlying3 rfl (blk_cell (FB D X hC) 1)) ?_
  refine lx.o_pure (.slice (some (at0 lb cap 0 1)) F cap) (fun D X hC => run_uptoG rfl rfl rfl (by omega) Try.underlying22 hinf hsz) ?_
  refine lx.o_eff v6 (fun D X h0 hdep hC => ?_) ?_
  · obtain ⟨q1, q2, q3, q4, q5, q6⟩ := hC
    have h00 : D 0 = true := hdep ⟨0, .data⟩ (by simp) rfl
    obtain rfl := q4 h00 h0
    have h20 : D 20 = false := by
      cases h : D 20 with
      | false => rfl
      | true => have := q2 h; rw [h0] at this; cases this
    exact ⟨_, run_appG rfl rfl rfl hr6, fun _ => h00, fun _ => rfl, (fun h => by have h9 : D 0 = false := h; rw [h00] at h9; cases h9), (fun _ h => by cases h), fun _ _ => rfl, (fun h => by have h9 : D 20 = true := h; rw [h20] at h9; cases h9)⟩
  refine lx.o_pure (.pointer (some ⟨g, 0, none⟩)) (fun _ _ h => by first | rfl | kernel_rfl) ?_
  refine lx.o_pure (.pointer (some ⟨g, 0, none⟩)) (fun _ _ h => by first | rfl | kernel_rfl) ?_
  refine lx.o_pure (.pointer (some ⟨g, 0, none⟩)) (fun _ _ h => by first | rfl | kernel_rfl) ?_
  refine lx.o_pure (.slice (some ⟨lb, 0, none⟩) n cap) (fun D X hC => lx.run_load rfl rfl Try.underlying22 rfl (blk_cell (FB D X hC) 0)) ?_
  refine lx.o_pure (.pointer (some ⟨g, 0, none⟩)) (fun _ _ h => by first | rfl | kernel_rfl) ?_
  refine lx.o_pure (.pointer (some ⟨g, 0, none⟩)) (fun _ _ h => by first | rfl | kernel_rfl) ?_
  refine lx.o_pure (.pointer (some ⟨g, 2, none⟩)) (fun _ _ h => by first | rfl | kernel_rfl) ?_
  refine lx.o_pure (.int .i64 (U : Nat)) (fun D X hC => lx.run_load rfl rfl Try.underlying3 rfl (blk_cell (FB D X hC) 2)) ?_
  refine lx.o_pure (.slice (some (at0 lb cap U 1)) (n - U) (cap - U)) (fun D X hC => run_fromG rfl rfl rfl (by omega) (by omega) Try.underlying22 hinf hsz) ?_
  refine lx.o_eff v7 (fun D X h0 hdep hC => ?_) ?_
  · obtain ⟨q1, q2, q3, q4, q5, q6⟩ := hC
    have h10 : D 10 = true := hdep ⟨10, .data⟩ (by simp) rfl
    obtain rfl := q5 h10 h0
    exact ⟨_, run_appG rfl rfl rfl hr7, q1, fun _ => h10, (fun h => by have h9 : D 0 = false := h; rw [q1 h10] at h9; cases h9), (fun _ h => by have h9 : D 10 = false := h; rw [h10] at h9; cases h9), (fun _ h => by cases h), fun _ => rfl⟩
  refine lx.o_pure (v7) (fun _ _ h => by first | rfl | kernel_rfl) ?_
  refine lx.o_end ?_
  simp only [lx.ov]
  rintro X4 d9 hd9 ⟨-, -, -, -, -, hX4⟩
  obtain rfl := hX4 (hd9 20 (by decide))
  clear hd9 FB HB hr6 hr7
  go_simp
  go_wp2
  go_ret
  exact ⟨_, rfl, HF.out.1, HF.out.2⟩
set_option maxRecDepth 100000 in
set_option maxHeartbeats 8000000 in
theorem delete_any {g lb n cap F U : Nat} {A C : List Value} {w : World} (h : G g lb n cap F U A w) (hc : HasC (n * 1) (F * 1) (U * 1) A C) (hone : ∀ v ∈ C, v.oneCell' = true) (i mm m : Nat) (hi : i ≤ F + (n - U)) (hn : n ≤ 1099511627776) (h1 : 1 ≤ mm) (hm : m = min mm (F + (n - U) - i)) :
    Calls Try.prog 30 #[.pointer (some ⟨g, 0, none⟩), .int .i64 (i : Nat), .int .i64 (mm : Nat)] w fun e w' => ∃ v, e = .returned v ∧ w'.ownsRow w.heap.size 3 1 v m ((C.drop (i * 1)).take (m * 1)) ∧ ∃ lb' n' cap' U' A', G g lb' n' cap' i U' A' w' ∧ HasC (n' * 1) (i * 1) (U' * 1) A' (C.take (i * 1) ++ C.drop ((i + m) * 1)) ∧ i + (n' - U') + m = F + (n - U) ∧ (lb' = lb ∨ w.heap.size ≤ lb') ∧ n' ≤ max n (2 * (F + (n - U))) ∧ v.ownBlock ≠ some lb' ∧ Kept (fun b => b = g ∨ b = lb) w w' := by
  obtain ⟨it, hinf, hz0, hsz, hby⟩ := info_parts info
  have hfu := h.fu
  have hun := h.un
  have hnc := h.nc
  have HLEN := run.hid (fun (X : World) (hX : Same w X) => len_any (Same.ga h hX) (by omega))
  have HOP := run.hid (fun (X : World) (hX : Same w X) => open_any (Same.ga h hX) hc hone i 0 hi hn (by omega))
  have hglt := (Array.getElem?_eq_some_iff.1 h.hg).1
  obtain ⟨N, hN⟩ : ∃ N, N = F + (n - U) := ⟨_, rfl⟩
  have HN := run.hid hN
  have HM := run.hid hm
  have hin : ¬ ((N : Nat) : Int) < (i : Int) := by omega
  have hi0 : ¬ (i : Int) < 0 := by omega
  have hm1 : ¬ (mm : Int) < 1 := by omega
  have hmn : min (mm : Int) ((N : Int) - (i : Int)) = (m : Int) := by omega
  have hNb : N ≤ 2199023255552 := by omega
  have hiN : i ≤ N := by omega
  rw [← hN] at HLEN
  clear h hc hN hm
  go_enter Try.func30, Try.ntmps30
  go_wp2_with fail
  refine (HLEN.out w (Same.refl w)).mono ?_
  rintro e w1 ⟨rfl, hs1⟩
  have HS1 := run.hid hs1
  clear hs1
  go_wp2_with fail
  refine (HLEN.out w1 HS1.out).mono ?_
  rintro e w1b ⟨rfl, hs1⟩
  have HS2 := run.hid (HS1.out.trans hs1)
  clear hs1 HS1 HLEN
  go_wp2_with fail
  refine (HOP.out w1b HS2.out).mono ?_
  rintro e w2 ⟨rfl, lb1, n1, cap1, U1, A1, hG1, hC1, hru, hNN, hlb1, hmx, hK1⟩
  have hfu1 := hG1.fu
  have hun1 := hG1.un
  have hnc1 := hG1.nc
  have hglt1 := (Array.getElem?_eq_some_iff.1 hG1.hg).1
  have hllt1 := (Array.getElem?_eq_some_iff.1 hG1.hl).1
  have hK := Kept.trans (Same.kept (S := fun b => b = g ∨ b = lb) (Kept.refl _ w) HS2.out) hK1 (fun _ _ h => h)
  have hw1 : w1b.heap.size = w.heap.size := by rw [HS2.out.heap]
  rw [hw1] at hlb1
  have hne := hG1.ne
  have hszA := hG1.sz
  have hsw := hK.size
  have hn1 : n1 ≤ 5497558138880 := by have := HN.out; omega
  have hUm : U1 + m ≤ n1 := by have := HN.out; have := HM.out; omega
  obtain ⟨wd, hwd⟩ : ∃ wd, wd = w2.drew := ⟨_, rfl⟩
  have hh : wd.heap = w2.heap := by rw [hwd]; rfl
  have hgd : wd.heap[g]? = _ := (by rw [hh] : wd.heap[g]? = w2.heap[g]?).trans hG1.hg
  have hld : wd.heap[lb1]? = _ := (by rw [hh] : wd.heap[lb1]? = w2.heap[lb1]?).trans hG1.hl
  have hE : (wd.alloc (.cells #[] 3)).ownsRow w2.heap.size 3 1 (.slice (some ⟨wd.heap.size, 0, none⟩) 0 0) 0 [] := own_empty (by rw [hh]; exact Nat.le_refl _)
  have hlE : (wd.alloc (.cells #[] 3)).heap[lb1]? = some (.cells A1.toArray 3 (0, 0)) := (blk_old _ (by rw [hh]; exact hllt1)).trans hld
  have hgE := (blk_old (w := wd) (.cells #[] 3) (by rw [hh]; exact hglt1)).trans hgd
  obtain ⟨v6, w6, hr6, hown6, hg6, hold6, hst6⟩ := run.run_append_any (P := Try.prog) (wd.alloc (.cells #[] 3)) w2.heap.size 22 22 3 it (.int .i64 0) 1 8 Try.underlying22 hinf hz0 hsz hby rfl (by decide) _ 0 [] hE (.slice (some (at0 lb1 cap1 U1 1)) (U1 + m - U1) (cap1 - U1)) m ((A1.drop (U1 * 1)).take (m * 1)) (by rw [show U1 + m - U1 = m by omega]; exact readsG hlE hszA (by omega)) (fun v hv => hone v (has_behind hC1 (by omega) (by omega) (by omega) (by omega) (by omega) v hv)) (by unfold maxLen; omega) (by omega) (by rw [World.size_alloc, hh]; omega)
  have hg6g : w6.heap[g]? = _ := (hg6.block g (by rw [World.size_alloc, hh]; omega) (by show some g ≠ some wd.heap.size; simp only [ne_eq, Option.some.injEq]; rw [hh]; omega)).trans hgE
  have hl6 : w6.heap[lb1]? = some (.cells A1.toArray 3 (0, 0)) := (hg6.block lb1 (by rw [World.size_alloc, hh]; omega) (by show some lb1 ≠ some wd.heap.size; simp only [ne_eq, Option.some.injEq]; rw [hh]; omega)).trans hlE
  have hs6 := hg6.size
  rw [World.size_alloc, hh] at hs6
  rw [Nat.zero_add, List.nil_append] at hown6
  have hk6 : Kept (fun b => b = g ∨ b = lb) w w6 := by
    refine ⟨?_, ?_, ?_, by omega, fun q hq hn => ?_⟩
    · exact hg6.os.trans ((by rw [hwd]; rfl : _ = w2.os).trans hK.os)
    · exact hg6.tape.trans ((by rw [hwd]; rfl : _ = w2.tape).trans hK.tape)
    · exact hg6.output.trans ((by rw [hwd]; rfl : _ = w2.output).trans hK.output)
    · exact (hg6.block q (by rw [World.size_alloc, hh]; omega) (by show some q ≠ some wd.heap.size; simp only [ne_eq, Option.some.injEq]; rw [hh]; omega)).trans ((blk_old _ (by rw [hh]; omega)).trans ((by rw [hh] : wd.heap[q]? = w2.heap[q]?).trans (hK.block q hq hn)))
  obtain ⟨hcut, hseg⟩ := has_cut (m := m * 1) hC1 (by omega) (by omega) (by omega)
  rw [hseg] at hown6
  have HF := run.hid (And.intro hown6 (And.intro hl6 hk6))
  have HCUT := run.hid hcut
  have HB := run.hid (And.intro hgd (And.intro hgE hg6g))
  have HWD := run.hid hwd
  clear hG1 hC1 hK1 hgd hld hE hlE hgE hown6 hg6 hold6 hst6 hg6g hl6 hwd hh hK HOP hseg hcut hk6
  go_upto_region 5 with fail
  have FB : ∀ (D : Nat → Bool) (X : World), (fun D X => (D 16 = true → D 0 = true) ∧ (D 0 = false → X = wd) ∧ (D 0 = true → D 16 = false → X = wd.alloc (.cells #[] 3)) ∧ (D 16 = true → X = w6)) D X → X.heap[g]? = some (.cells #[.slice (some ⟨lb1, 0, none⟩) n1 cap1, .int .i64 (i : Nat), .int .i64 (U1 : Nat)] 57 (0, 0)) := by
    rintro D X ⟨q1, q3, q4, q5⟩
    obtain ⟨b1, b2, b3⟩ := HB.out
    cases h16 : D 16 with
    | true => rw [q5 h16]; exact b3
    | false =>
      cases h0 : D 0 with
      | true => rw [q4 h0 h16]; exact b2
      | false => rw [q3 h0]; exact b1
  refine lx.region (fun D X => (D 16 = true → D 0 = true) ∧ (D 0 = false → X = wd) ∧ (D 0 = true → D 16 = false → X = wd.alloc (.cells #[] 3)) ∧ (D 16 = true → X = w6)) (by kernel_rfl) (by kernel_rfl) (by kernel_rfl) ⟨fun h => (by cases h), fun _ => HWD.out.symm, fun h => (by cases h), fun h => (by cases h)⟩ ?_
  refine lx.begin 59 rfl ?_
  refine lx.o_eff (.slice (some ⟨wd.heap.size, 0, none⟩) 0 0) (fun D X h0 hdep hC => ?_) ?_
  · obtain ⟨q1, q3, q4, q5⟩ := hC
    obtain rfl := q3 h0
    have h16 : D 16 = false := by
      cases h : D 16 with
      | false => rfl
      | true => have := q1 h; rw [h0] at this; cases this
    exact ⟨_, run_build0 rfl, fun _ => rfl, (fun h => by cases h), fun _ _ => rfl, (fun h => by have h9 : D 16 = true := h; rw [h16] at h9; cases h9)⟩
  refine lx.o_pure (.pointer (some ⟨g, 0, none⟩)) (fun _ _ h => by first | rfl | kernel_rfl) ?_
  refine lx.o_pure (.pointer (some ⟨g, 0, none⟩)) (fun _ _ h => by first | rfl | kernel_rfl) ?_
  refine lx.o_pure (.pointer (some ⟨g, 0, none⟩)) (fun _ _ h => by first | rfl | kernel_rfl) ?_
  refine lx.o_pure (.slice (some ⟨lb1, 0, none⟩) n1 cap1) (fun D X hC => lx.run_load rfl rfl Try.underlying22 rfl (blk_cell (FB D X hC) 0)) ?_
  refine lx.o_pure (.pointer (some ⟨g, 0, none⟩)) (fun _ _ h => by first | rfl | kernel_rfl) ?_
  refine lx.o_pure (.pointer (some ⟨g, 0, none⟩)) (fun _ _ h => by first | rfl | kernel_rfl) ?_
  refine lx.o_pure (.pointer (some ⟨g, 2, none⟩)) (fun _ _ h => by first | rfl | kernel_rfl) ?_
  refine lx.o_pure (.int .i64 (U1 : Nat)) (fun D X hC => lx.run_load rfl rfl Try.underlying3 rfl (blk_cell (FB D X hC) 2)) ?_
  refine lx.o_pure (.pointer (some ⟨g, 0, none⟩)) (fun _ _ h => by first | rfl | kernel_rfl) ?_
  refine lx.o_pure (.pointer (some ⟨g, 0, none⟩)) (fun _ _ h => by first | rfl | kernel_rfl) ?_
  refine lx.o_pure (.pointer (some ⟨g, 2, none⟩)) (fun _ _ h => by first | rfl | kernel_rfl) ?_
  refine lx.o_pure (.int .i64 (U1 : Nat)) (fun D X hC => lx.run_load rfl rfl Try.underlying3 rfl (blk_cell (FB D X hC) 2)) ?_
  refine lx.o_pure (.int .i64 (m : Nat)) (fun _ _ h => by first | rfl | kernel_rfl) ?_
  refine lx.o_pure (.int .i64 ((U1 + m : Nat) : Int)) (fun D X hC => lx.run_add rfl rfl rfl (by omega) (by omega)) ?_
  refine lx.o_pure (.slice (some (at0 lb1 cap1 U1 1)) (U1 + m - U1) (cap1 - U1)) (fun D X hC => run_partG rfl rfl rfl rfl (by omega) (by omega) Try.underlying22 hinf hsz) ?_
  refine lx.o_eff v6 (fun D X h0 hdep hC => ?_) ?_
  · obtain ⟨q1, q3, q4, q5⟩ := hC
    have h00 : D 0 = true := hdep ⟨0, .data⟩ (by simp) rfl
    obtain rfl := q4 h00 h0
    exact ⟨_, run_appG rfl rfl rfl hr6, fun _ => h00, (fun h => by have h9 : D 0 = false := h; rw [h00] at h9; cases h9), (fun _ h => by cases h), fun _ => rfl⟩
  refine lx.o_pure (v6) (fun _ _ h => by first | rfl | kernel_rfl) ?_
  refine lx.o_end ?_
  simp only [lx.ov]
  rintro X4 d9 hd9 ⟨-, -, -, hX4⟩
  obtain rfl : w6 = X4 := (hX4 (hd9 16 (by decide))).symm
  clear hd9 FB hr6
  go_simp
  have hgb := HB.out.2.2
  have c2 := blk_cell hgb 2
  change w6.cell? _ = some (.int .i64 (U1 : Nat)) at c2
  have f2 := blk_free hgb 2
  obtain ⟨u4, hu4⟩ : ∃ u4, u4 = U1 + m := ⟨_, rfl⟩
  have HU := run.hid hu4
  have hum : (U1 : Int) + (m : Int) = (u4 : Int) := by omega
  have hmb : (m : Int) ≤ 5497558138880 := by omega
  have HGB := run.hid hgb
  clear hgb hu4
  go_wp2
  go_ret
  have hb9 := (set3 HGB.out (.int .i64 (u4 : Nat))).2.2
  obtain ⟨hown, hl6, hk6⟩ := HF.out
  have hl9 := (Below.heap_setCell w6 ⟨g, 2, none⟩ (.int .i64 (u4 : Nat)) lb1 hne.symm).trans hl6
  have hk9 := hk6.setCell (i := 2) (b := g) (.inl (.inl rfl)) (.int .i64 (u4 : Nat))
  have hN := HN.out
  have hM := HM.out
  have hu := HU.out
  have hcut := HCUT.out
  rw [show U1 * 1 + m * 1 = u4 * 1 by omega, show i * 1 + m * 1 = (i + m) * 1 by omega] at hcut
  have hob : ∀ q, v6.ownBlock = some q → w2.heap.size ≤ q := fun q e => (hown.lt q e).1
  refine ⟨_, rfl, ?_, lb1, n1, cap1, u4, A1, ⟨hb9, hl9, hszA, by omega, by omega, hnc1, hne⟩, (by first | exact hcut | simpa using hcut), by omega, hlb1, by omega, fun e => by have := hob _ e; omega, hk9⟩
  have hown2 := hown.kept (row := some g) (show w6.grownBy (w6.setCell ⟨g, 2, none⟩ (.int .i64 (u4 : Nat))) (some g) from ⟨rfl, rfl, rfl, by simp [World.setCell], fun q hq hn => Below.heap_setCell _ _ _ _ (fun e => hn (by rw [e]))⟩) (by
    cases hv : v6.ownBlock with
    | none => exact .inl rfl
    | some q => exact .inr (fun e => by have := hob q hv; simp only [Option.some.injEq] at e; omega))
  first | exact own_base hown2 (by omega) | (rw [Nat.mul_one, Nat.mul_one] at hown2; exact own_base hown2 (by omega))
end Go.Proofs.Ytgpgbbbcodnieaa.edI
