/-
  The law UtfText: the bytes of any numbers; the list stays.
-/
import Derived.Test.YtbgbgikppcjcgaaUtfHelp
namespace Go.Proofs.Ytbgbgikppcjcgaa.utf
open Go.RowKit Go.Proofs
set_option linter.unusedVariables false

theorem rv_one (l : List Int) : ∀ u ∈ rv l, u.oneCell' = true := by
  intro u hu
  simp only [rv, List.mem_map] at hu
  obtain ⟨b, _, rfl⟩ := hu
  rfl
theorem rv_append (a b : List Int) : rv a ++ rv b = rv (a ++ b) := by simp [rv]
theorem rv_set (l : List Int) (k : Nat) (x : Int) : (rv l).set k (.int .i32 x) = rv (l.set k x) := by simp [rv, List.map_set]

set_option maxRecDepth 100000 in
set_option maxHeartbeats 4000000 in
theorem lawText_any (v : Value) (xs : List Int) (w : World) (hv : run.Reads w v (rv xs)) (hl : xs.length * 4 ≤ 140737488351232) : Calls Try.prog 5 #[v] w fun e w' => e = .returned (.bool true) ∧ Below w.heap.size w w' := by
  obtain ⟨i0, hi, hz0, hz1, hz2⟩ := info_parts info_rune
  have HV := run.hid hv
  obtain ⟨a, cap, rfl, _, _⟩ := hv
  rw [rv_length] at HV ⊢
  have hn := run.hid (World.ownsRow_nil w w.heap.size 21 1)
  go_enter Try.func5, Try.ntmps5
  have hvn := run.hid HV.out.n
  rw [rv_length] at hvn
  go_wp2_with (at_builtin; refine run.wpList_append_any _ rfl _ _ 32 rfl w.heap.size 21 i0 (.int .i32 0) 1 4 Try.underlying32 hi hz0 hz1 hz2 rfl (by decide) _ 0 [] rfl hn.out _ xs.length (rv xs) rfl hvn.out (rv_one xs) (by unfold maxLen; omega) (by omega) (Nat.le_refl _) ?_)
  intro v1 w1 hown1 hgrow1 _ hstep1
  have hb1 := run.below_append (Below.refl w.heap.size w) hn.out hgrow1 (Nat.le_refl _)
  have hs1 := hb1.size
  clear hgrow1 hstep1 hn hvn
  go_wp2_with (at_builtin; refine run.wpList_append_any _ rfl _ _ 32 rfl w.heap.size 21 i0 (.int .i32 0) 1 4 Try.underlying32 hi hz0 hz1 hz2 rfl (by decide) _ xs.length (rv xs) rfl (hown1.alloc _) _ 4 (rv [-7, -8, -9, -10]) rfl (run.readsN_new w1 (rv [-7, -8, -9, -10]) 4 1 _ rfl) (rv_one _) (by unfold maxLen; omega) (by omega) (by simp; omega) ?_)
  intro v2 w2 hown2 hgrow2 _ hstep2
  have hb2 := run.below_append (hb1.alloc hs1 _) (hown1.alloc _) hgrow2 (by simp; omega)
  have hs2 := hb2.size
  rw [rv_append] at hown2
  clear hgrow2 hstep2 hown1 hb1 hs1
  obtain ⟨hlx, hcase⟩ := hown2
  rcases hcase with ⟨_, h0⟩ | ⟨g, capg, cur, rfl, hbg, hg, hnc, hcm, hcs, htake⟩
  · omega
  have hown2 : w2.ownsRow w.heap.size 21 1 (.slice (some ⟨g, 0, none⟩) (xs.length + 4) capg) (xs.length + 4) (rv (xs ++ [-7, -8, -9, -10])) := ⟨hlx, .inr ⟨g, capg, cur, rfl, hbg, hg, hnc, hcm, hcs, htake⟩⟩
  have hcapg : capg ≤ 9223372036854775807 := hcm
  clear hlx hg hcs htake hcm
  have hk2 := run.hid (run.own_prefix (n := xs.length) (by rw [rv_length, Nat.mul_one]) (Nat.le_add_right _ 4) (by rw [rv_append]; exact hown2))
  have c7 := (hown2.cellAt xs.length (by omega)).trans (show (rv (xs ++ [-7, -8, -9, -10]))[xs.length]? = some (.int .i32 (-7)) by simp [rv])
  have c10 := (hown2.cellAt (xs.length + 3) (by omega)).trans (show (rv (xs ++ [-7, -8, -9, -10]))[xs.length + 3]? = some (.int .i32 (-10)) by simp [rv])
  have hlt := run.hid ((hown2.lt g rfl).2)
  clear hown2
  have HT1 := run.hid (text_any _ xs w2 (run.reads_own hk2.out) (by omega))
  go_wp2_with fail
  refine (HT1.out).mono ?_
  rintro e w3 ⟨rfl, hb3⟩
  have hk3 := run.hid (run.own_below hk2.out hb3)
  have HT2 := run.hid (text_any _ xs w3 (run.reads_own hk3.out) (by omega))
  go_wp2_with fail
  refine (HT2.out).mono ?_
  rintro e w4 ⟨rfl, hb4⟩
  have hk4 := run.hid (run.own_below hk3.out hb4)
  have hb24 := hb3.trans (hb4.mono hb3.size)
  have hb04 := hb2.trans (hb24.mono hs2)
  have HT3 := run.hid (refText_any _ xs w4 (HV.out.below hb04) (by omega))
  go_wp2_with fail
  refine (HT3.out).mono ?_
  rintro e w5 ⟨rfl, hb5⟩
  have hk5 := run.hid (run.own_below hk4.out hb5)
  have hb25 := hb24.trans (hb5.mono hb24.size)
  have hb05 := hb2.trans (hb25.mono hs2)
  have HS := run.hid (refSame_eq _ _ xs w5 (run.reads_own hk5.out) (HV.out.below hb05) (by omega))
  clear HT1 HT2 HT3 hk2 hk3 hk4 hb3 hb4 hb5 hb24 hb04
  generalize str (text xs) = sx at *
  go_wp2_with fail
  refine (HS.out).mono ?_
  rintro e w6 ⟨rfl, hb6⟩
  have hk6 := run.own_below hk5.out hb6
  have hb26 := hb25.trans (hb6.mono hb25.size)
  have hb06 := hb2.trans (hb26.mono hs2)
  have d7 := (hb26.cell (p := ⟨g, xs.length, none⟩) hlt.out).trans c7
  have d10 := (hb26.cell (p := ⟨g, xs.length + 3, none⟩) hlt.out).trans c10
  clear c7 c10 HS hk5 hb25 hb05 hb6 hb26 hb2
  go_wp2
  clear d7 d10
  have H0 := run.hid hk6
  clear hk6
  go_loopw [8] (fun vk wr => ∃ k : Nat, ∃ ys : List Int, k ≤ xs.length ∧ vk = .int .i64 k ∧ Hid (ys.length = xs.length) ∧ Hid (wr.ownsRow w.heap.size 21 1 (.slice (some ⟨g, 0, none⟩) xs.length capg) xs.length (rv ys)) ∧ Below w.heap.size w wr) (fun k _ => (xs.length - intOf k).toNat)
  case atStart => exact ⟨0, xs, by omega, rfl, run.hid rfl, H0, hb06⟩
  case round =>
    clear H0 hb06
    obtain ⟨k, ys, hk, rfl, HL, HO, hbel⟩ := hrel
    by_cases hkl : k < xs.length
    · have hcell := (HO.out.cellAt k (by omega)).trans (rv_get (show k < ys.length by rw [HL.out]; exact hkl))
      have hfree := HO.out.frozenAt k
      have hst := fun x => (HO.out.stored k (.int .i32 x)).1
      simp only [rv_set] at hst
      have HST := run.hid hst
      have hbel2 := run.hid (fun x => hbel.setCell (p := ⟨g, k, none⟩) hbg (.int .i32 x))
      clear hst
      generalize ys.getD k 0 = y at *
      go_wp2
      go_roundw
      case rel => exact ⟨k + 1, ys.set k _, by omega, by go_num, run.hid (by rw [List.length_set]; exact HL.out), run.hid (HST.out _), hbel2.out _⟩
      case measure => simp [intOf]; omega
    · have HT4 := run.hid (refText_any _ ys wr (run.reads_own HO.out) (by rw [HL.out]; omega))
      go_wp2_with fail
      refine (HT4.out).mono ?_
      rintro e w7 ⟨rfl, hb7⟩
      have HO7 := run.hid (run.own_below HO.out hb7)
      have HT5 := run.hid (text_any _ ys w7 (run.reads_own HO7.out) (by rw [HL.out]; omega))
      go_wp2_with fail
      refine (HT5.out).mono ?_
      rintro e w8 ⟨rfl, hb8⟩
      have HW := run.hid (wakes_any w8)
      have hc := hbel.trans (hb7.mono hbel.size)
      have hd := hc.trans (hb8.mono hc.size)
      clear hb7 hb8 hc hbel HT4 HT5
      generalize str (text ys) = sy at *
      go_wp2_with fail
      refine (HW.out).mono ?_
      rintro e w9 ⟨rfl, hb9⟩
      have hf := hd.trans (hb9.mono hd.size)
      go_wp2
      go_ret
      exact ⟨rfl, hf⟩

end Go.Proofs.Ytbgbgikppcjcgaa.utf
