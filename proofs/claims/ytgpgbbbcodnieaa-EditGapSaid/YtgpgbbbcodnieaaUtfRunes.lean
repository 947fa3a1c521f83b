/-
  The walks of the layer utf: all characters of a text.
-/
import Derived.Test.YtgpgbbbcodnieaaUtfDec
import Derived.Test.YtgpgbbbcodnieaaRowKit
namespace Go.Proofs.Ytgpgbbbcodnieaa.utf
open Go.RowKit Go.Proofs
set_option linter.unusedVariables false

theorem info_rune : (Try.prog.info? 21).map (fun i => (i.zero, i.size, i.bytes)) = some (some (.int .i32 0), 1, 4) := by kernel_rfl
theorem info_byte : (Try.prog.info? 5).map (fun i => (i.zero, i.size, i.bytes)) = some (some (.int .u8 0), 1, 1) := by kernel_rfl

def rv (l : List Int) : List Value := l.map (Value.int .i32)
theorem rv_length (l : List Int) : (rv l).length = l.length := by simp [rv]
theorem rv_snoc (l : List Int) (x : Int) : rv l ++ [.int .i32 x] = rv (l ++ [x]) := by simp [rv]

theorem runes_at {s : ByteArray} {k : Nat} (hk : k < s.size) : runes ((bs s).drop k) = ((first (bs (s.extract k s.size))).1 : Int) :: runes ((bs s).drop (k + (first (bs (s.extract k s.size))).2.1)) := by
  have hne : (bs s).drop k ≠ [] := by
    intro h; have := congrArg List.length h; simp [bs_length] at this; omega
  rw [bs_drop, runes_step _ hne, List.drop_drop]
theorem count_at {s : ByteArray} {k : Nat} (hk : k < s.size) : 1 ≤ (first (bs (s.extract k s.size))).2.1 ∧ (first (bs (s.extract k s.size))).2.1 ≤ 4 ∧ k + (first (bs (s.extract k s.size))).2.1 ≤ s.size := by
  have hne : (bs s).drop k ≠ [] := by
    intro h; have := congrArg List.length h; simp [bs_length] at this; omega
  have := first_count _ hne
  rw [List.length_drop, bs_length] at this
  rw [bs_drop]; omega

def Runes (s : ByteArray) (w : World) (e : Ending) (w' : World) : Prop :=
  ∃ v, e = .returned v ∧ w'.ownsRow w.heap.size 21 1 v (runes (bs s)).length (rv (runes (bs s))) ∧ Below w.heap.size w w' ∧ (v = .slice none 0 0 ↔ runes (bs s) = [])

theorem all_read {s : ByteArray} {k : Nat} {xs : List Int} (h : runes (bs s) = xs ++ runes ((bs s).drop k)) (hk : s.size ≤ k) : runes (bs s) = xs := by
  rw [h, List.drop_eq_nil_of_le (by rw [bs_length]; exact hk), runes_nil, List.append_nil]

theorem run_more {s : ByteArray} {k : Nat} {xs ys : List Int} {r : Int} (h : runes (bs s) = xs ++ runes ((bs s).drop k)) (h2 : runes ((bs s).drop k) = r :: ys) : xs.length + 1 ≤ (runes (bs s)).length := by
  rw [h, h2]; simp

set_option maxHeartbeats 2000000 in
theorem runes_any (s : ByteArray) (w : World) (hs : s.size < 4611686018427387904) (hn : (runes (bs s)).length ≤ 35184372088832) : Calls Try.prog 42 #[.string s] w (Runes s w) := by
  obtain ⟨i0, hi, hz0, hz1, hz2⟩ := info_parts info_rune
  go_enter Try.func42, Try.ntmps42
  go_wp2
  go_loopw [3, 4] (fun v vk wr => ∃ k : Nat, ∃ xs : List Int, k ≤ s.size ∧ xs.length ≤ k ∧ vk = .int .i64 k ∧ wr.ownsRow w.heap.size 21 1 v xs.length (rv xs) ∧ Below w.heap.size w wr ∧ Hid (runes (bs s) = xs ++ runes ((bs s).drop k)) ∧ Hid (v = .slice none 0 0 ↔ xs = [])) (fun _ k _ => (s.size - intOf k).toNat)
  case atStart => exact ⟨0, [], by omega, by simp, rfl, World.ownsRow_nil _ _ _ _, Below.refl _ _, run.hid rfl, run.hid ⟨fun _ => rfl, fun _ => rfl⟩⟩
  case round =>
    obtain ⟨k, xs, hk, hxk, rfl, hown, hbel, HX, HV⟩ := hrel
    have hsz := hbel.size
    by_cases hks : k < s.size
    · have hc := count_at hks
      have HR := run.hid (runes_at hks)
      have hmore := run_more HX.out HR.out
      have HD := run.hid (fun w => decode_any (s.extract k s.size) w (by rw [← bs_length, bs_drop, List.length_drop, bs_length]; omega))
      go_wp2_with fail
      refine (HD.out wr).mono ?_
      generalize first (bs (s.extract k s.size)) = q at *
      obtain ⟨r, n, o⟩ := q
      simp only at hc
      obtain ⟨hc1, hc2, hc3⟩ := hc
      rintro e w1 ⟨rfl, hb1⟩
      have hown1 := run.own_below hown (hb1.mono (Nat.le_refl _))
      have hbel1 := hbel.trans (hb1.mono hsz)
      have hsz1 := hbel1.size
      clear hown hbel hsz HD hb1
      go_wp2_with (at_builtin; refine wpList_append_own _ rfl _ _ 88 rfl w.heap.size 21 i0 (.int .i32 0) 1 4 Try.underlying88 hi hz0 hz1 hz2 rfl (by decide) _ _ _ rfl (hown1.alloc _) ⟨w1.heap.size, 0, none⟩ 1 1 [.int .i32 r] rfl rfl (run.news_one _ _ _) (by intro u hu; simp at hu; subst hu; rfl) (by unfold maxLen; omega) (by omega) (by simp; omega) ?_)
      intro v' w2 hown2 hgrow hnil
      rw [rv_snoc] at hown2
      have hbel2 := run.below_append (hbel1.alloc hsz1 _) (hown1.alloc _) hgrow (by simp; omega)
      have hx2 := run.hid (HX.out.trans (by rw [HR.out]; simp : _ = (xs ++ [(r : Int)]) ++ runes ((bs s).drop (k + n))))
      have hn2 := run.hid (show v' = .slice none 0 0 ↔ xs ++ [(r : Int)] = [] from ⟨fun h => (hnil h).elim, fun h => by simp at h⟩)
      have ho3 : w2.ownsRow w.heap.size 21 1 v' (xs ++ [(r : Int)]).length (rv (xs ++ [(r : Int)])) := by rw [List.length_append]; exact hown2
      have hl3 : (xs ++ [(r : Int)]).length ≤ k + n := by simp; omega
      clear hown1 hown2 hgrow hnil hbel1
      go_wp2
      go_roundw
      case rel => exact ⟨k + n, _, hc3, hl3, by go_num, ho3, hbel2, hx2, hn2⟩
      case measure => simp [intOf]; omega
    · have hfin := run.hid (all_read HX.out (by omega))
      go_wp2
      go_ret
      exact ⟨_, rfl, by rw [hfin.out]; exact hown, hbel, by rw [hfin.out]; exact HV.out⟩
end Go.Proofs.Ytgpgbbbcodnieaa.utf
