/-
  The walks of the layer utf: the document's bytes of a number, of numbers; its characters; its clean text; two lists held against each other.
-/
import Derived.Test.YtgjlhjnkcgdopaaUtfRefLists
import Derived.Test.YtgjlhjnkcgdopaaUtfWakes
namespace Go.Proofs.Ytgjlhjnkcgdopaa.utf
open Go.RowKit Go.Proofs
set_option linter.unusedVariables false

set_option maxHeartbeats 400000 in
theorem refClean_any (s : ByteArray) (w : World) (hs : s.size < 4611686018427387904) (hn : (runes (bs s)).length ≤ 35184372088832) : Calls Try.prog 13 #[.string s] w fun e w' => e = .returned (.string (str (clean (bs s)))) ∧ Below w.heap.size w w' := by
  go_enter Try.func13, Try.ntmps13
  go_wp2_with fail
  refine (refRunes_use s w hs hn).mono ?_
  rintro e w1 ⟨v, rfl, _, hr, hb, _⟩
  have HT := run.hid (refText_any v (runes (bs s)) w1 hr hn)
  clear hr
  go_wp2_with fail
  refine (HT.out).mono ?_
  rintro e w2 ⟨rfl, hb2⟩
  go_wp2
  go_ret
  exact ⟨rfl, hb.trans (hb2.mono hb.size)⟩

set_option maxHeartbeats 1000000 in
theorem refSame_any (u v : Value) (xs ys : List Int) (w : World) (hu : run.Reads w u (rv xs)) (hv : run.Reads w v (rv ys)) (hl : xs.length < 4611686018427387904) (hl2 : ys.length < 4611686018427387904) :
    Calls Try.prog 9 #[u, v] w fun e w' => e = .returned (.bool (decide (xs = ys))) ∧ Below w.heap.size w w' := by
  obtain ⟨a, cap, rfl, hc, _⟩ := hu
  obtain ⟨a2, cap2, rfl, hc2, _⟩ := hv
  rw [rv_length, rv_length]
  by_cases hlen : xs.length = ys.length
  · have HC := run.hid (fun k => @reads_at w a xs k hc)
    have HC2 := run.hid (fun k => @reads_at w a2 ys k hc2)
    clear hc hc2
    have hle : xs.length ≤ ys.length := by omega
    have hle2 : ys.length ≤ xs.length := by omega
    have HLEN := run.hid hlen
    have hd : ((xs.length : Int) == (ys.length : Int)) = true := by simp; omega
    have hd2 : ((xs.length : Int) != (ys.length : Int)) = false := by simp; omega
    clear hlen
    go_enter Try.func9, Try.ntmps9
    go_wp2
    go_loopw [5] (fun vk wr => ∃ k : Nat, k ≤ xs.length ∧ vk = .int .i64 k ∧ Below w.heap.size w wr ∧ Hid (∀ j, j < k → xs.getD j 0 = ys.getD j 0)) (fun k _ => (xs.length - intOf k).toNat)
    case atStart => exact ⟨0, by omega, rfl, Below.refl _ _, run.hid (eq_start xs ys)⟩
    case round =>
      obtain ⟨k, hk, rfl, hbel, HE⟩ := hrel
      by_cases hkl : k < xs.length
      · obtain ⟨b, off, rfl, hlt, hcell⟩ := HC.out k hkl
        obtain ⟨b2, off2, rfl, hlt2, hcell2⟩ := HC2.out k (by omega)
        have hck := (hbel.cell (p := ⟨b, off + k, none⟩) hlt).trans hcell
        have hck2 := (hbel.cell (p := ⟨b2, off2 + k, none⟩) hlt2).trans hcell2
        clear hcell hcell2
        have HN := run.hid (fun h => eq_next HE.out h)
        have HX := run.hid (@ne_at xs ys k)
        generalize xs.getD k 0 = x at *
        generalize ys.getD k 0 = y at *
        by_cases hxy : x = y
        · subst hxy
          have hn := run.hid (HN.out rfl)
          clear HN HX
          go_wp2
          go_quiet (fail)
          go_wp2
          go_roundw
          case rel => exact ⟨k + 1, by omega, by go_num, below_drewN hbel _, hn⟩
          case measure => simp [intOf]; omega
        · have hn := run.hid (decide_eq_false (HX.out hxy))
          have hb1 : (x == y) = false := by simpa using hxy
          have hb2 : (x != y) = true := by simpa using hxy
          clear HN HX hxy
          go_wp2
          go_quiet (fail)
          go_wp2
          go_ret
          exact ⟨ret_eq (bool_eq hn.out.symm), below_drewN hbel _⟩
      · have hn := run.hid (decide_eq_true (eq_end HLEN.out (fun j hj => HE.out j (by omega))))
        go_wp2
        go_ret
        exact ⟨ret_eq (bool_eq hn.out.symm), hbel⟩
  · have hn := run.hid (decide_eq_false (ne_len hlen))
    have hd : ((xs.length : Int) == (ys.length : Int)) = false := by simp; omega
    have hd2 : ((xs.length : Int) != (ys.length : Int)) = true := by simp; omega
    clear hlen hc hc2
    go_enter Try.func9, Try.ntmps9
    go_wp2
    go_ret
    exact ⟨ret_eq (bool_eq hn.out.symm), Below.refl _ _⟩

theorem refSame_eq (u v : Value) (xs : List Int) (w : World) (hu : run.Reads w u (rv xs)) (hv : run.Reads w v (rv xs)) (hl : xs.length < 4611686018427387904) :
    Calls Try.prog 9 #[u, v] w fun e w' => e = .returned (.bool true) ∧ Below w.heap.size w w' :=
  (refSame_any u v xs xs w hu hv hl hl).mono fun _ _ ⟨he, hb⟩ => ⟨he.trans (ret_eq (bool_eq (decide_eq_true rfl))), hb⟩

set_option maxHeartbeats 1000000 in
theorem same_any (u v : Value) (xs ys : List Int) (w : World) (hu : run.Reads w u (rv xs)) (hv : run.Reads w v (rv ys)) (hl : xs.length < 4611686018427387904) (hl2 : ys.length < 4611686018427387904) :
    Calls Try.prog 28 #[u, v] w fun e w' => e = .returned (.bool (decide (xs = ys))) ∧ Below w.heap.size w w' := by
  obtain ⟨a, cap, rfl, hc, _⟩ := hu
  obtain ⟨a2, cap2, rfl, hc2, _⟩ := hv
  rw [rv_length, rv_length]
  by_cases hlen : xs.length = ys.length
  · have HC := run.hid (fun k => @reads_at w a xs k hc)
    have HC2 := run.hid (fun k => @reads_at w a2 ys k hc2)
    clear hc hc2
    have hle : xs.length ≤ ys.length := by omega
    have hle2 : ys.length ≤ xs.length := by omega
    have HLEN := run.hid hlen
    have hd : ((xs.length : Int) == (ys.length : Int)) = true := by simp; omega
    have hd2 : ((xs.length : Int) != (ys.length : Int)) = false := by simp; omega
    clear hlen
    go_enter Try.func28, Try.ntmps28
    go_wp2
    go_loopw [5] (fun vk wr => ∃ k : Nat, k ≤ xs.length ∧ vk = .int .i64 k ∧ Below w.heap.size w wr ∧ Hid (∀ j, j < k → xs.getD j 0 = ys.getD j 0)) (fun k _ => (xs.length - intOf k).toNat)
    case atStart => exact ⟨0, by omega, rfl, Below.refl _ _, run.hid (eq_start xs ys)⟩
    case round =>
      obtain ⟨k, hk, rfl, hbel, HE⟩ := hrel
      by_cases hkl : k < xs.length
      · obtain ⟨b, off, rfl, hlt, hcell⟩ := HC.out k hkl
        obtain ⟨b2, off2, rfl, hlt2, hcell2⟩ := HC2.out k (by omega)
        have hck := (hbel.cell (p := ⟨b, off + k, none⟩) hlt).trans hcell
        have hck2 := (hbel.cell (p := ⟨b2, off2 + k, none⟩) hlt2).trans hcell2
        clear hcell hcell2
        have HN := run.hid (fun h => eq_next HE.out h)
        have HX := run.hid (@ne_at xs ys k)
        generalize xs.getD k 0 = x at *
        generalize ys.getD k 0 = y at *
        by_cases hxy : x = y
        · subst hxy
          have hn := run.hid (HN.out rfl)
          clear HN HX
          go_wp2
          go_quiet (fail)
          go_wp2
          go_roundw
          case rel => exact ⟨k + 1, by omega, by go_num, below_drewN hbel _, hn⟩
          case measure => simp [intOf]; omega
        · have hn := run.hid (decide_eq_false (HX.out hxy))
          have hb1 : (x == y) = false := by simpa using hxy
          have hb2 : (x != y) = true := by simpa using hxy
          clear HN HX hxy
          go_wp2
          go_quiet (fail)
          go_wp2
          go_ret
          exact ⟨ret_eq (bool_eq hn.out.symm), below_drewN hbel _⟩
      · have hn := run.hid (decide_eq_true (eq_end HLEN.out (fun j hj => HE.out j (by omega))))
        go_wp2
        go_ret
        exact ⟨ret_eq (bool_eq hn.out.symm), hbel⟩
  · have hn := run.hid (decide_eq_false (ne_len hlen))
    have hd : ((xs.length : Int) == (ys.length : Int)) = false := by simp; omega
    have hd2 : ((xs.length : Int) != (ys.length : Int)) = true := by simp; omega
    clear hlen hc hc2
    go_enter Try.func28, Try.ntmps28
    go_wp2
    go_ret
    exact ⟨ret_eq (bool_eq hn.out.symm), Below.refl _ _⟩

theorem same_eq (u v : Value) (xs : List Int) (w : World) (hu : run.Reads w u (rv xs)) (hv : run.Reads w v (rv xs)) (hl : xs.length < 4611686018427387904) :
    Calls Try.prog 28 #[u, v] w fun e w' => e = .returned (.bool true) ∧ Below w.heap.size w w' :=
  (same_any u v xs xs w hu hv hl hl).mono fun _ _ ⟨he, hb⟩ => ⟨he.trans (ret_eq (bool_eq (decide_eq_true rfl))), hb⟩

end Go.Proofs.Ytgjlhjnkcgdopaa.utf
