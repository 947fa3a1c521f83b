/-
  The walks of the layer utf: the first character of a text, by the program.
-/
import Derived.Test.YtgpgbbbcodnieaaUtfWalks
namespace Go.Proofs.Ytgpgbbbcodnieaa.utf
open Go.RowKit Go.Proofs
set_option linter.unusedVariables false

/-- a text's bytes as numbers -/
def bs (s : ByteArray) : List Nat := s.data.toList.map UInt8.toNat
theorem bs_length (s : ByteArray) : (bs s).length = s.size := by simp [bs]
theorem bs_byte (s : ByteArray) : ∀ c ∈ bs s, c < 256 := by
  intro c hc
  simp only [bs, List.mem_map] at hc
  obtain ⟨b, _, rfl⟩ := hc
  exact b.toNat_lt
theorem bs_get (s : ByteArray) (i : Nat) (h : i < s.size) : (bs s).getD i 0 = (s[i]'h).toNat := by
  have h' : i < s.data.size := h
  simp only [bs, List.getD_eq_getElem?_getD, List.getElem?_map, Array.getElem?_toList]
  rw [Array.getElem?_eq_getElem h']
  rfl
theorem bs_drop (s : ByteArray) (i : Nat) : bs (s.extract i s.size) = (bs s).drop i := by
  simp [bs, List.map_drop, ByteArray.data_extract]
  exact List.take_of_length_le (by simp)
theorem bs_nil {s : ByteArray} (h : bs s = []) : s.size = 0 := by rw [← bs_length, h]; rfl
theorem bs_cons {s : ByteArray} (h : 0 < s.size) : ∃ b t, bs s = b :: t ∧ s.size = t.length + 1 := by
  cases e : bs s with
  | nil => rw [bs_nil e] at h; omega
  | cons b t => exact ⟨b, t, rfl, by rw [← bs_length, e]; rfl⟩

theorem u8_eq {a b : Nat} (h : a = b) : Value.int .u8 a = Value.int .u8 b := by rw [h]
theorem ret_eq {v v' : Value} (h : v = v') : Ending.returned v = Ending.returned v' := by rw [h]

set_option maxHeartbeats 400000 in
theorem at_text (s : ByteArray) (p i : Nat) (w : World) (hi : i < s.size) (hs : s.size ≤ maxLen) (hc : w.cell? ⟨p, 0, none⟩ = some (.string s)) :
    Calls Try.prog 59 #[.int .i64 i, .pointer (some ⟨p, 0, none⟩)] w fun e w' => e = .returned (.int .u8 ((bs s).getD i 0)) ∧ Below w.heap.size w w' := by
  unfold maxLen at hs
  have hg := run.hid (bs_get s i hi)
  go_enter Try.func59, Try.ntmps59
  go_wp2
  go_ret
  exact ⟨ret_eq (by rw [hg.out]; rfl), Below.refl _ _⟩

theorem tells_text (s : ByteArray) (w : World) (hs : s.size ≤ maxLen) (p : Nat) (hp : p < w.heap.size) (hc : w.cell? ⟨p, 0, none⟩ = some (.string s)) :
    Tells 59 (.pointer (some ⟨p, 0, none⟩)) (bs s) w := by
  intro i w1 hi hb
  exact at_text s p i w1 (by rw [bs_length] at hi; exact hi) hs ((hb.cell (p := ⟨p, 0, none⟩) hp).trans hc)

theorem empty_text {s : ByteArray} (h : s.size = 0) : s.toList.isEmpty = true := by
  have : s.data.toList = [] := List.length_eq_zero_iff.1 (by simpa using h)
  simp [ByteArray.toList_eq, this]
theorem full_text {s : ByteArray} (h : 0 < s.size) : s.toList.isEmpty = false := by
  cases e : s.toList.isEmpty with
  | false => rfl
  | true => exfalso; simp [ByteArray.toList_eq] at e; have : s.data.size = 0 := by rw [e]; rfl
            have : s.size = 0 := this
            omega

set_option maxHeartbeats 1000000 in
theorem decode_any (s : ByteArray) (w : World) (hs : s.size < 4611686018427387904) :
    Calls Try.prog 52 #[.string s] w fun e w' => e = .returned (.tuple #[.int .i32 (first (bs s)).1, .int .i64 (first (bs s)).2.1]) ∧ Below w.heap.size w w' := by
  by_cases h0 : s.size = 0
  · have hn := run.hid (show first (bs s) = (0, 0, false) by rw [List.length_eq_zero_iff.1 (show (bs s).length = 0 by rw [bs_length]; exact h0)]; rfl)
    have he := empty_text h0
    go_enter Try.func52, Try.ntmps52
    go_wp2
    go_ret2
    exact ⟨by rw [hn.out]; rfl, run.below_one _ _⟩
  · have he := full_text (s := s) (by omega)
    have hsz := run.size_one w (Obj.cells #[Value.string s] 9)
    have ht := run.hid (tells_text s (w.alloc (Obj.cells #[Value.string s] 9)) (by unfold maxLen; omega) w.heap.size (by omega) (run.cell_new _ _ _))
    have bel := run.below_one w (Obj.cells #[Value.string s] 9)
    clear hsz
    go_enter Try.func52, Try.ntmps52
    obtain ⟨b, t, hbt, hsz⟩ := bs_cons (s := s) (by omega)
    have hby := bs_byte s
    rw [hbt] at hby ht ⊢
    have HF := run.hid (first_text _ b t _ (by omega) hby ht.out)
    rw [show (b :: t).length = s.size from hsz.symm] at HF
    clear ht hby hbt hsz
    generalize first (b :: t) = q at *
    obtain ⟨r, n, o⟩ := q
    go_wp2_with fail
    refine (HF.out).mono ?_
    rintro e w1 ⟨rfl, hb1⟩
    have bel1 := bel.trans (hb1.mono bel.size)
    clear HF bel hb1
    go_wp2
    go_ret2
    exact ⟨rfl, bel1⟩
end Go.Proofs.Ytgpgbbbcodnieaa.utf
