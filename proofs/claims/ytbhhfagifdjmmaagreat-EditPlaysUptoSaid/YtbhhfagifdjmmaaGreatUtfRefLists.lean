/-
  The walks of the layer utf: the document's bytes of a number, of numbers; its characters; its clean text; two lists held against each other.
-/
import Derived.Test.YtbhhfagifdjmmaaGreatUtfUse
import Derived.Test.YtbhhfagifdjmmaaGreatUtfRefDec
import Derived.Lib.AppendStr
namespace Go.Proofs.YtbhhfagifdjmmaaGreat.utf
open Go.RowKit Go.Proofs
set_option linter.unusedVariables false

theorem char_1 {r : Int} (h : r < 0) : isChar r = false := by unfold isChar; rw [decide_eq_false (by omega)]; rfl
theorem char_2 {r : Int} (h : 0x10FFFF < r) : isChar r = false := by unfold isChar; rw [decide_eq_false (show ¬ r ≤ 0x10FFFF by omega)]; simp
theorem char_3 {r : Int} (h : 0 ≤ r) (h1 : r < 0xD800) : isChar r = true := char_of ⟨h, by omega, .inl h1⟩
theorem char_4 {r : Int} (h : 0xDFFF < r) (h1 : r ≤ 0x10FFFF) : isChar r = true := char_of ⟨by omega, h1, .inr h⟩
theorem char_5 {r : Int} (h : 0xD800 ≤ r) (h1 : r ≤ 0xDFFF) : isChar r = false := by
  cases e : isChar r with
  | false => rfl
  | true => have := char_bounds e; omega

set_option maxRecDepth 100000 in
set_option maxHeartbeats 1000000 in
theorem character_any (r : Int) (w : World) : Calls Tryz.prog 97 #[.int .i32 r] w fun e w' => e = .returned (.bool (isChar r)) ∧ w' = w := by
  by_cases h0 : r < 0
  · have hc := run.hid (char_1 h0)
    go_enter Tryz.func97, Tryz.ntmps97
    go_wp2
    go_ret
    exact ⟨by rw [hc.out]; simp; try omega, rfl⟩
  by_cases h1 : 0x10FFFF < r
  · have hc := run.hid (char_2 h1)
    go_enter Tryz.func97, Tryz.ntmps97
    go_wp2
    go_ret
    exact ⟨by rw [hc.out]; simp; try omega, rfl⟩
  by_cases h2 : r < 0xD800
  · have hc := run.hid (char_3 (by omega) h2)
    go_enter Tryz.func97, Tryz.ntmps97
    go_wp2
    go_ret
    exact ⟨by rw [hc.out]; simp; try omega, rfl⟩
  by_cases h3 : 0xDFFF < r
  · have hc := run.hid (char_4 h3 (by omega))
    go_enter Tryz.func97, Tryz.ntmps97
    go_wp2
    go_ret
    exact ⟨by rw [hc.out]; simp; try omega, rfl⟩
  · have hc := run.hid (char_5 (r := r) (by omega) (by omega))
    go_enter Tryz.func97, Tryz.ntmps97
    go_wp2
    go_ret
    exact ⟨by rw [hc.out]; simp; try omega, rfl⟩

theorem conv_lit (xs : List Int) (w : World) (t : TypeId) :
    (convert 85 9 (.slice (some ⟨w.heap.size, 0, none⟩) xs.length xs.length)).run Tryz.prog (w.alloc (.cells (xs.map (Value.int .u8)).toArray t)) = .ok (.string (strOfNums xs)) (w.alloc (.cells (xs.map (Value.int .u8)).toArray t)) := by
  refine run_convert_bytes_arg (P := Tryz.prog) _ 85 5 Tryz.underlying85 Tryz.underlying5 _ 0 _ _ xs rfl ?_ 9 Tryz.underlying9
  intro i hi
  have hh := run.heap_new w (.cells (xs.map (Value.int .u8)).toArray t)
  simp only [World.cell?, Nat.zero_add]; rw [hh]
  simp [List.getD_eq_getElem?_getD, hi]
theorem nums_enc {xs : List Int} {l : List Nat} (h : xs.map Int.toNat = l) : strOfNums xs = str l := by
  subst h
  simp only [strOfNums, str, List.map_map]
  rfl
theorem enc_a {n : Int} (h0 : 0 ≤ n) (h : n < 0x80) : [n].map Int.toNat = enc n.toNat := by unfold enc; rw [if_pos (by omega)]; rfl
theorem enc_b {n : Int} (h0 : 0x80 ≤ n) (h : n < 0x800) : [192 + n / 64, 128 + n % 64].map Int.toNat = enc n.toNat := by unfold enc; rw [if_neg (by omega), if_pos (by omega)]; simp; omega
theorem enc_c {n : Int} (h0 : 0x800 ≤ n) (h : n < 0x10000) : [224 + n / 4096, 128 + n / 64 % 64, 128 + n % 64].map Int.toNat = enc n.toNat := by unfold enc; rw [if_neg (by omega), if_neg (by omega), if_pos (by omega)]; simp; omega
theorem enc_d {n : Int} (h0 : 0x10000 ≤ n) : [240 + n / 262144, 128 + n / 4096 % 64, 128 + n / 64 % 64, 128 + n % 64].map Int.toNat = enc n.toNat := by unfold enc; rw [if_neg (by omega), if_neg (by omega), if_neg (by omega)]; simp; omega
theorem put_bad {r : Int} (h : isChar r = false) : put r = enc 0xfffd := by unfold put fix; rw [h]; rfl
theorem put_good {r : Int} (h : isChar r = true) : put r = enc r.toNat := by unfold put; rw [fix_of_char h]

set_option maxRecDepth 100000 in
set_option maxHeartbeats 1000000 in
theorem bytes_1 (n : Int) (w : World) (h1 : n < 0x80) (hch : isChar n = true) : Calls Tryz.prog 84 #[.int .i32 n] w fun e w' => e = .returned (.string (str (put n))) ∧ Below w.heap.size w w' := by
  have hb := char_bounds hch
  obtain ⟨s, hs⟩ : ∃ s, s = str (put n) := ⟨_, rfl⟩
  have hconv := conv_lit [n] w 5
  have he : strOfNums [n] = s := by rw [hs, put_good hch]; exact nums_enc (enc_a (by omega) h1)
  rw [he] at hconv
  simp only [List.map_cons, List.map_nil, List.length_cons, List.length_nil, Nat.zero_add] at hconv
  rw [← hs]
  clear he hs
  have hcall := run.hid (character_any n w)
  rw [hch] at hcall
  clear hch
  obtain ⟨hb0, hb1, _⟩ := hb
  go_enter Tryz.func84, Tryz.ntmps84
  go_wp2_with fail
  refine (hcall.out).mono ?_
  rintro e w1 ⟨rfl, rfl⟩
  go_wp2
  go_ret
  exact ⟨rfl, run.below_one _ _⟩

set_option maxRecDepth 100000 in
set_option maxHeartbeats 1000000 in
theorem bytes_2 (n : Int) (w : World) (h1 : 0x80 ≤ n) (h2 : n < 0x800) (hch : isChar n = true) : Calls Tryz.prog 84 #[.int .i32 n] w fun e w' => e = .returned (.string (str (put n))) ∧ Below w.heap.size w w' := by
  have hb := char_bounds hch
  obtain ⟨s, hs⟩ : ∃ s, s = str (put n) := ⟨_, rfl⟩
  have hconv := conv_lit [192 + n / 64, 128 + n % 64] w 5
  have he : strOfNums [192 + n / 64, 128 + n % 64] = s := by rw [hs, put_good hch]; exact nums_enc (enc_b h1 h2)
  rw [he] at hconv
  simp only [List.map_cons, List.map_nil, List.length_cons, List.length_nil, Nat.zero_add, Nat.reduceAdd] at hconv
  rw [← hs]
  clear he hs
  have hcall := run.hid (character_any n w)
  rw [hch] at hcall
  clear hch
  obtain ⟨hb0, hb1, _⟩ := hb
  go_enter Tryz.func84, Tryz.ntmps84
  go_wp2_with fail
  refine (hcall.out).mono ?_
  rintro e w1 ⟨rfl, rfl⟩
  go_wp2
  go_ret
  exact ⟨rfl, run.below_one _ _⟩

set_option maxRecDepth 100000 in
set_option maxHeartbeats 1000000 in
theorem bytes_3 (n : Int) (w : World) (h1 : 0x800 ≤ n) (h2 : n < 0x10000) (hch : isChar n = true) : Calls Tryz.prog 84 #[.int .i32 n] w fun e w' => e = .returned (.string (str (put n))) ∧ Below w.heap.size w w' := by
  have hb := char_bounds hch
  obtain ⟨s, hs⟩ : ∃ s, s = str (put n) := ⟨_, rfl⟩
  have hconv := conv_lit [224 + n / 4096, 128 + n / 64 % 64, 128 + n % 64] w 5
  have he : strOfNums [224 + n / 4096, 128 + n / 64 % 64, 128 + n % 64] = s := by rw [hs, put_good hch]; exact nums_enc (enc_c h1 h2)
  rw [he] at hconv
  simp only [List.map_cons, List.map_nil, List.length_cons, List.length_nil, Nat.zero_add, Nat.reduceAdd] at hconv
  rw [← hs]
  clear he hs
  have hcall := run.hid (character_any n w)
  rw [hch] at hcall
  clear hch
  obtain ⟨hb0, hb1, _⟩ := hb
  go_enter Tryz.func84, Tryz.ntmps84
  go_wp2_with fail
  refine (hcall.out).mono ?_
  rintro e w1 ⟨rfl, rfl⟩
  go_wp2
  go_ret
  exact ⟨rfl, run.below_one _ _⟩

set_option maxRecDepth 100000 in
set_option maxHeartbeats 1000000 in
theorem bytes_4 (n : Int) (w : World) (h1 : 0x10000 ≤ n) (hch : isChar n = true) : Calls Tryz.prog 84 #[.int .i32 n] w fun e w' => e = .returned (.string (str (put n))) ∧ Below w.heap.size w w' := by
  have hb := char_bounds hch
  obtain ⟨s, hs⟩ : ∃ s, s = str (put n) := ⟨_, rfl⟩
  have hconv := conv_lit [240 + n / 262144, 128 + n / 4096 % 64, 128 + n / 64 % 64, 128 + n % 64] w 5
  have he : strOfNums [240 + n / 262144, 128 + n / 4096 % 64, 128 + n / 64 % 64, 128 + n % 64] = s := by rw [hs, put_good hch]; exact nums_enc (enc_d h1)
  rw [he] at hconv
  simp only [List.map_cons, List.map_nil, List.length_cons, List.length_nil, Nat.zero_add, Nat.reduceAdd] at hconv
  rw [← hs]
  clear he hs
  have hcall := run.hid (character_any n w)
  rw [hch] at hcall
  clear hch
  obtain ⟨hb0, hb1, _⟩ := hb
  go_enter Tryz.func84, Tryz.ntmps84
  go_wp2_with fail
  refine (hcall.out).mono ?_
  rintro e w1 ⟨rfl, rfl⟩
  go_wp2
  go_ret
  exact ⟨rfl, run.below_one _ _⟩

theorem bad_nums : strOfNums [239, 191, 189] = str (enc 0xfffd) := by decide
set_option maxRecDepth 100000 in
set_option maxHeartbeats 1000000 in
theorem bytes_bad (n : Int) (w : World) (hch : isChar n = false) : Calls Tryz.prog 84 #[.int .i32 n] w fun e w' => e = .returned (.string (str (put n))) ∧ Below w.heap.size w w' := by
  obtain ⟨s, hs⟩ : ∃ s, s = str (put n) := ⟨_, rfl⟩
  have hconv := conv_lit [239, 191, 189] w 5
  have he : strOfNums [239, 191, 189] = s := by rw [hs, put_bad hch]; exact bad_nums
  rw [he] at hconv
  simp only [List.map_cons, List.map_nil, List.length_cons, List.length_nil, Nat.zero_add, Nat.reduceAdd] at hconv
  rw [← hs]
  clear he hs
  have hcall := run.hid (character_any n w)
  rw [hch] at hcall
  clear hch
  go_enter Tryz.func84, Tryz.ntmps84
  go_wp2_with fail
  refine (hcall.out).mono ?_
  rintro e w1 ⟨rfl, rfl⟩
  go_wp2
  go_ret
  exact ⟨rfl, run.below_one _ _⟩

theorem bytes_any (n : Int) (w : World) : Calls Tryz.prog 84 #[.int .i32 n] w fun e w' => e = .returned (.string (str (put n))) ∧ Below w.heap.size w w' := by
  cases hch : isChar n with
  | false => exact bytes_bad n w hch
  | true =>
    by_cases h1 : n < 0x80
    · exact bytes_1 n w h1 hch
    by_cases h2 : n < 0x800
    · exact bytes_2 n w (by omega) h2 hch
    by_cases h3 : n < 0x10000
    · exact bytes_3 n w (by omega) h3 hch
    · exact bytes_4 n w (by omega) hch

theorem cells_bs (l : List Nat) (hb : ∀ c ∈ l, c < 256) : Lib.strCells (str l) = bv l := by
  simp only [Lib.strCells, str, bv, List.map_map]
  apply List.map_congr_left
  intro c hc
  have := hb c hc
  have e : (UInt8.ofNat c).toNat = c := by simp [UInt8.toNat_ofNat']; omega
  simp only [Function.comp_def, e]

set_option maxHeartbeats 2000000 in
theorem refText_any (v : Value) (xs : List Int) (w : World) (hv : run.Reads w v (rv xs)) (hl : xs.length ≤ 35184372088832) : Calls Tryz.prog 64 #[v] w fun e w' => e = .returned (.string (str (text xs))) ∧ Below w.heap.size w w' := by
  obtain ⟨i0, hi, hz0, hz1, hz2⟩ := info_parts info_byte
  obtain ⟨a, cap, rfl, hc, _⟩ := hv
  rw [rv_length]
  have HC := run.hid hc
  clear hc
  go_enter Tryz.func64, Tryz.ntmps64
  go_wp2
  go_loopw [3, 4] (fun vb vk wr => ∃ k : Nat, k ≤ xs.length ∧ vk = .int .i64 k ∧ wr.ownsRow w.heap.size 5 1 vb (text (xs.take k)).length (bv (text (xs.take k))) ∧ Below w.heap.size w wr) (fun _ k _ => (xs.length - intOf k).toNat)
  case atStart => exact ⟨0, by omega, rfl, World.ownsRow_nil _ _ _ _, Below.refl _ _⟩
  case round =>
    obtain ⟨k, hk, rfl, hown, hbel⟩ := hrel
    have hsz := hbel.size
    have hbd := text_take_len xs k
    by_cases hkl : k < xs.length
    · obtain ⟨b, off, ha, hlt, hcell⟩ := HC.out (by intro h; have := congrArg List.length h; rw [rv_length] at this; simp at this; simp [this] at hkl)
      subst ha
      have hck := (hbel.cell (p := ⟨b, off + k, none⟩) hlt).trans (hcell k _ (rv_get hkl))
      have HT := run.hid (text_take hkl)
      clear hcell
      generalize xs.getD k 0 = r at *
      generalize text (xs.take k) = tk at *
      have hpl := put_length r
      have HP := run.hid (put_byte r)
      go_wp2_with fail
      refine (bytes_any r wr).mono ?_
      rintro e w1 ⟨rfl, hb1⟩
      have hown1 := run.own_below hown hb1
      have hbel1 := hbel.trans (hb1.mono hsz)
      have hsz1 := hbel1.size
      have hstr := str_size (put r)
      have HC := run.hid (cells_bs (put r) HP.out)
      generalize put r = p at *
      generalize str p = sp at *
      clear hown hbel hb1 hck
      go_wp2_with (at_builtin; refine Lib.wpList_append_own_string _ rfl _ _ 85 9 rfl w.heap.size 5 i0 Tryz.underlying85 Tryz.underlying9 hi hz0 hz1 hz2 _ _ _ rfl hown1 _ rfl (by unfold maxLen; omega) (by omega) hsz1 ?_)
      intro v' w2 hown2 hgrow hnil
      have hbel2 := run.below_append hbel1 hown1 hgrow hsz1
      rw [HC.out, bv_append, ← List.length_append, ← HT.out] at hown2
      clear hown1 hgrow hnil hbel1 hstr
      go_wp2
      go_roundw
      case rel => exact ⟨k + 1, by omega, by go_num, hown2, hbel2⟩
      case measure => simp [intOf]; omega
    · obtain rfl : k = xs.length := by omega
      rw [List.take_of_length_le (Nat.le_refl _)] at hown
      have hconv := conv_own hown
      clear hown hbd
      go_wp2
      go_ret
      exact ⟨rfl, hbel⟩

theorem drop_bs (s : ByteArray) (k : Nat) (h : k ≤ s.size) : (s.extract k s.size).size = s.size - k := by rw [← bs_length, bs_drop, List.length_drop, bs_length]
theorem extract_again (s t : ByteArray) (n : Nat) {l : List Nat} {k : Nat} (h : bs t = l.drop k) : bs (t.extract n t.size) = l.drop (k + n) := by rw [bs_drop, h, List.drop_drop]

theorem run_more2 {l : List Nat} {t : ByteArray} {xs ys : List Int} {r : Int} (h : runes l = xs ++ runes (bs t)) (h2 : runes (bs t) = r :: ys) : xs.length + 1 ≤ (runes l).length := by
  rw [h, h2]; simp
theorem step2 {t : ByteArray} (h : 0 < t.size) : runes (bs t) = ((first (bs t)).1 : Int) :: runes (bs (t.extract (first (bs t)).2.1 t.size)) ∧ 1 ≤ (first (bs t)).2.1 ∧ (first (bs t)).2.1 ≤ t.size := by
  have hne : bs t ≠ [] := by
    intro e
    have h0 : (bs t).length = 0 := by rw [e]; rfl
    rw [bs_length] at h0; omega
  have hc := first_count _ hne
  rw [bs_length] at hc
  exact ⟨by rw [runes_step _ hne, bs_drop], hc.1, hc.2.2⟩

set_option maxHeartbeats 2000000 in
theorem refRunes_any (s : ByteArray) (w : World) (hs : s.size < 4611686018427387904) (hn : (runes (bs s)).length ≤ 35184372088832) : Calls Tryz.prog 61 #[.string s] w (Runes s w) := by
  obtain ⟨i0, hi, hz0, hz1, hz2⟩ := info_parts info_rune
  go_enter Tryz.func61, Tryz.ntmps61
  go_wp2
  go_loopw [0, 3] (fun vs v wr => ∃ t : ByteArray, ∃ xs : List Int, t.size ≤ s.size ∧ xs.length ≤ s.size ∧ vs = .string t ∧ wr.ownsRow w.heap.size 21 1 v xs.length (rv xs) ∧ Below w.heap.size w wr ∧ Hid (runes (bs s) = xs ++ runes (bs t)) ∧ Hid (v = .slice none 0 0 ↔ xs = []) ∧ xs.length + t.size ≤ s.size) (fun vs _ _ => (match vs with | .string t => t.size | _ => 0))
  case atStart => exact ⟨s, [], by omega, by simp, rfl, World.ownsRow_nil _ _ _ _, Below.refl _ _, run.hid rfl, run.hid ⟨fun _ => rfl, fun _ => rfl⟩, by simp⟩
  case round =>
    obtain ⟨t, xs, ht, hxs, rfl, hown, hbel, HX, HV, hsum⟩ := hrel
    have hsz := hbel.size
    by_cases hks : 0 < t.size
    · obtain ⟨h2, h3, h4⟩ := step2 hks
      have hmore := run_more2 HX.out h2
      have HR := run.hid h2
      have hex := drop_bs t (first (bs t)).2.1 h4
      have HD := run.hid (fun w => refDecode_any t w (by omega))
      clear h2
      generalize first (bs t) = q at *
      obtain ⟨r, n, o⟩ := q
      simp only at h3 h4
      have HEX := run.hid hex
      clear hex
      go_wp2_with fail
      refine (HD.out wr).mono ?_
      rintro e w1 ⟨rfl, hb1⟩
      have hown1 := run.own_below hown (hb1.mono (Nat.le_refl _))
      have hbel1 := hbel.trans (hb1.mono hsz)
      have hsz1 := hbel1.size
      clear hown hbel hsz HD hb1
      go_wp2_with (at_builtin; refine wpList_append_own _ rfl _ _ 67 rfl w.heap.size 21 i0 (.int .i32 0) 1 4 Tryz.underlying67 hi hz0 hz1 hz2 rfl (by decide) _ _ _ rfl (hown1.alloc _) ⟨w1.heap.size, 0, none⟩ 1 1 [.int .i32 r] rfl rfl (run.news_one _ _ _) (by intro u hu; simp at hu; subst hu; rfl) (by unfold maxLen; omega) (by omega) (by simp; omega) ?_)
      intro v' w2 hown2 hgrow hnil
      rw [rv_snoc] at hown2
      have hbel2 := run.below_append (hbel1.alloc hsz1 _) (hown1.alloc _) hgrow (by simp; omega)
      have hx2 := run.hid (HX.out.trans (by rw [HR.out]; simp : _ = (xs ++ [(r : Int)]) ++ runes (bs (t.extract n t.size))))
      have hn2 := run.hid (show v' = .slice none 0 0 ↔ xs ++ [(r : Int)] = [] from ⟨fun h => (hnil h).elim, fun h => by simp at h⟩)
      have ho3 : w2.ownsRow w.heap.size 21 1 v' (xs ++ [(r : Int)]).length (rv (xs ++ [(r : Int)])) := by rw [List.length_append]; exact hown2
      have hl3 : (xs ++ [(r : Int)]).length = xs.length + 1 := by simp
      clear hown1 hown2 hgrow hnil hbel1
      have HL3 := run.hid hl3
      clear hl3
      go_wp2
      go_roundw
      case rel => exact ⟨t.extract n t.size, _, by rw [HEX.out]; omega, by rw [HL3.out]; omega, rfl, ho3, hbel2, hx2, hn2, by rw [HEX.out, HL3.out]; omega⟩
      case measure => show (t.extract n t.size).size < t.size; rw [HEX.out]; omega
    · have ht0 : bs t = [] := List.length_eq_zero_iff.1 (by rw [bs_length]; omega)
      have hfin := run.hid (show runes (bs s) = xs by rw [HX.out, ht0, runes_nil, List.append_nil])
      clear ht0
      go_wp2
      go_ret
      exact ⟨_, rfl, by rw [hfin.out]; exact hown, hbel, by rw [hfin.out]; exact HV.out⟩
theorem refRunes_use (s : ByteArray) (w : World) (hs : s.size < 4611686018427387904) (hn : (runes (bs s)).length ≤ 35184372088832) : Calls Tryz.prog 61 #[.string s] w fun e w' =>
    ∃ v, e = .returned v ∧ w'.ownsRow w.heap.size 21 1 v (runes (bs s)).length (rv (runes (bs s))) ∧ run.Reads w' v (rv (runes (bs s))) ∧ Below w.heap.size w w' ∧ (v = .slice none 0 0 ↔ runes (bs s) = []) :=
  (refRunes_any s w hs hn).mono fun _ _ ⟨v, he, ho, hb, hn⟩ => ⟨v, he, ho, run.reads_own ho, hb, hn⟩

theorem reads_at {w : World} {a : Option Addr} {xs : List Int} {k : Nat} (hc : rv xs ≠ [] → ∃ b off, a = some ⟨b, off, none⟩ ∧ b < w.heap.size ∧ ∀ i u, (rv xs)[i]? = some u → w.cell? ⟨b, off + i, none⟩ = some u) (hk : k < xs.length) :
    ∃ b off, a = some ⟨b, off, none⟩ ∧ b < w.heap.size ∧ w.cell? ⟨b, off + k, none⟩ = some (.int .i32 (xs.getD k 0)) := by
  obtain ⟨b, off, ha, hlt, hcell⟩ := hc (by intro h; have := congrArg List.length h; rw [rv_length] at this; simp at this; simp [this] at hk)
  exact ⟨b, off, ha, hlt, hcell k _ (rv_get hk)⟩
theorem eq_start (xs ys : List Int) : ∀ j, j < 0 → xs.getD j 0 = ys.getD j 0 := by intro j hj; omega
theorem eq_next {xs ys : List Int} {k : Nat} (h : ∀ j, j < k → xs.getD j 0 = ys.getD j 0) (hk : xs.getD k 0 = ys.getD k 0) : ∀ j, j < k + 1 → xs.getD j 0 = ys.getD j 0 := by
  intro j hj
  by_cases e : j = k
  · subst e; exact hk
  · exact h j (by omega)
theorem eq_end {xs ys : List Int} (hl : xs.length = ys.length) (h : ∀ j, j < xs.length → xs.getD j 0 = ys.getD j 0) : xs = ys := by
  apply List.ext_getElem hl
  intro i h1 h2
  have := h i h1
  simpa [List.getD_eq_getElem?_getD, h1, h2] using this
theorem ne_at {xs ys : List Int} {k : Nat} (h : xs.getD k 0 ≠ ys.getD k 0) : xs ≠ ys := by intro e; subst e; exact h rfl
theorem ne_len {xs ys : List Int} (h : xs.length ≠ ys.length) : xs ≠ ys := by intro e; subst e; exact h rfl
theorem bool_eq {a b : Bool} (h : a = b) : Value.bool a = Value.bool b := by rw [h]

end Go.Proofs.YtbhhfagifdjmmaaGreat.utf
