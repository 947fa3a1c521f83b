/-
  The walks of the layer utf: the document's decoder: whether bytes are a beginning; fed, asked, ended.
-/
import Derived.Test.YtgjlhjnkcgdopaaUtfDecMore
import Derived.Test.YtgjlhjnkcgdopaaUtfRefLists
namespace Go.Proofs.Ytgjlhjnkcgdopaa.utf
open Go.RowKit Go.Proofs
set_option linter.unusedVariables false

theorem cont_open_iff : ∀ (k r i lo hi : Nat) (t : List Nat), (cont k r i lo hi t).2.2 = true ↔ fit k lo hi t = t.length ∧ t.length < k
  | 0, r, i, _, _, t => by simp [cont, fit]
  | k + 1, r, i, _, _, [] => by simp [cont, fit]
  | k + 1, r, i, lo, hi, c :: t => by
    have ih := cont_open_iff k (r * 64 + c % 64) (i + 1) 0x80 0xBF t
    simp only [cont, fit, List.length_cons]
    split
    · simp
    · rw [ih]; omega
/-- a row says that these bytes begin a character and end within it -/
def opens (l : List Nat) (x : Row) : Prop := fits l x ≠ 0 ∧ fits l x = l.length ∧ fits l x < x.2.2.1
theorem opens_first {i b : Nat} {t : List Nat} (hi : i < 9) (h : opens (b :: t) (row i)) : (first (b :: t)).2.2 = true := by
  obtain ⟨h0, h1, h2⟩ := h
  obtain ⟨p1, p2, p3⟩ := fits_pos h0
  obtain ⟨e, _, hn1, hn4, _, _⟩ := row_lead i b hi p1 p2
  rw [p3] at h1 h2
  simp only [List.length_cons] at h1
  simp only [first, e]
  rw [if_neg (by omega), if_neg (by omega)]
  exact (cont_open_iff _ _ _ _ _ _).2 ⟨by omega, by omega⟩
theorem not_opens_first {b : Nat} {t : List Nat} (h : ∀ i, i < 9 → ¬ opens (b :: t) (row i)) : (first (b :: t)).2.2 = false := by
  rcases Classical.em (∃ i, i < 9 ∧ (row i).1 ≤ b ∧ b ≤ (row i).2.1) with ⟨i, hi, p1, p2⟩ | hno
  · obtain ⟨e, _, hn1, hn4, _, _⟩ := row_lead i b hi p1 p2
    have hn := h i hi
    have hf : fits (b :: t) (row i) = 1 + fit ((row i).2.2.1 - 1) (row i).2.2.2.1 (row i).2.2.2.2.1 t := by
      simp only [fits]; rw [if_neg (by omega)]
    unfold opens at hn
    rw [hf] at hn
    simp only [List.length_cons] at hn
    simp only [first, e]
    rw [if_neg (by omega)]
    by_cases h1 : (row i).2.2.1 = 1
    · rw [if_pos h1]
    · rw [if_neg h1]
      rw [← Bool.not_eq_true, cont_open_iff]
      omega
  · rw [first_none (fun i hi hp => hno ⟨i, hi, hp⟩)]
theorem opens_start (l : List Nat) : ∀ i, i < 0 → ¬ opens l (row i) := by intro i hi; omega
theorem opens_next {l : List Nat} {k : Nat} (h : ∀ i, i < k → ¬ opens l (row i)) (hk : ¬ opens l (row k)) : ∀ i, i < k + 1 → ¬ opens l (row i) := by
  intro i hi
  by_cases e : i = k
  · subst e; exact hk
  · exact h i (by omega)

set_option maxHeartbeats 2000000 in
theorem begins_any (s : ByteArray) (w : World) (hs : s.size < 4611686018427387904) (hpos : 0 < s.size) :
    Calls Try.prog 41 #[.string s] w fun e w' => e = .returned (.bool (first (bs s)).2.2) ∧ Below w.heap.size w w' := by
  obtain ⟨b, t, hbt, hst⟩ := bs_cons hpos
  have HBT := run.hid hbt
  have hlen : (b :: t).length = s.size := by rw [← hbt, bs_length]
  rw [hbt]
  clear hbt hst
  go_enter Try.func41, Try.ntmps41
  go_wp2_with fail
  refine (rows_any w).mono ?_
  rintro e w1 ⟨rfl, hrows, hlt, hb1⟩
  have HT := run.hid hrows
  clear hrows
  go_wp2_with fail
  obtain ⟨B, hB⟩ : ∃ B, B = w.heap.size := ⟨_, rfl⟩
  rw [← hB] at HT hlt ⊢
  have HW := run.hid hB
  clear hB
  go_loopw [4] (fun vi wr => ∃ i : Nat, i ≤ 9 ∧ vi = .int .i64 i ∧ Below w1.heap.size w1 wr ∧ Hid (∀ j, j < i → ¬ opens (b :: t) (row j))) (fun i _ => (9 - intOf i).toNat)
  case atStart => exact ⟨0, by omega, rfl, Below.refl _ _, run.hid (opens_start _)⟩
  case round =>
    obtain ⟨i, hi9, rfl, hbel, HN⟩ := hrel
    have hb2 := hb1.trans (hbel.mono hb1.size)
    by_cases hi : i < 9
    · have hrow := (HT.out.below hbel hlt) i hi
      have hfit := run.hid (row_fits i hi)
      have HO := run.hid (fun h => @opens_first i b t hi h)
      have HZ := run.hid (fun h => opens_next HN.out (k := i) h)
      have HOP := run.hid (show opens (b :: t) (row i) ↔ (fits (b :: t) (row i) ≠ 0 ∧ fits (b :: t) (row i) = s.size ∧ fits (b :: t) (row i) < (row i).2.2.1) from by rw [← hlen]; exact Iff.rfl)
      clear HN
      obtain ⟨c0, c1, c2, c3, c4, c5⟩ := hrow
      generalize hop : opens (b :: t) (row i) = op at *
      clear hop
      generalize row i = x at *
      obtain ⟨lo, hi', n, lo2, hi2, off⟩ := x
      have hf1 := hfit.out.2.2.2.1
      have hf2 := hfit.out.2.2.2.2.2.2
      simp only at c0 c1 c2 c3 c4 c5 hf1 hf2
      have FA := run.hid (fun w => fits_any s lo hi' n lo2 hi2 off w hs hfit.out)
      rw [HBT.out] at FA
      go_wp2_with fail
      refine (FA.out wr).mono ?_
      generalize fits (b :: t) (lo, hi', n, lo2, hi2, off) = k at *
      rintro e w2 ⟨rfl, hb3⟩
      have hbel2 := hbel.trans (hb3.mono hbel.size)
      have hb4 := hb2.trans (hb3.mono hb2.size)
      have hBw : B < w1.heap.size := hlt
      have d2 := (hbel2.cell (p := ⟨B, i * 6 + 2, none⟩) hBw).trans ((hbel.cell (p := ⟨B, i * 6 + 2, none⟩) hBw).symm.trans c2)
      clear c0 c1 c2 c3 c4 c5 hb3
      have hop := HOP.out
      try dsimp only at hop
      by_cases hk0 : k = 0
      · have hz := run.hid (HZ.out (fun h => (hop.1 h).1 hk0))
        clear hop HOP HO HZ
        subst hk0
        go_wp2
        go_roundw
        case rel => exact ⟨i + 1, by omega, by go_num, hbel2, hz⟩
        case measure => simp [intOf]; omega
      have g1' : (0 : Int) < (k : Int) := by omega
      by_cases hk1 : k = s.size
      · have g2 : ((k : Int) == (s.size : Int)) = true := by rw [beq_iff_eq]; omega
        by_cases hk2 : k < n
        · have hf := run.hid (HO.out (hop.2 ⟨hk0, hk1, hk2⟩))
          have g3 : decide ((k : Int) < (n : Int)) = true := decide_eq_true (by omega)
          clear hop HOP HO HZ
          go_wp2
          go_ret
          exact ⟨by rw [hf.out]; rfl, hb4⟩
        · have hz := run.hid (HZ.out (fun h => hk2 (hop.1 h).2.2))
          have g3 : decide ((k : Int) < (n : Int)) = false := decide_eq_false (by omega)
          clear hop HOP HO HZ
          go_wp2
          go_roundw
          case rel => exact ⟨i + 1, by omega, by go_num, hbel2, hz⟩
          case measure => simp [intOf]; omega
      · have hz := run.hid (HZ.out (fun h => hk1 (hop.1 h).2.1))
        have g2 : ((k : Int) == (s.size : Int)) = false := by rw [beq_eq_false_iff_ne]; omega
        clear hop HOP HO HZ
        go_wp2
        go_roundw
        case rel => exact ⟨i + 1, by omega, by go_num, hbel2, hz⟩
        case measure => simp [intOf]; omega
    · obtain rfl : i = 9 := by omega
      have hn := run.hid (not_opens_first (t := t) HN.out)
      go_wp2
      go_ret
      exact ⟨by rw [hn.out]; rfl, hb2⟩

/-- the document's decoder at block d holds these bytes -/
def HasRef (w : World) (d : Nat) (held : List Nat) : Prop :=
  ∃ s : ByteArray, w.heap[d]? = some (.cells #[.string s] 42 (0, 0)) ∧ bs s = held ∧ held.length ≤ 3
theorem HasRef.kept {w w' : World} {d : Nat} {held : List Nat} (h : HasRef w d held) (hb : w'.heap[d]? = w.heap[d]?) : HasRef w' d held := by
  obtain ⟨s, hh, r⟩ := h
  exact ⟨s, hb.trans hh, r⟩

theorem bs_join (a b : ByteArray) : bs (a ++ b) = bs a ++ bs b := by simp [bs, ByteArray.data_append]
/-- bytes that are read, told as a text -/
theorem conv_reads {w : World} {v : Value} {l : List Nat} (h : run.Reads w v (bv l)) : (convert 47 9 v).run Try.prog w = .ok (.string (str l)) w := by
  obtain ⟨a, cap, rfl, hr, h0⟩ := h
  rw [bv_length]
  by_cases hl : l = []
  · subst hl
    have hz : (loadCells (a.getD ⟨0, 0, none⟩) 0).run Try.prog w = .ok #[] w := by
      have := run_loadCells_list (P := Try.prog) w (a.getD ⟨0, 0, none⟩) [] (fun j v hj => by simp at hj)
      simpa using this
    show (convert _ _ (.slice a 0 cap)).run _ _ = _
    cases a with
    | none => exact run_convert_bytes_nil (P := Try.prog) w 47 5 Try.underlying47 Try.underlying5 _ _ 9 Try.underlying9
    | some x =>
      have hz : (loadCells x 0).run Try.prog w = .ok (([] : List Int).map (Value.int .u8)).toArray w := hz
      rw [run_convert_bytes_string w 47 9 5 _ 0 cap Try.underlying47 Try.underlying5 Try.underlying9, run_bytesToString w _ 0 cap [] hz]
      rfl
  · obtain ⟨b, off, rfl, hlt, hc⟩ := hr (by simpa [bv] using hl)
    rw [← str_nums]
    refine run_convert_bytes_arg (P := Try.prog) w 47 5 Try.underlying47 Try.underlying5 b off _ _ (l.map fun c : Nat => (c : Int)) (by simp) ?_ 9 Try.underlying9
    intro i hi
    have hi' : i < l.length := hi
    refine hc i _ ?_
    simp [bv, List.getD_eq_getElem?_getD, hi']

/-- WHAT THE DOCUMENT'S FEED DOES -/
def RFed (d : Nat) (held l : List Nat) (w : World) (e : Ending) (w' : World) : Prop :=
  ∃ v, e = .returned v ∧ w'.ownsRow w.heap.size 21 1 v (feed (held ++ l)).1.length (rv (feed (held ++ l)).1) ∧ HasRef w' d (feed (held ++ l)).2 ∧ w.grownBy w' (some d)

theorem feed_open_end {t : ByteArray} {F xs : List Int} {H : List Nat} {f : List Int × List Nat} (h : f = (xs ++ (feed (bs t)).1, (feed (bs t)).2)) (ho : t.size = 0 ∨ (first (bs t)).2.2 = true) : f = (xs, bs t) ∧ (bs t).length ≤ 3 := by
  rcases ho with h0 | ho
  · have e : bs t = [] := List.length_eq_zero_iff.1 (by rw [bs_length]; exact h0)
    rw [e] at h ⊢
    rw [h, feed_nil]
    exact ⟨by simp, by simp⟩
  · rw [h, feed_open _ ho]
    exact ⟨by simp, (first_open _ ho).2.2.2⟩
theorem feed_more {t : ByteArray} {xs : List Int} {f : List Int × List Nat} (h : f = (xs ++ (feed (bs t)).1, (feed (bs t)).2)) (hp : 0 < t.size) (ho : (first (bs t)).2.2 = false) :
    f = ((xs ++ [((first (bs t)).1 : Int)]) ++ (feed (bs (t.extract (first (bs t)).2.1 t.size))).1, (feed (bs (t.extract (first (bs t)).2.1 t.size))).2) := by
  rw [h, feed_step (bs t) (by intro e; have := bs_nil e; omega) ho, bs_drop]
  simp

set_option maxRecDepth 100000 in
set_option maxHeartbeats 4000000 in
theorem refFeed_any (d : Nat) (held : List Nat) (bv0 : Value) (l : List Nat) (w : World) (hd : HasRef w d held) (hb : run.Reads w bv0 (bv l)) (hl : l.length ≤ 35184372088000) (hlb : ∀ c ∈ l, c < 256) :
    Calls Try.prog 33 #[.pointer (some ⟨d, 0, none⟩), bv0] w (RFed d held l w) := by
  obtain ⟨i0, hi, hz0, hz1, hz2⟩ := info_parts info_rune
  obtain ⟨s0, hh, hs0, h3⟩ := hd
  have hconv : ∀ k, (convert 47 9 bv0).run Try.prog (w.drewN k) = .ok (.string (str l)) (w.drewN k) := fun k => conv_reads (hb.below (below_drewN (Below.refl _ _) k))
  have hdlt := lt_of_block hh
  have hc0 := cell_of_one hh
  have hlen0 : s0.size ≤ 3 := by rw [← bs_length, hs0]; exact h3
  have hcat : ¬ 9223372036854775807 < s0.size + (str l).size := by rw [str_size]; omega
  have HT : Hid (bs (s0 ++ str l) = held ++ l) := by show _ = _; rw [bs_join, hs0, bs_str hlb]
  have htl : (s0 ++ str l).size ≤ 35184372088003 := by rw [ByteArray.size_append, str_size]; omega
  have HH := run.hid hh
  clear hh hb hs0
  unfold RFed
  go_enter Try.func33, Try.ntmps33
  go_upto_region 3 with fail
  go_quiet (fail)
  go_wp2
  generalize s0 ++ str l = S at *
  clear hconv hcat hc0
  go_loopw [5, 6] (fun vs v wr => ∃ t : ByteArray, ∃ xs : List Int, t.size ≤ S.size ∧ vs = .string t ∧ wr.ownsRow w.heap.size 21 1 v xs.length (rv xs) ∧ Below w.heap.size w wr ∧ Hid (feed (bs S) = (xs ++ (feed (bs t)).1, (feed (bs t)).2)) ∧ xs.length + t.size ≤ S.size) (fun vs _ _ => (match vs with | .string t => t.size | _ => 0))
  case atStart => exact ⟨S, [], by omega, rfl, World.ownsRow_nil _ _ _ _, below_drewN (Below.refl _ _) _, run.hid (by simp), by simp⟩
  case round =>
    obtain ⟨t, xs, ht, rfl, hown, hbel, HX, hsum⟩ := hrel
    have hsz := hbel.size
    by_cases hks : 0 < t.size
    · have HB := run.hid (begins_any t wr (by omega) hks)
      have HD := run.hid (fun w => refDecode_any t w (by omega))
      have hfc := first_count (bs t) (by intro e; have := bs_nil e; omega)
      have HM := run.hid (fun ho => feed_more HX.out hks ho)
      have HE := run.hid (fun ho => feed_open_end (F := []) (H := []) HX.out (.inr ho))
      rw [bs_length] at hfc
      have HEX := run.hid (drop_bs t (first (bs t)).2.1 hfc.2.2)
      generalize first (bs t) = q at *
      obtain ⟨r, n, o⟩ := q
      simp only at hfc
      obtain ⟨hn1, hn4, hnl⟩ := hfc
      go_wp2_with fail
      refine (HB.out).mono ?_
      rintro e w1 ⟨rfl, hb1⟩
      have hown1 := run.own_below hown hb1
      have hbel1 := hbel.trans (hb1.mono hsz)
      have hsz1 := hbel1.size
      clear hown hbel hsz HB hb1
      cases o with
      | true =>
        obtain ⟨hf, h3t⟩ := HE.out rfl
        have HF := run.hid hf
        clear hf HE HM HX HEX HD
        have hh1 := run.hid ((hbel1.block d hdlt).trans HH.out)
        have hcd := free_of_one hh1.out
        have hcc := cell_of_one hh1.out
        go_wp2
        go_ret
        rw [← HT.out, HF.out]
        refine ⟨_, rfl, ?_, ?_, ?_⟩
        · exact ownsRow_setCell_other hown1 (by intro e; have := (hown1.lt _ e).1; simp at this; omega) _
        · exact ⟨t, one_setCell hh1.out, rfl, h3t⟩
        · exact ⟨hbel1.os, hbel1.tape, hbel1.output, by simp [World.setCell]; exact hsz1, fun k hk hne => (Below.heap_setCell _ _ _ _ (by intro e; exact hne (by rw [e]))).trans (hbel1.block k hk)⟩
      | false =>
        have hm := run.hid (HM.out rfl)
        clear HE HM HX
        go_wp2_with fail
        refine (HD.out w1).mono ?_
        rintro e w2 ⟨rfl, hb2⟩
        have hown2 := run.own_below hown1 hb2
        have hbel2 := hbel1.trans (hb2.mono hsz1)
        have hsz2 := hbel2.size
        clear hown1 hbel1 HD hb2
        go_wp2_with (at_builtin; refine wpList_append_own _ rfl _ _ 22 rfl w.heap.size 21 i0 (.int .i32 0) 1 4 Try.underlying22 hi hz0 hz1 hz2 rfl (by decide) _ _ _ rfl (hown2.alloc _) ⟨w2.heap.size, 0, none⟩ 1 1 [.int .i32 r] rfl rfl (run.news_one _ _ _) (by intro u hu; simp at hu; subst hu; rfl) (by unfold maxLen; omega) (by omega) (by simp; omega) ?_)
        intro v' w3 hown3 hgrow hnil
        rw [rv_snoc] at hown3
        have hbel3 := run.below_append (hbel2.alloc hsz2 _) (hown2.alloc _) hgrow (by simp; omega)
        have ho3 : w3.ownsRow w.heap.size 21 1 v' (xs ++ [(r : Int)]).length (rv (xs ++ [(r : Int)])) := by rw [List.length_append]; exact hown3
        have HL3 := run.hid (show (xs ++ [(r : Int)]).length = xs.length + 1 by simp)
        clear hown2 hown3 hgrow hnil hbel2
        go_wp2
        go_roundw
        case rel => exact ⟨t.extract n t.size, _, by rw [HEX.out]; omega, rfl, ho3, hbel3, hm, by rw [HEX.out, HL3.out]; omega⟩
        case measure => show (t.extract n t.size).size < t.size; rw [HEX.out]; omega
    · obtain ⟨hf, h3t⟩ := feed_open_end (F := []) (H := []) HX.out (.inl (by omega))
      have HF := run.hid hf
      have hh1 := run.hid ((hbel.block d hdlt).trans HH.out)
      have hcd := free_of_one hh1.out
      have hcc := cell_of_one hh1.out
      clear hf HX
      go_wp2
      go_ret
      rw [← HT.out, HF.out]
      refine ⟨_, rfl, ?_, ?_, ?_⟩
      · exact ownsRow_setCell_other hown (by intro e; have := (hown.lt _ e).1; simp at this; omega) _
      · exact ⟨t, one_setCell hh1.out, rfl, h3t⟩
      · exact ⟨hbel.os, hbel.tape, hbel.output, by simp [World.setCell]; exact hsz, fun k hk hne => (Below.heap_setCell _ _ _ _ (by intro e; exact hne (by rw [e]))).trans (hbel.block k hk)⟩

set_option maxHeartbeats 400000 in
theorem refHeld_any (d : Nat) (held : List Nat) (w : World) (hd : HasRef w d held) : Calls Try.prog 24 #[.pointer (some ⟨d, 0, none⟩)] w fun e w' => e = .returned (.int .i64 held.length) ∧ w' = w := by
  obtain ⟨s0, hh, rfl, h3⟩ := hd
  have hc0 := cell_of_one hh
  rw [bs_length]
  clear hh h3
  go_enter Try.func24, Try.ntmps24
  go_wp2
  go_ret
  exact ⟨rfl, rfl⟩

def REnded (d : Nat) (held : List Nat) (w : World) (e : Ending) (w' : World) : Prop :=
  ∃ v, e = .returned v ∧ w'.ownsRow w.heap.size 21 1 v (endOf held).length (rv (endOf held)) ∧ HasRef w' d [] ∧ w.grownBy w' (some d)

theorem empty_bytes : (#[] : Array UInt8).toList = [] := rfl
set_option maxHeartbeats 400000 in
theorem refEnd_any (d : Nat) (held : List Nat) (w : World) (hd : HasRef w d held) : Calls Try.prog 34 #[.pointer (some ⟨d, 0, none⟩)] w (REnded d held w) := by
  obtain ⟨s0, hh, hs0, h3⟩ := hd
  have hc0 := cell_of_one hh
  have hf0 := free_of_one hh
  have hlt := lt_of_block hh
  have HH := run.hid hh
  clear hh
  by_cases h0 : held = []
  · subst h0
    have hz := bs_nil hs0
    have he : (s0.toList == ([] : List UInt8)) = true := by
      rw [beq_iff_eq, ByteArray.toList_eq]
      have : s0.data.toList.length = 0 := hz
      exact List.length_eq_zero_iff.1 this
    go_enter Try.func34, Try.ntmps34
    go_wp2
    try go_quiet (fail)
    try go_wp2
    go_ret
    exact ⟨_, rfl, World.ownsRow_nil _ _ _ _, ⟨s0, HH.out, hs0, h3⟩, World.grownBy.refl w _⟩
  · have he : (s0.toList == ([] : List UInt8)) = false := by
      rw [beq_eq_false_iff_ne, ByteArray.toList_eq]
      intro e
      apply h0
      rw [← hs0]
      unfold bs
      rw [e]
      rfl
    have hz := run.hid (one_setCell (u := .string ⟨#[]⟩) HH.out)
    have hg := run.hid (grown_cell w d 0 (.string ⟨#[]⟩))
    have hx := run.hid (show endOf held = [0xfffd] by unfold endOf; rw [if_neg h0])
    clear h0 hs0 h3
    go_enter Try.func34, Try.ntmps34
    go_wp2
    try go_quiet (fail)
    try go_wp2
    go_ret
    refine ⟨_, rfl, ?_, ?_, ?_⟩
    · rw [hx.out]
      have hsz : (w.setCell ⟨d, 0, none⟩ (.string ⟨#[]⟩)).heap.size = w.heap.size := by simp [World.setCell]
      have h := World.ownsRow_lit (base := w.heap.size) (e := 21) (size := 1) (w.setCell ⟨d, 0, none⟩ (.string ⟨#[]⟩)) #[.int .i32 65533] 1 (by omega) (by unfold maxLen; omega) rfl
      rw [hsz] at h
      exact h
    · refine ⟨⟨#[]⟩, (run.heap_old _ _ (by simp [World.setCell]; exact hlt)).trans hz.out, rfl, by simp⟩
    · exact run.grown_trans hg.out (World.grownBy_alloc _ _ none) (.inr (by intro k hk; cases hk))
end Go.Proofs.Ytgjlhjnkcgdopaa.utf
