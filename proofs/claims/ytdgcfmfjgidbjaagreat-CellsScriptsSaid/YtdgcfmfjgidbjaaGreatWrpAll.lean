/-
  The clusters of a text, as they are seen: Split for use.
  Plain facts of the layer wrap: what Flow tells.
  The walks of the layer wrap: slices.DeleteFunc on characters.
  The walks of the layer wrap: slices.DeleteFunc on clusters.
  The walk of the layer wrap: Flow.
-/
import Derived.Test.YtdgcfmfjgidbjaaGreatCluEvery
import Derived.Test.YtdgcfmfjgidbjaaGreatWidAll
import Derived.Test.YtdgcfmfjgidbjaaGreatWrpRow
import Derived.Test.YtdgcfmfjgidbjaaGreatUtfAll
section
namespace Go.Proofs.YtdgcfmfjgidbjaaGreat.clu
open Go.RowKit Go.Proofs
open Go.Proofs.YtdgcfmfjgidbjaaGreat.wid Go.Proofs.YtdgcfmfjgidbjaaGreat.utf
set_option linter.unusedVariables false

/-- what of clusters is seen: text and width -/
def seen (l : List (List Int)) : List (ByteArray × Nat) := l.map fun p => (str (text p), wide p)
theorem seen_length (l : List (List Int)) : (seen l).length = l.length := by simp [seen]
def told (s : ByteArray) : List (ByteArray × Nat) := seen (cl (runes (bs s)))
def cells2 (l : List (ByteArray × Nat)) : List Value := l.flatMap fun q => [.string q.1, .int .i64 (q.2 : Nat)]
theorem cc_seen (l : List (List Int)) : cc l = cells2 (seen l) := by simp [cc, cells2, seen, List.flatMap_map]
theorem cells2_get : ∀ (l : List (ByteArray × Nat)) (i : Nat) (h : i < l.length), (cells2 l)[i * 2]? = some (.string (l.getD i (ByteArray.empty, 0)).1) ∧ (cells2 l)[i * 2 + 1]? = some (.int .i64 ((l.getD i (ByteArray.empty, 0)).2 : Nat))
  | q :: t, 0, _ => ⟨rfl, rfl⟩
  | q :: t, i + 1, h => by
    have := cells2_get t i (by simpa using h)
    have e : cells2 (q :: t) = .string q.1 :: .int .i64 (q.2 : Nat) :: cells2 t := rfl
    rw [e, show (i + 1) * 2 = i * 2 + 1 + 1 by omega]
    exact this
theorem cells2_length (l : List (ByteArray × Nat)) : (cells2 l).length = l.length * 2 := by
  induction l with
  | nil => rfl
  | cons q t ih =>
    have e : cells2 (q :: t) = .string q.1 :: .int .i64 (q.2 : Nat) :: cells2 t := rfl
    rw [e, List.length_cons, List.length_cons, ih, List.length_cons]; omega

/-- a slice of clusters to be read -/
def Reads2 (w : World) (v : Value) (l : List (ByteArray × Nat)) : Prop :=
  ∃ a cap, v = .slice a l.length cap ∧ ∀ i, i < l.length → ∃ b off, a = some ⟨b, off, none⟩ ∧ b < w.heap.size ∧ w.cell? ⟨b, off + i * 2, none⟩ = some (.string (l.getD i (ByteArray.empty, 0)).1) ∧ w.cell? ⟨b, off + i * 2 + 1, none⟩ = some (.int .i64 ((l.getD i (ByteArray.empty, 0)).2 : Nat))
theorem reads2_own {w : World} {base : Nat} {v : Value} {l : List (ByteArray × Nat)} (h : w.ownsRow base 83 2 v l.length (cells2 l)) : Reads2 w v l := by
  obtain ⟨hl, a, cap, rfl, hc, h0⟩ := run.readsN_own h
  refine ⟨a, cap, rfl, fun i hi => ?_⟩
  obtain ⟨b, off, rfl, hb, hcell⟩ := hc (by intro e; have := congrArg List.length e; rw [cells2_length, List.length_nil] at this; omega)
  obtain ⟨g1, g2⟩ := cells2_get l i hi
  exact ⟨b, off, rfl, hb, hcell _ _ g1, by rw [Nat.add_assoc]; exact hcell _ _ g2⟩
theorem Reads2.below {w w' : World} {v : Value} {l : List (ByteArray × Nat)} (h : Reads2 w v l) (hb : Below w.heap.size w w') : Reads2 w' v l := by
  obtain ⟨a, cap, rfl, h⟩ := h
  refine ⟨a, cap, rfl, fun i hi => ?_⟩
  obtain ⟨b, off, ha, hlt, h1, h2⟩ := h i hi
  exact ⟨b, off, ha, Nat.lt_of_lt_of_le hlt hb.size, (hb.cell (p := ⟨b, off + i * 2, none⟩) hlt).trans h1, (hb.cell (p := ⟨b, off + i * 2 + 1, none⟩) hlt).trans h2⟩

/-- Split, for use -/
theorem split_use (s : ByteArray) (w : World) (hs : s.size ≤ 1099511627776) : Calls Tryz.prog 58 #[.string s] w fun e w' =>
    ∃ v, e = .returned v ∧ w'.ownsRow w.heap.size 83 2 v (told s).length (cells2 (told s)) ∧ Reads2 w' v (told s) ∧ Below w.heap.size w w' :=
  (split_any s w hs).mono fun _ _ ⟨v, he, ho, hb⟩ => by
    rw [cc_seen, ← seen_length] at ho
    exact ⟨v, he, ho, reads2_own ho, hb⟩
theorem told_length (s : ByteArray) : (told s).length ≤ s.size := by
  unfold told
  rw [seen_length]
  exact Nat.le_trans (cl_length _ _ (Nat.le_refl _)) (runes_len s)

theorem told_add (l m : List (ByteArray × Nat)) {i : Nat} (h : i < l.length) : (l ++ m).getD i (ByteArray.empty, 0) = l.getD i (ByteArray.empty, 0) := by
  simp only [List.getD_eq_getElem?_getD]
  rw [List.getElem?_append_left h]
theorem told_sub (l m : List (ByteArray × Nat)) {i : Nat} (h : l.length ≤ i) : (l ++ m).getD i (ByteArray.empty, 0) = m.getD (i - l.length) (ByteArray.empty, 0) := by
  simp only [List.getD_eq_getElem?_getD]
  rw [List.getElem?_append_right h]
theorem eqs_start (xs ys : List (ByteArray × Nat)) : ∀ j, j < 0 → xs.getD j (ByteArray.empty, 0) = ys.getD j (ByteArray.empty, 0) := by intro j hj; omega
theorem eqs_next {xs ys : List (ByteArray × Nat)} {k : Nat} (h : ∀ j, j < k → xs.getD j (ByteArray.empty, 0) = ys.getD j (ByteArray.empty, 0)) (hk : xs.getD k (ByteArray.empty, 0) = ys.getD k (ByteArray.empty, 0)) : ∀ j, j < k + 1 → xs.getD j (ByteArray.empty, 0) = ys.getD j (ByteArray.empty, 0) := by
  intro j hj
  by_cases e : j = k
  · subst e; exact hk
  · exact h j (by omega)
theorem eqs_end {xs ys : List (ByteArray × Nat)} (hl : xs.length = ys.length) (h : ∀ j, j < xs.length → xs.getD j (ByteArray.empty, 0) = ys.getD j (ByteArray.empty, 0)) : xs = ys := by
  apply List.ext_getElem hl
  intro i h1 h2
  have := h i h1
  simpa [List.getD_eq_getElem?_getD, h1, h2] using this
theorem nes_at {xs ys : List (ByteArray × Nat)} {k : Nat} (h : xs.getD k (ByteArray.empty, 0) ≠ ys.getD k (ByteArray.empty, 0)) : xs ≠ ys := by intro e; subst e; exact h rfl
theorem nes_len {xs ys : List (ByteArray × Nat)} (h : xs.length ≠ ys.length) : xs ≠ ys := by intro e; subst e; exact h rfl

theorem new_two (w : World) (x y : Value) (t : TypeId) : (w.alloc (.cells #[x, y] t)).cell? ⟨w.heap.size, 0, none⟩ = some x ∧ (w.alloc (.cells #[x, y] t)).cell? ⟨w.heap.size, 1, none⟩ = some y := by
  constructor <;> (simp only [World.cell?]; rw [run.heap_new]; rfl)

end Go.Proofs.YtdgcfmfjgidbjaaGreat.clu
end
section
namespace Go.Proofs.YtdgcfmfjgidbjaaGreat.wrp
open Go.Proofs.YtdgcfmfjgidbjaaGreat.wid Go.Proofs.YtdgcfmfjgidbjaaGreat.utf Go.Proofs.YtdgcfmfjgidbjaaGreat.clu
set_option linter.unusedVariables false

abbrev TV := ByteArray × Nat
def t0 : TV := (ByteArray.empty, 0)
/-- is a character struck? -/
def del1 (r : Int) : Bool := decide (r ≠ 10 ∧ r ≠ 9 ∧ kind r = 1)
def blank1 (r : Int) : Int := if r = 9 then 32 else r
def kept (l : List Int) : List Int := l.filter fun r => !del1 r
def nl : ByteArray := ⟨#[10]⟩
def sp : ByteArray := ⟨#[32]⟩
/-- is a cluster struck? -/
def del2 (q : TV) : Bool := decide (q.2 = 0 ∧ q.1 ≠ nl)
def kept2 (l : List TV) : List TV := l.filter fun q => !del2 q
def flowText (s : ByteArray) : ByteArray := str (text ((kept (runes (bs s))).map blank1))
def flow (s : ByteArray) : List TV := kept2 (told (flowText s))

theorem kept_take {l : List Int} {j : Nat} (h : j < l.length) : kept (l.take (j + 1)) = kept (l.take j) ++ if del1 (l.getD j 0) then [] else [l.getD j 0] := by
  rw [List.take_succ_eq_append_getElem h]
  unfold kept
  rw [List.filter_append]
  simp only [List.getD_eq_getElem?_getD, List.getElem?_eq_getElem h, Option.getD_some, List.filter_cons, List.filter_nil]
  cases del1 l[j] <;> rfl
theorem kept_all {l : List Int} (h : ∀ i, i < l.length → del1 (l.getD i 0) = false) : kept l = l := by
  unfold kept
  rw [List.filter_eq_self]
  intro a ha
  obtain ⟨i, hi, rfl⟩ := List.getElem_of_mem ha
  have := h i hi
  simp only [List.getD_eq_getElem?_getD, List.getElem?_eq_getElem hi, Option.getD_some] at this
  rw [this]; rfl
theorem kept_len (l : List Int) : (kept l).length ≤ l.length := List.length_filter_le _ _
theorem kept2_take {l : List TV} {j : Nat} (h : j < l.length) : kept2 (l.take (j + 1)) = kept2 (l.take j) ++ if del2 (l.getD j t0) then [] else [l.getD j t0] := by
  rw [List.take_succ_eq_append_getElem h]
  unfold kept2
  rw [List.filter_append]
  simp only [List.getD_eq_getElem?_getD, List.getElem?_eq_getElem h, Option.getD_some, List.filter_cons, List.filter_nil]
  cases del2 l[j] <;> rfl
theorem kept2_all {l : List TV} (h : ∀ i, i < l.length → del2 (l.getD i t0) = false) : kept2 l = l := by
  unfold kept2
  rw [List.filter_eq_self]
  intro a ha
  obtain ⟨i, hi, rfl⟩ := List.getElem_of_mem ha
  have := h i hi
  simp only [List.getD_eq_getElem?_getD, List.getElem?_eq_getElem hi, Option.getD_some] at this
  rw [this]; rfl
theorem kept2_len (l : List TV) : (kept2 l).length ≤ l.length := List.length_filter_le _ _

end Go.Proofs.YtdgcfmfjgidbjaaGreat.wrp
end
section
namespace Go.Proofs.YtdgcfmfjgidbjaaGreat.wrp
open Go.RowKit Go.Proofs
open Go.Proofs.YtdgcfmfjgidbjaaGreat.wid Go.Proofs.YtdgcfmfjgidbjaaGreat.utf Go.Proofs.YtdgcfmfjgidbjaaGreat.clu
set_option linter.unusedVariables false

set_option maxHeartbeats 1000000 in
theorem flow1_any (r : Int) (w : World) : Calls Tryz.prog 56 #[.int .i32 r] w fun e w' => e = .returned (.bool (del1 r)) ∧ Below w.heap.size w w' := by
  have HK := run.hid (fun w => kind_any r w)
  have HD := run.hid (show del1 r = decide (r ≠ 10 ∧ r ≠ 9 ∧ kind r = 1) from rfl)
  by_cases h10 : r = 10
  · subst h10
    go_enter Tryz.func56, Tryz.ntmps56
    go_wp2_with fail
    go_ret
    exact ⟨rfl, Below.refl _ _⟩
  by_cases h9 : r = 9
  · subst h9
    go_enter Tryz.func56, Tryz.ntmps56
    go_wp2_with fail
    go_ret
    exact ⟨rfl, Below.refl _ _⟩
  have HD2 : Hid (del1 r = decide (kind r = 1)) := by show del1 r = _; rw [HD.out]; simp [h10, h9]
  clear HD
  generalize del1 r = d at *
  generalize kind r = k at *
  go_enter Tryz.func56, Tryz.ntmps56
  go_wp2_with fail
  refine (HK.out _).mono ?_
  rintro e w1 ⟨rfl, hb⟩
  go_wp2_with fail
  go_ret
  refine ⟨?_, hb⟩
  rw [HD2.out]
  show Ending.returned (.bool (r != 10 && r != 9 && (k : Int) == 1)) = _
  refine congrArg (fun b => Ending.returned (.bool b)) ?_
  rw [Bool.eq_iff_iff]
  simp [h10, h9]
  omega

/-- the first character that is struck -/
def None1 (L : List Int) (k : Nat) : Prop := ∀ i, i < k → del1 (L.getD i 0) = false
def First1 (L : List Int) (k : Nat) : Prop := k ≤ L.length ∧ None1 L k ∧ (k < L.length → del1 (L.getD k 0) = true)
theorem none1_next {L : List Int} {k : Nat} (h : None1 L k) (hd : del1 (L.getD k 0) = false) : None1 L (k + 1) := fun i hi => by
  by_cases e : i = k
  · subst e; exact hd
  · exact h i (by omega)

set_option maxHeartbeats 1000000 in
theorem index1_any (v : Value) (L : List Int) (w : World) (hv : run.Reads w v (rv L)) (hL : L.length ≤ 1099511627776) :
    Calls Tryz.prog 77 #[v, .func (.func 56) #[] #[]] w fun e w' => ∃ k : Nat, First1 L k ∧ e = .returned (.int .i64 (if k < L.length then (k : Int) else -1)) ∧ Below w.heap.size w w' := by
  have HF := run.hid (fun r w => flow1_any r w)
  have HV := run.hid hv
  obtain ⟨a, cap, rfl, -⟩ := hv
  rw [rv_length] at *
  have HA := run.hid (fun k (h : k < L.length) => show ∃ b off, a = some ⟨b, off, none⟩ ∧ b < w.heap.size ∧ w.cell? ⟨b, off + k, none⟩ = some (.int .i32 (L.getD k 0)) from by
    obtain ⟨b, off, cap', he, hb, hc⟩ := reads_get HV.out (by intro e; have := congrArg List.length e; rw [rv_length] at this; simp at this; subst this; simp at h)
    simp only [Value.slice.injEq] at he
    exact ⟨b, off, he.1, hb, hc k _ (rv_get h)⟩)
  have HEND := run.hid (fun (h : None1 L L.length) => show First1 L L.length from ⟨Nat.le_refl _, h, fun h => absurd h (Nat.lt_irrefl _)⟩)
  have HHIT := run.hid (fun k (hk : k < L.length) (h : None1 L k) (hd : del1 (L.getD k 0) = true) => show First1 L k from ⟨Nat.le_of_lt hk, h, fun _ => hd⟩)
  have HNEXT := run.hid (fun k => @none1_next L k)
  clear HV
  go_enter Tryz.func77, Tryz.ntmps77
  generalize L.length = N at *
  go_wp2
  go_loopw [8] (fun vk wr => ∃ k : Nat, k ≤ N ∧ vk = .int .i64 k ∧ Hid (None1 L k) ∧ Below w.heap.size w wr) (fun k _ => (N - intOf k).toNat)
  case atStart => exact ⟨0, by omega, rfl, run.hid (by intro i hi; omega), Below.refl _ _⟩
  case round =>
    obtain ⟨k, hk, rfl, HN, hbel⟩ := hrel
    by_cases hlt : k < N
    · obtain ⟨b, off, rfl, hb, hc⟩ := HA.out k hlt
      replace hc := (hbel.cell (p := ⟨b, off + k, none⟩) hb).trans hc
      have H1 := run.hid (HHIT.out k hlt HN.out)
      have H2 := run.hid (HNEXT.out k HN.out)
      generalize L.getD k 0 = x at hc H1 H2
      clear HA HHIT HNEXT HEND
      go_wp2_with fail
      refine (HF.out _ _).mono ?_
      rintro e w1 ⟨rfl, hb1⟩
      replace hb1 := hbel.trans (hb1.mono hbel.size)
      cases hd : del1 x with
      | true =>
        have HD := run.hid (H1.out hd)
        clear hd hc
        go_wp2
        go_ret
        exact ⟨k, HD.out, by rw [if_pos hlt]; rfl, hb1⟩
      | false =>
        have HN2 := run.hid (H2.out hd)
        clear hd hc
        go_wp2
        go_roundw
        case rel => exact ⟨k + 1, by omega, by go_num, HN2, hb1⟩
        case measure => simp [intOf]; omega
    · obtain rfl : k = N := by omega
      have HD := run.hid (HEND.out HN.out)
      clear HEND HHIT HNEXT HA
      go_wp2
      go_ret
      exact ⟨k, HD.out, by rw [if_neg hlt]; rfl, hbel⟩

theorem rv_set (l : List Int) (i : Nat) (x : Int) : (rv l).set i (.int .i32 x) = rv (l.set i x) := by unfold rv; rw [List.map_set]
theorem getD_drop {L R : List Int} {j : Nat} (h : R.drop j = L.drop j) : R.getD j 0 = L.getD j 0 := by
  have h1 := congrArg (fun l : List Int => l[0]?) h
  simp only [List.getElem?_drop, Nat.add_zero] at h1
  simp only [List.getD_eq_getElem?_getD, h1]
theorem kept_first {L : List Int} {k : Nat} (h : First1 L k) (hk : k < L.length) : kept (L.take (k + 1)) = L.take k := by
  obtain ⟨-, h1, h2⟩ := h
  rw [kept_take hk, h2 hk, kept_all]
  · simp
  · intro i hi
    have hi2 : i < k := by rw [List.length_take] at hi; omega
    have := h1 i hi2
    rw [List.getD_eq_getElem?_getD, List.getElem?_take_of_lt hi2, ← List.getD_eq_getElem?_getD]
    exact this
theorem zero_rune (w : World) : (zeroValue 21).run Tryz.prog w = .ok (.int .i32 0) w := by kernel_rfl

/-- where DeleteFunc stands: i characters kept of the first j; the rest as it was -/
def Del1 (B g cap : Nat) (L : List Int) (i j : Nat) (R : List Int) (W : World) : Prop :=
  R.length = L.length ∧ i = (kept (L.take j)).length ∧ R.take i = kept (L.take j) ∧ R.drop j = L.drop j ∧ W.ownsRow B 21 1 (.slice (some ⟨g, 0, none⟩) L.length cap) L.length (rv R)
theorem Del1.skip {B g cap i j : Nat} {L R : List Int} {W : World} (h : Del1 B g cap L i j R W) (hj : j < L.length) (hd : del1 (L.getD j 0) = true) : Del1 B g cap L i (j + 1) R W := by
  obtain ⟨h1, h2, h3, h4, h5⟩ := h
  have e : kept (L.take (j + 1)) = kept (L.take j) := by rw [kept_take hj, hd]; simp
  refine ⟨h1, by rw [e]; exact h2, by rw [e]; exact h3, ?_, h5⟩
  rw [← List.drop_drop, ← List.drop_drop, h4]
theorem Del1.keep {B g cap i j : Nat} {L R : List Int} {W : World} (h : Del1 B g cap L i j R W) (hj : j < L.length) (hij : i < j) (hd : del1 (L.getD j 0) = false) : Del1 B g cap L (i + 1) (j + 1) (R.set i (L.getD j 0)) (W.setCell ⟨g, i, none⟩ (.int .i32 (L.getD j 0))) := by
  obtain ⟨h1, h2, h3, h4, h5⟩ := h
  have e : kept (L.take (j + 1)) = kept (L.take j) ++ [L.getD j 0] := by rw [kept_take hj, hd]; simp
  refine ⟨by rw [List.length_set, h1], by rw [e, List.length_append, ← h2]; rfl, ?_, ?_, ?_⟩
  · rw [e, ← h3, List.take_succ_eq_append_getElem (by rw [List.length_set]; omega)]
    rw [List.take_set_of_le (Nat.le_refl _)]
    simp
  · rw [List.drop_set_of_lt (by omega), ← List.drop_drop, ← List.drop_drop, h4]
  · rw [← rv_set]; exact (h5.stored i _).1

set_option maxHeartbeats 2000000 in
theorem delete1_any (B : Nat) (v : Value) (L : List Int) (w : World) (hown : w.ownsRow B 21 1 v L.length (rv L)) (hL : L.length ≤ 1099511627776) (hB : B ≤ w.heap.size) :
    Calls Tryz.prog 55 #[v, .func (.func 56) #[] #[]] w fun e w' => ∃ v', e = .returned v' ∧ w'.ownsRow B 21 1 v' (kept L).length (rv (kept L)) ∧ Below B w w' := by
  have HF := run.hid (fun r w => flow1_any r w)
  have HI := run.hid (index1_any v L w (run.reads_own hown) hL)
  have HO := run.hid hown
  obtain ⟨a, cap, rfl⟩ := run.own_value hown
  clear hown
  go_enter Tryz.func55, Tryz.ntmps55
  go_wp2_with fail
  refine HI.out.mono ?_
  rintro e w1 ⟨k, hk, rfl, hb1⟩
  have hBw := hb1.mono hB
  by_cases hlt : k < L.length
  · rw [if_pos hlt]
    obtain ⟨g, rfl, hcap⟩ : ∃ g, a = some ⟨g, 0, none⟩ ∧ L.length ≤ cap := by
      rcases HO.out.2 with ⟨h, h0⟩ | ⟨g, cap', cur, h, -, -, h1, -⟩
      · omega
      · simp only [Value.slice.injEq] at h; exact ⟨g, h.1, by omega⟩
    have HS : Hid (Del1 B g cap L k (k + 1) L w1) := ⟨rfl, by rw [kept_first hk hlt, List.length_take]; omega, by rw [kept_first hk hlt], rfl, run.own_below HO.out hb1⟩
    clear HO HI hk
    have HSKIP := run.hid (fun i j R W => @Del1.skip B g cap i j L R W)
    have HKEEP := run.hid (fun i j R W => @Del1.keep B g cap i j L R W)
    have HROW := run.hid (fun i j R W (h : Del1 B g cap L i j R W) => show W.ownsRow B 21 1 (.slice (some ⟨g, 0, none⟩) L.length cap) L.length (rv R) ∧ R.length = L.length ∧ R.getD j 0 = L.getD j 0 from ⟨h.2.2.2.2, h.1, getD_drop h.2.2.2.1⟩)
    have HDONE := run.hid (fun i R W (h : Del1 B g cap L i L.length R W) => show i = (kept L).length ∧ R.take i = kept L from by
      obtain ⟨-, h2, h3, -, -⟩ := h
      rw [List.take_of_length_le (Nat.le_refl _)] at h2 h3
      exact ⟨h2, h3⟩)
    have HNEW := run.hid (fun i j R W W' (h : Del1 B g cap L i j R W) (h' : Below W.heap.size W W') => show Del1 B g cap L i j R W' from ⟨h.1, h.2.1, h.2.2.1, h.2.2.2.1, run.own_below h.2.2.2.2 h'⟩)
    generalize hN : L.length = N at *
    have hne : ((k : Int) == -1) = false := by rw [beq_eq_false_iff_ne]; omega
    go_wp2
    go_loopw [5, 6] (fun vi vj wr => ∃ i j : Nat, ∃ R : List Int, i < j ∧ j ≤ N ∧ vi = .int .i64 i ∧ vj = .int .i64 j ∧ Hid (Del1 B g cap L i j R wr) ∧ Below B w wr) (fun _ vj _ => (N - intOf vj).toNat)
    case atStart => exact ⟨k, k + 1, L, by omega, by omega, rfl, by go_num, HS, hBw⟩
    case round =>
      obtain ⟨i, j, R, hij, hj, rfl, rfl, HD, hbel⟩ := hrel
      obtain ⟨hown, hRl, hRg⟩ := HROW.out i j R wr HD.out
      by_cases hjl : j < N
      · have hc := (hown.cellAt j (by omega)).trans (rv_get (show j < R.length by omega))
        rw [hRg] at hc
        have HSK := run.hid (fun W => HSKIP.out i j R W)
        have HKE := run.hid (fun W => HKEEP.out i j R W)
        have HNW := run.hid (fun W h => HNEW.out i j R wr W HD.out h)
        have HRW := run.hid (fun W h => HROW.out i j R W h)
        clear hown hRg
        cases hd : del1 (L.getD j 0) with
        | true =>
          have HX := run.hid (fun W h => HSK.out W h hjl hd)
          generalize hx : L.getD j 0 = x at *
          have Hd := run.hid hd
          clear hd hx HSK HKE HSKIP HKEEP HDONE HS HD
          go_wp2_with fail
          refine (HF.out _ _).mono ?_
          rintro e w2 ⟨rfl, hb2⟩
          rw [Hd.out]
          have HD2 := run.hid (HX.out _ (HNW.out _ hb2))
          have hbel2 := hbel.trans (hb2.mono (Nat.le_trans hB hbel.size))
          clear hb2 hc
          go_wp2
          go_roundw
          case rel => exact ⟨i, j + 1, R, by omega, by omega, rfl, by go_num, HD2, hbel2⟩
          case measure => simp [intOf]; omega
        | false =>
          have HX := run.hid (fun W h => HKE.out W h hjl hij hd)
          generalize hx : L.getD j 0 = x at *
          have Hd := run.hid hd
          clear hd hx HSK HKE HSKIP HKEEP HDONE HS HD
          go_wp2_with fail
          refine (HF.out _ _).mono ?_
          rintro e w2 ⟨rfl, hb2⟩
          rw [Hd.out]
          have HD2 := run.hid (HX.out _ (HNW.out _ hb2))
          obtain ⟨hown2, -, -⟩ := HRW.out w2 (HNW.out _ hb2)
          have hci := (hown2.cellAt i (by omega)).trans (rv_get (show i < R.length by omega))
          have hfi := hown2.frozenAt i
          have hbel2 := hbel.trans (hb2.mono (Nat.le_trans hB hbel.size))
          have hbel3 := run.below_grown hbel2 hown2 (run.setCell_grown w2 g i (.int .i32 x)) (Nat.le_refl _) (Nat.le_trans hB hbel2.size)
          generalize R.getD i 0 = y at *
          clear hb2 hc hown2
          go_wp2
          go_roundw
          case rel => exact ⟨i + 1, j + 1, R.set i x, by omega, by omega, by go_num, by go_num, HD2, hbel3⟩
          case measure => simp [intOf]; omega
      · obtain rfl : j = N := by omega
        obtain ⟨hi, hR⟩ := HDONE.out i R wr HD.out
        have hcl : ∀ ty, (Builtin.clear_ #[97] ty #[.slice (some ⟨g, i, none⟩) (j - i) (cap - i)]).run Tryz.prog wr = .ok (.tuple #[]) (wr.setCells g i (List.replicate (j - i) (.int .i32 0))) :=
          fun ty => Lib.run_clear_slice wr 97 21 ty _ Tryz.underlying97 zero_rune rfl rfl g i _ _ (by omega)
            (fun t ht => by rw [hown.cellAt (i + t) (by omega), rv_get (show i + t < R.length by omega)]; rfl) (fun t ht => hown.frozenAt _)
        obtain ⟨ys, ho, htk, hgr⟩ := run.own_setCells (List.replicate (j - i) (Value.int .i32 0)) i wr (rv R) hown
        have hfin := run.own_cut ho (Nat.le_of_lt hij)
        rw [Nat.mul_one, htk i (Nat.le_refl _), show (rv R).take i = rv (kept L) by unfold rv; rw [← List.map_take, hR]] at hfin
        have hbel3 := run.below_grown hbel hown hgr (Nat.le_refl _) (Nat.le_trans hB hbel.size)
        have HFIN := run.hid hfin
        have HIK := run.hid hi
        clear ho htk hgr hfin hown hRg hi hR hRl HD HDONE HSKIP HKEEP HROW HNEW HS HF hlt hjl
        go_wp2_with (simp only [hcl])
        go_ret
        exact ⟨_, rfl, by rw [← HIK.out]; exact HFIN.out, hbel3⟩
  · rw [if_neg hlt]
    have hkl : kept L = L := kept_all fun i hi => hk.2.1 i (by omega)
    go_wp2
    go_ret
    exact ⟨_, rfl, by rw [hkl]; exact run.own_below HO.out hb1, hBw⟩

end Go.Proofs.YtdgcfmfjgidbjaaGreat.wrp
end
section
namespace Go.Proofs.YtdgcfmfjgidbjaaGreat.wrp
open Go.RowKit Go.Proofs
open Go.Proofs.YtdgcfmfjgidbjaaGreat.wid Go.Proofs.YtdgcfmfjgidbjaaGreat.utf Go.Proofs.YtdgcfmfjgidbjaaGreat.clu
set_option linter.unusedVariables false

def agg (q : TV) : Value := .agg #[.string q.1, .int .i64 (q.2 : Nat)]

theorem nl_eq (s : ByteArray) : (s.toList == [10]) = decide (s = nl) := by rw [show ([10] : List UInt8) = nl.toList from by simp [ByteArray.toList_eq, nl]]; exact toList_eq_iff s nl
theorem sp_eq (s : ByteArray) : (s.toList == [32]) = decide (s = sp) := by rw [show ([32] : List UInt8) = sp.toList from by simp [ByteArray.toList_eq, sp]]; exact toList_eq_iff s sp

set_option maxHeartbeats 1000000 in
theorem flow2_any (q : TV) (w : World) : Calls Tryz.prog 61 #[agg q] w fun e w' => e = .returned (.bool (del2 q)) ∧ Below w.heap.size w w' := by
  have HD := run.hid (show del2 q = decide (q.2 = 0 ∧ q.1 ≠ nl) from rfl)
  obtain ⟨s, n⟩ := q
  dsimp only [agg] at *
  generalize del2 (s, n) = d at *
  have hb := run.below_one w (.cells #[.string s, .int .i64 n] 83)
  by_cases h0 : n = 0
  · subst h0
    go_enter Tryz.func61, Tryz.ntmps61
    go_wp2_with fail
    go_ret
    refine ⟨?_, hb⟩
    show Ending.returned (.bool (!(s.toList == [10]))) = _
    rw [HD.out, nl_eq]
    simp
  · go_enter Tryz.func61, Tryz.ntmps61
    go_wp2_with fail
    go_ret
    refine ⟨?_, hb⟩
    show Ending.returned (.bool false) = _
    rw [HD.out]
    simp [h0]

/-- the first cluster that is struck -/
def None2 (L : List TV) (k : Nat) : Prop := ∀ i, i < k → del2 (L.getD i t0) = false
def First2 (L : List TV) (k : Nat) : Prop := k ≤ L.length ∧ None2 L k ∧ (k < L.length → del2 (L.getD k t0) = true)
theorem none2_next {L : List TV} {k : Nat} (h : None2 L k) (hd : del2 (L.getD k t0) = false) : None2 L (k + 1) := fun i hi => by
  by_cases e : i = k
  · subst e; exact hd
  · exact h i (by omega)

set_option maxHeartbeats 1000000 in
theorem index2_any (v : Value) (L : List TV) (w : World) (hv : Reads2 w v L) (hL : L.length ≤ 1099511627776) :
    Calls Tryz.prog 82 #[v, .func (.func 61) #[] #[]] w fun e w' => ∃ k : Nat, First2 L k ∧ e = .returned (.int .i64 (if k < L.length then (k : Int) else -1)) ∧ Below w.heap.size w w' := by
  have HF := run.hid (fun q w => flow2_any q w)
  obtain ⟨a, cap, rfl, ha⟩ := hv
  have HA := run.hid ha
  clear ha
  have HEND := run.hid (fun (h : None2 L L.length) => show First2 L L.length from ⟨Nat.le_refl _, h, fun h => absurd h (Nat.lt_irrefl _)⟩)
  have HHIT := run.hid (fun k (hk : k < L.length) (h : None2 L k) (hd : del2 (L.getD k t0) = true) => show First2 L k from ⟨Nat.le_of_lt hk, h, fun _ => hd⟩)
  have HNEXT := run.hid (fun k => @none2_next L k)
  go_enter Tryz.func82, Tryz.ntmps82
  generalize L.length = N at *
  go_wp2
  go_loopw [8] (fun vk wr => ∃ k : Nat, k ≤ N ∧ vk = .int .i64 k ∧ Hid (None2 L k) ∧ Below w.heap.size w wr) (fun k _ => (N - intOf k).toNat)
  case atStart => exact ⟨0, by omega, rfl, run.hid (by intro i hi; omega), Below.refl _ _⟩
  case round =>
    obtain ⟨k, hk, rfl, HN, hbel⟩ := hrel
    by_cases hlt : k < N
    · obtain ⟨b, off, rfl, hb, hc1, hc2⟩ := HA.out k hlt
      replace hc1 := (hbel.cell (p := ⟨b, off + k * 2, none⟩) hb).trans hc1
      replace hc2 := (hbel.cell (p := ⟨b, off + k * 2 + 1, none⟩) hb).trans hc2
      have H1 := run.hid (HHIT.out k hlt HN.out)
      have H2 := run.hid (HNEXT.out k HN.out)
      unfold t0 at H1 H2
      generalize L.getD k (ByteArray.empty, 0) = x at hc1 hc2 H1 H2
      have HFx := run.hid (fun W => HF.out x W)
      obtain ⟨xs, xn⟩ := x
      unfold agg at HFx
      dsimp only at hc1 hc2 H1 H2 HFx
      clear HA HHIT HNEXT HEND HF
      go_wp2_with fail
      refine (HFx.out _).mono ?_
      rintro e w1 ⟨rfl, hb1⟩
      replace hb1 := hbel.trans (hb1.mono hbel.size)
      cases hd : del2 (xs, xn) with
      | true =>
        have HD := run.hid (H1.out hd)
        clear hd hc1 hc2
        go_wp2
        go_ret
        exact ⟨k, HD.out, by rw [if_pos hlt]; rfl, hb1⟩
      | false =>
        have HN2 := run.hid (H2.out hd)
        clear hd hc1 hc2
        go_wp2
        go_roundw
        case rel => exact ⟨k + 1, by omega, by go_num, HN2, hb1⟩
        case measure => simp [intOf]; omega
    · obtain rfl : k = N := by omega
      have HD := run.hid (HEND.out HN.out)
      clear HEND HHIT HNEXT HA
      go_wp2
      go_ret
      exact ⟨k, HD.out, by rw [if_neg hlt]; rfl, hbel⟩

theorem cells2_set : ∀ (L : List TV) (k : Nat) (q : TV), k < L.length → ((cells2 L).set (k * 2) (.string q.1)).set (k * 2 + 1) (.int .i64 (q.2 : Nat)) = cells2 (L.set k q)
  | p :: t, 0, q, _ => rfl
  | p :: t, k + 1, q, h => by
    have e : ∀ (p : TV) (t : List TV), cells2 (p :: t) = .string p.1 :: .int .i64 (p.2 : Nat) :: cells2 t := fun _ _ => rfl
    rw [e, show (k + 1) * 2 = k * 2 + 1 + 1 by omega]
    simp only [List.set_cons_succ]
    rw [cells2_set t k q (by simpa using h), e]
theorem cells2_take : ∀ (L : List TV) (k : Nat), (cells2 L).take (k * 2) = cells2 (L.take k)
  | [], k => by simp [cells2]
  | p :: t, 0 => rfl
  | p :: t, k + 1 => by
    have e : ∀ (p : TV) (t : List TV), cells2 (p :: t) = .string p.1 :: .int .i64 (p.2 : Nat) :: cells2 t := fun _ _ => rfl
    rw [e, show (k + 1) * 2 = k * 2 + 1 + 1 by omega]
    simp only [List.take_succ_cons]
    rw [cells2_take t k, e]
theorem getD_drop2 {L R : List TV} {j : Nat} (h : R.drop j = L.drop j) : R.getD j t0 = L.getD j t0 := by
  have h1 := congrArg (fun l : List TV => l[0]?) h
  simp only [List.getElem?_drop, Nat.add_zero] at h1
  simp only [List.getD_eq_getElem?_getD, h1]
theorem kept2_first {L : List TV} {k : Nat} (h : First2 L k) (hk : k < L.length) : kept2 (L.take (k + 1)) = L.take k := by
  obtain ⟨-, h1, h2⟩ := h
  rw [kept2_take hk, h2 hk, kept2_all]
  · simp
  · intro i hi
    have hi2 : i < k := by rw [List.length_take] at hi; omega
    have := h1 i hi2
    rw [List.getD_eq_getElem?_getD, List.getElem?_take_of_lt hi2, ← List.getD_eq_getElem?_getD]
    exact this
theorem zero_clu (w : World) : (zeroValue 83).run Tryz.prog w = .ok (.agg #[.string ByteArray.empty, .int .i64 0]) w := by kernel_rfl

/-- where DeleteFunc stands: i clusters kept of the first j; the rest as it was -/
def Del2 (B g cap : Nat) (L : List TV) (i j : Nat) (R : List TV) (W : World) : Prop :=
  R.length = L.length ∧ i = (kept2 (L.take j)).length ∧ R.take i = kept2 (L.take j) ∧ R.drop j = L.drop j ∧ W.ownsRow B 83 2 (.slice (some ⟨g, 0, none⟩) L.length cap) L.length (cells2 R)
theorem Del2.skip {B g cap i j : Nat} {L R : List TV} {W : World} (h : Del2 B g cap L i j R W) (hj : j < L.length) (hd : del2 (L.getD j t0) = true) : Del2 B g cap L i (j + 1) R W := by
  obtain ⟨h1, h2, h3, h4, h5⟩ := h
  have e : kept2 (L.take (j + 1)) = kept2 (L.take j) := by rw [kept2_take hj, hd]; simp
  refine ⟨h1, by rw [e]; exact h2, by rw [e]; exact h3, ?_, h5⟩
  rw [← List.drop_drop, ← List.drop_drop, h4]
theorem Del2.keep {B g cap i j : Nat} {L R : List TV} {W : World} {q : TV} (h : Del2 B g cap L i j R W) (hj : j < L.length) (hij : i < j) (hq : L.getD j t0 = q) (hd : del2 q = false) :
    Del2 B g cap L (i + 1) (j + 1) (R.set i q) ((W.setCell ⟨g, i * 2, none⟩ (.string q.1)).setCell ⟨g, i * 2 + 1, none⟩ (.int .i64 (q.2 : Nat))) := by
  obtain ⟨h1, h2, h3, h4, h5⟩ := h
  have e : kept2 (L.take (j + 1)) = kept2 (L.take j) ++ [q] := by rw [kept2_take hj, hq, hd]; simp
  refine ⟨by rw [List.length_set, h1], by rw [e, List.length_append, ← h2]; rfl, ?_, ?_, ?_⟩
  · rw [e, ← h3, List.take_succ_eq_append_getElem (by rw [List.length_set]; omega)]
    rw [List.take_set_of_le (Nat.le_refl _)]
    simp
  · rw [List.drop_set_of_lt (by omega), ← List.drop_drop, ← List.drop_drop, h4]
  · rw [← cells2_set R i q (by omega)]
    exact ((h5.stored (i * 2) _).1.stored (i * 2 + 1) _).1

set_option maxHeartbeats 4000000 in
theorem delete2_any (B : Nat) (v : Value) (L : List TV) (w : World) (hown : w.ownsRow B 83 2 v L.length (cells2 L)) (hL : L.length ≤ 1099511627776) (hB : B ≤ w.heap.size) :
    Calls Tryz.prog 60 #[v, .func (.func 61) #[] #[]] w fun e w' => ∃ v', e = .returned v' ∧ w'.ownsRow B 83 2 v' (kept2 L).length (cells2 (kept2 L)) ∧ Below B w w' := by
  have HF := run.hid (fun r w => flow2_any r w)
  have HI := run.hid (index2_any v L w (reads2_own hown) hL)
  have HO := run.hid hown
  obtain ⟨a, cap, rfl⟩ := run.own_value hown
  clear hown
  go_enter Tryz.func60, Tryz.ntmps60
  go_wp2_with fail
  refine HI.out.mono ?_
  rintro e w1 ⟨k, hk, rfl, hb1⟩
  have hBw := hb1.mono hB
  by_cases hlt : k < L.length
  · rw [if_pos hlt]
    obtain ⟨g, rfl, hcap⟩ : ∃ g, a = some ⟨g, 0, none⟩ ∧ L.length ≤ cap := by
      rcases HO.out.2 with ⟨h, h0⟩ | ⟨g, cap', cur, h, -, -, h1, -⟩
      · omega
      · simp only [Value.slice.injEq] at h; exact ⟨g, h.1, by omega⟩
    have HS : Hid (Del2 B g cap L k (k + 1) L w1) := ⟨rfl, by rw [kept2_first hk hlt, List.length_take]; omega, by rw [kept2_first hk hlt], rfl, run.own_below HO.out hb1⟩
    clear HO HI hk
    have HSKIP := run.hid (fun i j R W => @Del2.skip B g cap i j L R W)
    have HKEEP := run.hid (fun i j R W q => @Del2.keep B g cap i j L R W q)
    have HROW := run.hid (fun i j R W (h : Del2 B g cap L i j R W) => show W.ownsRow B 83 2 (.slice (some ⟨g, 0, none⟩) L.length cap) L.length (cells2 R) ∧ R.length = L.length ∧ R.getD j t0 = L.getD j t0 from ⟨h.2.2.2.2, h.1, getD_drop2 h.2.2.2.1⟩)
    have HDONE := run.hid (fun i R W (h : Del2 B g cap L i L.length R W) => show i = (kept2 L).length ∧ R.take i = kept2 L from by
      obtain ⟨-, h2, h3, -, -⟩ := h
      rw [List.take_of_length_le (Nat.le_refl _)] at h2 h3
      exact ⟨h2, h3⟩)
    have HNEW := run.hid (fun i j R W W' (h : Del2 B g cap L i j R W) (h' : Below W.heap.size W W') => show Del2 B g cap L i j R W' from ⟨h.1, h.2.1, h.2.2.1, h.2.2.2.1, run.own_below h.2.2.2.2 h'⟩)
    generalize hN : L.length = N at *
    have hne : ((k : Int) == -1) = false := by rw [beq_eq_false_iff_ne]; omega
    go_wp2
    go_loopw [5, 6] (fun vi vj wr => ∃ i j : Nat, ∃ R : List TV, i < j ∧ j ≤ N ∧ vi = .int .i64 i ∧ vj = .int .i64 j ∧ Hid (Del2 B g cap L i j R wr) ∧ Below B w wr) (fun _ vj _ => (N - intOf vj).toNat)
    case atStart => exact ⟨k, k + 1, L, by omega, by omega, rfl, by go_num, HS, hBw⟩
    case round =>
      obtain ⟨i, j, R, hij, hj, rfl, rfl, HD, hbel⟩ := hrel
      obtain ⟨hown, hRl, hRg⟩ := HROW.out i j R wr HD.out
      by_cases hjl : j < N
      · obtain ⟨g1, g2⟩ := cells2_get R j (by omega)
        have hc1 := (hown.cellAt (j * 2) (by omega)).trans g1
        have hc2 := (hown.cellAt (j * 2 + 1) (by omega)).trans g2
        unfold t0 at hRg
        rw [hRg] at hc1 hc2
        have HSK := run.hid (fun W h => HSKIP.out i j R W h hjl)
        have HKE := run.hid (fun W q h => HKEEP.out i j R W q h hjl hij)
        have HNW := run.hid (fun W h => HNEW.out i j R wr W HD.out h)
        have HRW := run.hid (fun W h => HROW.out i j R W h)
        clear hown hRg g1 g2
        have HX0 := run.hid (fun W (hd : del2 (L.getD j t0) = true) h => HSK.out W h hd)
        have HX1 := run.hid (fun W q (hq : L.getD j t0 = q) (hd : del2 q = false) h => HKE.out W q h hq hd)
        unfold t0 at HX0 HX1
        generalize hx : L.getD j (ByteArray.empty, 0) = x at *
        replace HX1 := run.hid (fun W => HX1.out W x rfl)
        clear hx HSK HKE HSKIP HKEEP HDONE HS HD
        have HFx := run.hid (fun W => HF.out x W)
        clear HF
        obtain ⟨xs, xn⟩ := x
        unfold agg at HFx
        dsimp only at hc1 hc2 HX0 HX1 HFx
        have hnew := new_two wr (.string xs) (.int .i64 xn) 83
        have hbn := run.below_one wr (.cells #[.string xs, .int .i64 xn] 83)
        have hsn : (wr.alloc (.cells #[.string xs, .int .i64 xn] 83)).heap.size = wr.heap.size + 1 := by simp
        have hcalls := HFx.out (wr.alloc (.cells #[.string xs, .int .i64 xn] 83))
        cases hd : del2 (xs, xn) with
        | true =>
          rw [hd] at hcalls
          have HX := run.hid (fun W => HX0.out W hd)
          clear hd HX0 HX1 HFx
          have HC := run.hid hcalls
          clear hcalls
          go_wp2_with fail
          refine HC.out.mono ?_
          rintro e w2 ⟨rfl, hb2⟩
          have hb3 : Below wr.heap.size wr w2 := hbn.trans (hb2.mono (by omega))
          have HD2 := run.hid (HX.out _ (HNW.out _ hb3))
          have hbel2 := hbel.trans (hb3.mono (Nat.le_trans hB hbel.size))
          clear hb2 hc1 hc2 hb3 hbn hsn hnew
          go_wp2
          go_roundw
          case rel => exact ⟨i, j + 1, R, by omega, by omega, rfl, by go_num, HD2, hbel2⟩
          case measure => simp [intOf]; omega
        | false =>
          rw [hd] at hcalls
          have HX := run.hid (fun W => HX1.out W hd)
          clear hd HX0 HX1 HFx
          have HC := run.hid hcalls
          clear hcalls
          go_wp2_with fail
          refine HC.out.mono ?_
          rintro e w2 ⟨rfl, hb2⟩
          have hb3 : Below wr.heap.size wr w2 := hbn.trans (hb2.mono (by omega))
          have HD2 := run.hid (HX.out _ (HNW.out _ hb3))
          obtain ⟨hown2, -, -⟩ := HRW.out w2 (HNW.out _ hb3)
          have hn1 := (hb2.cell (p := ⟨wr.heap.size, 0, none⟩) (by show wr.heap.size < _; omega)).trans hnew.1
          have hn2 := (hb2.cell (p := ⟨wr.heap.size, 1, none⟩) (by show wr.heap.size < _; omega)).trans hnew.2
          obtain ⟨g1, g2⟩ := cells2_get R i (by omega)
          have hi1 := (hown2.cellAt (i * 2) (by omega)).trans g1
          have hi2 := (hown2.cellAt (i * 2 + 1) (by omega)).trans g2
          have hf1 := hown2.frozenAt (i * 2)
          have hf2 := hown2.frozenAt (i * 2 + 1)
          have hbel2 := hbel.trans (hb3.mono (Nat.le_trans hB hbel.size))
          have hbel3 := run.below_grown hbel2 hown2 (run.grown_trans (run.setCell_grown w2 g (i * 2) (.string xs)) (run.setCell_grown _ g (i * 2 + 1) (.int .i64 xn)) (.inl rfl)) (Nat.le_refl _) (Nat.le_trans hB hbel2.size)
          generalize R.getD i (ByteArray.empty, 0) = y at *
          clear hb2 hc1 hc2 hb3 hbn hsn hnew hown2 g1 g2
          go_wp2
          go_roundw
          case rel => exact ⟨i + 1, j + 1, R.set i (xs, xn), by omega, by omega, by go_num, by go_num, HD2, hbel3⟩
          case measure => simp [intOf]; omega
      · obtain rfl : j = N := by omega
        obtain ⟨hi, hR⟩ := HDONE.out i R wr HD.out
        have hcl : ∀ ty, ∃ us, (Builtin.clear_ #[80] ty #[.slice (some ⟨g, i * 2, none⟩) (j - i) (cap - i)]).run Tryz.prog wr = .ok (.tuple #[]) (wr.setCells g (i * 2) us) :=
          fun ty => run.run_clear_two wr 80 83 ty _ _ _ Tryz.underlying80 zero_clu rfl rfl rfl g (i * 2) _ _ (by omega)
            (fun t ht => by rw [hown.cellAt (i * 2 + t) (by omega), List.getElem?_eq_getElem (by rw [cells2_length]; omega)]; rfl) (fun t ht => hown.frozenAt _)
        obtain ⟨us, hcl⟩ := hcl 0
        obtain ⟨ys, ho, htk, hgr⟩ := run.own_setCells us (i * 2) wr (cells2 R) hown
        have hfin := run.own_cut ho (Nat.le_of_lt hij)
        rw [htk (i * 2) (Nat.le_refl _), cells2_take, hR] at hfin
        have hbel3 := run.below_grown hbel hown hgr (Nat.le_refl _) (Nat.le_trans hB hbel.size)
        have HFIN := run.hid hfin
        have HIK := run.hid hi
        clear ho htk hgr hfin hown hRg hi hR hRl HD HDONE HSKIP HKEEP HROW HNEW HS HF hlt hjl
        go_wp2_with (simp only [hcl])
        go_ret
        exact ⟨_, rfl, by rw [← HIK.out]; exact HFIN.out, hbel3⟩
  · rw [if_neg hlt]
    have hkl : kept2 L = L := kept2_all fun i hi => hk.2.1 i (by omega)
    go_wp2
    go_ret
    exact ⟨_, rfl, by rw [hkl]; exact run.own_below HO.out hb1, hBw⟩

end Go.Proofs.YtdgcfmfjgidbjaaGreat.wrp
end
section
namespace Go.Proofs.YtdgcfmfjgidbjaaGreat.wrp
open Go.RowKit Go.Proofs
open Go.Proofs.YtdgcfmfjgidbjaaGreat.wid Go.Proofs.YtdgcfmfjgidbjaaGreat.utf Go.Proofs.YtdgcfmfjgidbjaaGreat.clu
set_option linter.unusedVariables false

/-- the first k characters made blank where they are tabs -/
def bl (X : List Int) (k : Nat) : List Int := (X.take k).map blank1 ++ X.drop k
theorem bl_length (X : List Int) (k : Nat) : (bl X k).length = X.length := by
  unfold bl; rw [List.length_append, List.length_map, ← List.length_append, List.take_append_drop]
theorem bl_get {X : List Int} {k : Nat} (h : k < X.length) : (bl X k).getD k 0 = X.getD k 0 := by
  unfold bl
  have e : ((X.take k).map blank1).length = k := by rw [List.length_map, List.length_take]; omega
  simp only [List.getD_eq_getElem?_getD]
  rw [List.getElem?_append_right (by omega), e, Nat.sub_self, List.getElem?_drop, Nat.add_zero]
theorem bl_next {X : List Int} {k : Nat} (h : k < X.length) : bl X (k + 1) = (bl X k).set k (blank1 (X.getD k 0)) := by
  unfold bl
  have e : ((X.take k).map blank1).length = k := by rw [List.length_map, List.length_take]; omega
  rw [List.set_append_right _ _ (by omega), e, Nat.sub_self, List.drop_eq_getElem_cons h, List.set_cons_zero, List.take_succ_eq_append_getElem h, List.map_append, List.append_assoc]
  simp [List.getD_eq_getElem?_getD, h]
theorem bl_tab {X : List Int} {k : Nat} (h : k < X.length) (h9 : X.getD k 0 = 9) : (bl X k).set k 32 = bl X (k + 1) := by rw [bl_next h, h9]; rfl
theorem bl_else {X : List Int} {k : Nat} (h : k < X.length) (h9 : X.getD k 0 ≠ 9) : bl X k = bl X (k + 1) := by
  rw [bl_next h]
  have e : blank1 (X.getD k 0) = (bl X k).getD k 0 := by rw [bl_get h]; unfold blank1; rw [if_neg h9]
  rw [e]
  apply List.ext_getElem (by simp)
  intro i h1 h2
  rw [List.getElem_set]
  split
  · rename_i hi; subst hi; simp [List.getD_eq_getElem?_getD, h1]
  · rfl
theorem bl_all (X : List Int) : bl X X.length = X.map blank1 := by unfold bl; rw [List.take_of_length_le (Nat.le_refl _), List.drop_length, List.append_nil]

theorem flowText_size (s : ByteArray) : (flowText s).size ≤ 4 * s.size := by
  unfold flowText
  rw [str_size]
  have h1 := (text_length ((kept (runes (bs s))).map blank1)).2
  rw [List.length_map] at h1
  have h2 := kept_len (runes (bs s))
  have h3 := runes_len s
  omega
theorem flow_len (s : ByteArray) : (flow s).length ≤ 4 * s.size := by
  unfold flow
  have h1 := kept2_len (told (flowText s))
  have h2 := told_length (flowText s)
  have h3 := flowText_size s
  omega

set_option maxHeartbeats 2000000 in
theorem flow_any (s : ByteArray) (w : World) (hs : s.size ≤ 68719476736) : Calls Tryz.prog 37 #[.string s] w fun e w' =>
    ∃ v, e = .returned v ∧ w'.ownsRow w.heap.size 83 2 v (flow s).length (cells2 (flow s)) ∧ Below w.heap.size w w' := by
  have hl := runes_len s
  have hk := kept_len (runes (bs s))
  have HR := run.hid (runes_use s w (by omega) (by omega))
  have HD1 := run.hid (fun v w' h1 h2 => delete1_any w.heap.size v (runes (bs s)) w' h1 (by omega) h2)
  have HT := run.hid (fun v w' (h : run.Reads w' v (rv ((kept (runes (bs s))).map blank1))) => text_any v ((kept (runes (bs s))).map blank1) w' h (by rw [List.length_map]; omega))
  have HSP := run.hid (fun w' => split_use (flowText s) w' (by have := flowText_size s; omega))
  have HD2 := run.hid (fun v w' h1 h2 => delete2_any w.heap.size v (told (flowText s)) w' h1 (by have := told_length (flowText s); have := flowText_size s; omega) h2)
  have hft : str (text ((kept (runes (bs s))).map blank1)) = flowText s := rfl
  have hfl : kept2 (told (flowText s)) = flow s := rfl
  rw [hft] at HT
  rw [hfl] at HD2
  generalize flow s = F at *
  generalize told (flowText s) = TF at *
  generalize flowText s = ft at *
  generalize kept (runes (bs s)) = X at *
  have hXl : X.length ≤ s.size := by omega
  have HBL := run.hid (fun k => bl_length X k)
  have HG := run.hid (fun k => @bl_get X k)
  have HTAB := run.hid (fun k => @bl_tab X k)
  have HELSE := run.hid (fun k => @bl_else X k)
  have HALL := run.hid (bl_all X)
  clear hft hfl hk
  go_enter Tryz.func37, Tryz.ntmps37
  go_wp2_with fail
  refine HR.out.mono ?_
  rintro e w1 ⟨v1, rfl, hown, -, hb1, -⟩
  have hc1 := HD1.out v1 w1 hown hb1.size
  have hs1 := hb1.size
  clear hown HD1 HR
  generalize (runes (bs s)).length = RL at *
  go_wp2_with fail
  refine hc1.mono ?_
  rintro e w2 ⟨v2, rfl, hown, hb2⟩
  have hB2 := hb1.trans hb2
  clear hc1 hb1 hb2
  have HO := run.hid hown
  obtain ⟨a, cap, rfl⟩ := run.own_value hown
  have HV : Hid (0 < X.length → ∃ g, a = some ⟨g, 0, none⟩) := fun h0 => by
    rcases HO.out.2 with ⟨h, h0⟩ | ⟨g, cap', cur, h, -⟩
    · omega
    · simp only [Value.slice.injEq] at h; exact ⟨g, h.1⟩
  clear hown
  generalize hN : X.length = N at *
  go_wp2
  go_loopw [13] (fun vk wr => ∃ k : Nat, k ≤ N ∧ vk = .int .i64 k ∧ Hid (wr.ownsRow w.heap.size 21 1 (.slice a N cap) N (rv (bl X k))) ∧ Below w.heap.size w wr) (fun vk _ => (N - intOf vk).toNat)
  case atStart => exact ⟨0, by omega, rfl, HO, hB2⟩
  case round =>
    obtain ⟨k, hk, rfl, HOW, hbel⟩ := hrel
    by_cases hlt : k < N
    · obtain ⟨g, rfl⟩ := HV.out (by omega)
      have hown := HOW.out
      have hc := (hown.cellAt k (by omega)).trans (rv_get (show k < (bl X k).length by rw [HBL.out]; omega))
      rw [HG.out k (by omega)] at hc
      have hf := hown.frozenAt k
      have hst := hown.stored k (.int .i32 32)
      rw [rv_set] at hst
      have hbel2 := run.below_grown hbel hown hst.2 (Nat.le_refl _) hbel.size
      have HST := run.hid hst.1
      have H1 := run.hid (HTAB.out k (by omega))
      have H2 := run.hid (HELSE.out k (by omega))
      have H0 := run.hid hst.1
      generalize X.getD k 0 = x at hc H1 H2
      clear hst hown HTAB HELSE HG HBL
      by_cases h9 : x = 9
      · subst h9
        have HN : Hid ((wr.setCell ⟨g, k, none⟩ (.int .i32 32)).ownsRow w.heap.size 21 1 (.slice (some ⟨g, 0, none⟩) N cap) N (rv (bl X (k + 1)))) := by
          have h := HST.out
          rw [H1.out rfl] at h
          exact h
        clear HST H1 H2 HOW H0
        go_wp2
        go_roundw
        case rel => exact ⟨k + 1, by omega, by go_num, HN, hbel2⟩
        case measure => simp [intOf]; omega
      · have HN : Hid (wr.ownsRow w.heap.size 21 1 (.slice (some ⟨g, 0, none⟩) N cap) N (rv (bl X (k + 1)))) := by
          have h := HOW.out
          rw [H2.out h9] at h
          exact h
        have h9' : (x == 9) = false := beq_eq_false_iff_ne.2 h9
        clear HST H1 H2 HOW H0
        go_wp2
        go_roundw
        case rel => exact ⟨k + 1, by omega, by go_num, HN, hbel⟩
        case measure => simp [intOf]; omega
    · obtain rfl : k = N := by omega
      have hown := HOW.out
      rw [HALL.out] at hown
      have hct := HT.out _ wr (run.reads_own hown)
      clear hown HOW HT hN HTAB HELSE HG HBL HALL HO
      go_wp2_with fail
      refine hct.mono ?_
      rintro e w3 ⟨rfl, hb3⟩
      have hB3 := hbel.trans (hb3.mono hbel.size)
      clear hct hb3
      go_wp2_with fail
      refine (HSP.out _).mono ?_
      rintro e w4 ⟨v4, rfl, hown4, -, hb4⟩
      have hB4 := hB3.trans (hb4.mono hB3.size)
      have hc4 := HD2.out v4 w4 (run.own_mono hown4 hB3.size) hB4.size
      clear hown4 hb4 HSP HD2
      go_wp2_with fail
      refine hc4.mono ?_
      rintro e w5 ⟨v5, rfl, hown5, hb5⟩
      have HF5 := run.hid hown5
      have hB5 := hB4.trans hb5
      clear hown5 hb5 hc4
      go_wp2
      go_ret
      exact ⟨_, rfl, HF5.out, hB5⟩

end Go.Proofs.YtdgcfmfjgidbjaaGreat.wrp
end
