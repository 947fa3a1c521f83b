/-
  The walks of the layer width: the search in a table, the class of a number, how many cells it takes; the program's and the document's.
-/
import Derived.Test.YtgpgbbbcodnieaaWidTold
import Derived.Deep.QuietTactic
import Derived.BigQuiet
namespace Go.Proofs.Ytgpgbbbcodnieaa.wid
open Go.RowKit Go.Proofs

/-- the cells of a table of pairs lie at block b -/
def HasTab (w : World) (b : Nat) (l : List (Int × Int)) : Prop :=
  ∀ i, i < l.length → w.cell? ⟨b, i * 2, none⟩ = some (.int .i32 (l.getD i (0, 0)).1) ∧ w.cell? ⟨b, i * 2 + 1, none⟩ = some (.int .i32 (l.getD i (0, 0)).2)

theorem flat_get : ∀ (l : List (Int × Int)) (i : Nat), i < l.length → (flat l)[i * 2]? = some (.int .i32 (l.getD i (0, 0)).1) ∧ (flat l)[i * 2 + 1]? = some (.int .i32 (l.getD i (0, 0)).2)
  | [], i, h => by simp at h
  | p :: l, 0, _ => by simp [flat]
  | p :: l, i + 1, h => by
    have := flat_get l i (by simpa using h)
    have e1 : (i + 1) * 2 = i * 2 + 1 + 1 := by omega
    simp only [flat, List.flatMap_cons, List.cons_append, List.nil_append] at this ⊢
    rw [e1]
    simpa using this

theorem hasTab_new (w : World) (l : List (Int × Int)) (t : TypeId) : HasTab (w.alloc (.cells (flat l).toArray t)) w.heap.size l := by
  intro i hi
  have := flat_get l i hi
  have hh : (w.alloc (.cells (flat l).toArray t)).heap[w.heap.size]? = some (.cells (flat l).toArray t) := by
    show (w.heap.push _)[w.heap.size]? = _
    simp
  constructor
  · simp only [World.cell?]; rw [hh]; simpa using this.1
  · simp only [World.cell?]; rw [hh]; simpa using this.2

theorem HasTab.below {w w' : World} {b B : Nat} {l : List (Int × Int)} (h : HasTab w b l) (hb : Below B w w') (hlt : b < B) : HasTab w' b l := by
  intro i hi
  exact ⟨(hb.cell (p := ⟨b, i * 2, none⟩) hlt).trans (h i hi).1, (hb.cell (p := ⟨b, i * 2 + 1, none⟩) hlt).trans (h i hi).2⟩

set_option maxHeartbeats 400000 in
theorem pred_any (r x : Int) (w : World) (a b c n i : Nat) (hi : i < n) (_hn : n < 1000)
    (h1 : w.cell? ⟨a, 0, none⟩ = some (.slice (some ⟨b, 0, none⟩) n n)) (h2 : w.cell? ⟨c, 0, none⟩ = some (.int .i32 r)) (h3 : w.cell? ⟨b, i * 2 + 1, none⟩ = some (.int .i32 x)) :
    Calls Try.prog 74 #[.int .i64 i, .pointer (some ⟨a, 0, none⟩), .pointer (some ⟨c, 0, none⟩)] w fun e w' => e = .returned (.bool (decide (r ≤ x))) ∧ Below w.heap.size w w' := by
  go_enter Try.func74, Try.ntmps74
  go_wp2
  go_quiet (fail)
  go_wp2
  go_ret
  exact ⟨rfl, below_drewN (Below.refl _ _) _⟩

/-- THE LIBRARY's SEARCH AT A CLOSURE: the closure answers p, which is monotone. -/
def IsFirst (p : Nat → Bool) (n k : Nat) : Prop := k ≤ n ∧ (∀ j, j < k → p j = false) ∧ (k < n → p k = true)

def Mono (p : Nat → Bool) (n : Nat) : Prop := ∀ i j, i ≤ j → j < n → p i = true → p j = true

theorem half (i j : Nat) (h : i < j) (_hj : j < 1000) : i ≤ (i + j) / 2 ∧ (i + j) / 2 < j := by omega

def Post (p : Nat → Bool) (n : Nat) (w : World) (e : Ending) (w' : World) : Prop := ∃ k : Nat, e = .returned (.int .i64 k) ∧ IsFirst p n k ∧ Below w.heap.size w w'

theorem first_start (p : Nat → Bool) (n : Nat) : (∀ k, k < 0 → p k = false) ∧ (n < n → p n = true) := ⟨by intro k hk; omega, by intro h; omega⟩
theorem first_low {p : Nat → Bool} {n a b : Nat} (hm : Mono p n) (h : (∀ k, k < a → p k = false) ∧ (b < n → p b = true)) (hp : p ((a + b) / 2) = false) (hlt : (a + b) / 2 < n) :
    (∀ k, k < (a + b) / 2 + 1 → p k = false) ∧ (b < n → p b = true) := by
  refine ⟨fun k hk => ?_, h.2⟩
  cases e : p k with
  | false => rfl
  | true => have := hm k ((a + b) / 2) (by omega) hlt e; rw [hp] at this; cases this
theorem first_up {p : Nat → Bool} {n a b : Nat} (h : (∀ k, k < a → p k = false) ∧ (b < n → p b = true)) (hp : p ((a + b) / 2) = true) :
    (∀ k, k < a → p k = false) ∧ ((a + b) / 2 < n → p ((a + b) / 2) = true) := ⟨h.1, fun _ => hp⟩
theorem first_end {p : Nat → Bool} {n a b : Nat} (hbn : b ≤ n) (h : (∀ k, k < a → p k = false) ∧ (b < n → p b = true)) (hab : a ≤ b) (hnot : ¬ a < b) : IsFirst p n a := by
  obtain rfl : a = b := by omega
  exact ⟨hbn, h.1, h.2⟩

set_option maxHeartbeats 1000000 in
theorem search_any (x y : Value) (p : Nat → Bool) (n : Nat) (w : World) (hn : n < 1000) (hmono : Mono p n)
    (hcl : ∀ (k : Nat) (w1 : World), k < n → Below w.heap.size w w1 → Calls Try.prog 74 #[.int .i64 k, x, y] w1 fun e w' => e = .returned (.bool (p k)) ∧ Below w1.heap.size w1 w') :
    Calls Try.prog 73 #[.int .i64 n, .func (.func 74) #[] #[x, y]] w (Post p n w) := by
  have HC := run.hid hcl
  have HM := run.hid hmono
  clear hcl hmono
  go_enter Try.func73, Try.ntmps73
  go_wp2
  go_loopw [5, 6] (fun i j wr => ∃ a b : Nat, a ≤ b ∧ b ≤ n ∧ i = .int .i64 a ∧ j = .int .i64 b ∧ Below w.heap.size w wr ∧ Hid ((∀ k, k < a → p k = false) ∧ (b < n → p b = true))) (fun i j _ => (intOf j - intOf i).toNat)
  case atStart => exact ⟨0, n, by omega, by omega, rfl, rfl, Below.refl _ _, run.hid (first_start p n)⟩
  case round =>
    obtain ⟨a, b, hab, hbn, rfl, rfl, hbel, HI⟩ := hrel
    by_cases hlt : a < b
    · have hm := half a b hlt (by omega)
      cases hp : p ((a + b) / 2) with
      | false =>
        have HP := run.hid hp
        clear hp
        go_wp2_with fail
        rw [show ((a : Int) + b) / 2 = (((a + b) / 2 : Nat) : Int) from by omega]
        refine (HC.out ((a + b) / 2) wr (by omega) hbel).mono ?_
        rw [HP.out]
        rintro e w1 ⟨rfl, hb1⟩
        have hb2 := hbel.trans (hb1.mono hbel.size)
        go_wp2
        go_roundw
        case rel => exact ⟨(a + b) / 2 + 1, b, by omega, hbn, by go_num, rfl, hb2, run.hid (first_low HM.out HI.out HP.out (by omega))⟩
        case measure => simp [intOf]; omega
      | true =>
        have HP := run.hid hp
        clear hp
        go_wp2_with fail
        rw [show ((a : Int) + b) / 2 = (((a + b) / 2 : Nat) : Int) from by omega]
        refine (HC.out ((a + b) / 2) wr (by omega) hbel).mono ?_
        rw [HP.out]
        rintro e w1 ⟨rfl, hb1⟩
        have hb2 := hbel.trans (hb1.mono hbel.size)
        go_wp2
        go_roundw
        case rel => exact ⟨a, (a + b) / 2, by omega, by omega, rfl, by go_num, hb2, run.hid (first_up HI.out HP.out)⟩
        case measure => simp [intOf]; omega
    · go_wp2
      go_ret
      exact ⟨a, rfl, first_end hbn HI.out hab hlt, hbel⟩

def predOf (l : List (Int × Int)) (r : Int) (k : Nat) : Bool := decide (r ≤ (l.getD k (0, 0)).2)
theorem pred_mono (l : List (Int × Int)) (h : rises l = true) (r : Int) : Mono (predOf l r) l.length := by
  intro i j hij hj hp
  simp only [predOf, decide_eq_true_eq] at hp ⊢
  by_cases e : i = j
  · subst e; exact hp
  · have := rises_mono l h i j (by omega) hj; omega
theorem first_hit {l : List (Int × Int)} (h : rises l = true) {r : Int} {k : Nat} (hk : IsFirst (predOf l r) l.length k) :
    hit l r = (decide (k < l.length) && decide ((l.getD k (0, 0)).1 ≤ r)) :=
  hit_of_first l h r k hk.1 (fun j hj => by have := hk.2.1 j hj; simpa [predOf] using this) (fun hlt => by have := hk.2.2 hlt; simpa [predOf] using this)

set_option maxHeartbeats 1000000 in
theorem within_any (l : List (Int × Int)) (r : Int) (b : Nat) (w : World) (hr : rises l = true) (hl : l.length < 1000) (htab : HasTab w b l) (hb : b < w.heap.size) :
    Calls Try.prog 69 #[.slice (some ⟨b, 0, none⟩) l.length l.length, .int .i32 r] w fun e w' => e = .returned (.bool (hit l r)) ∧ Below w.heap.size w w' := by
  have HT := run.hid htab
  have HR := run.hid hr
  clear htab hr
  go_enter Try.func69, Try.ntmps69
  go_wp2_with fail
  have c2 := run.cells_two w (Value.slice (some { block := b, off := 0 }) l.length l.length) (Value.int IntKind.i32 r) 124 21
  have bel := run.below_two w (Obj.cells #[Value.slice (some { block := b, off := 0 }) l.length l.length] 124) (Obj.cells #[Value.int IntKind.i32 r] 21)
  have hsz := run.size_two w (Obj.cells #[Value.slice (some { block := b, off := 0 }) l.length l.length] 124) (Obj.cells #[Value.int IntKind.i32 r] 21)
  generalize ((w.alloc (Obj.cells #[Value.slice (some { block := b, off := 0 }) l.length l.length] 124)).alloc (Obj.cells #[Value.int IntKind.i32 r] 21)) = W at *
  obtain ⟨ca, cr⟩ := c2
  refine (search_any _ _ (predOf l r) l.length W hl (pred_mono l HR.out r) ?_).mono ?_
  · intro k w1 hk hb1
    have ht1 := HT.out.below (bel.trans (hb1.mono (by omega))) hb
    exact pred_any r _ w1 _ b _ l.length k hk hl ((hb1.cell (p := ⟨w.heap.size, 0, none⟩) (by show w.heap.size < _; omega)).trans ca) ((hb1.cell (p := ⟨w.heap.size + 1, 0, none⟩) (by show w.heap.size + 1 < _; omega)).trans cr) (ht1 k hk).2
  · rintro e w1 ⟨k, rfl, hk, hb1⟩
    have hfin := run.hid (first_hit HR.out hk)
    have bel1 := bel.trans (hb1.mono (by omega))
    have ht1 := HT.out.below bel1 hb
    have ca1 := (hb1.cell (p := ⟨w.heap.size, 0, none⟩) (by show w.heap.size < _; omega)).trans ca
    have cr1 := (hb1.cell (p := ⟨w.heap.size + 1, 0, none⟩) (by show w.heap.size + 1 < _; omega)).trans cr
    clear ca cr hsz bel hb1
    have hkn := hk.1
    clear hk
    by_cases hlt : k < l.length
    · have c1 := (ht1 k hlt).1
      clear ht1
      rw [decide_eq_true hlt, Bool.true_and] at hfin
      have hd : decide ((k : Int) < (l.length : Int)) = true := by simpa using hlt
      go_wp2
      go_quiet (fail)
      go_wp2
      go_ret
      refine ⟨?_, below_drewN bel1 _⟩
      rw [hfin.out, getD_lt _ hlt]; rfl
    · clear ht1
      have hd : decide ((k : Int) < (l.length : Int)) = false := by simpa using hlt
      go_wp2
      go_quiet (fail)
      go_wp2
      go_ret
      refine ⟨?_, below_drewN bel1 _⟩
      rw [hfin.out]; simp [hlt]

theorem told_tab (c : Nat) (h : c ≤ 8) (w : World) : Calls Try.prog 70 #[.int .i8 c] w fun e w' =>
    e = .returned (.slice (some ⟨w.heap.size, 0, none⟩) (tab c).length (tab c).length) ∧ HasTab w' w.heap.size (tab c) ∧ w.heap.size < w'.heap.size ∧ Below w.heap.size w w' :=
  (told_any c h w).mono fun _ _ ⟨he, hw⟩ => ⟨he, hw ▸ hasTab_new w (tab c) _, by rw [hw]; simp, by rw [hw]; exact run.below_one _ _⟩

theorem tab_len (c : Nat) : (tab c).length < 1000 := by
  match c with
  | 0 | 1 | 2 | 3 | 4 | 5 | 6 | 7 | 8 => decide
  | n + 9 => simp [tab]

theorem first_of {r : Int} {c : Nat} (hc : c < 9) (hno : ∀ d, d < c → hit (tab d) r = false) (h : hit (tab c) r = true) : firstKind r 0 9 = c := by
  have : ∀ k, k ≤ c → firstKind r k (9 - k) = c := by
    intro k hk
    induction hd : c - k generalizing k with
    | zero =>
      obtain rfl : k = c := by omega
      obtain ⟨m, hm⟩ : ∃ m, 9 - k = m + 1 := ⟨9 - k - 1, by omega⟩
      rw [hm, firstKind_hit h]
    | succ d ih =>
      obtain ⟨m, hm⟩ : ∃ m, 9 - k = m + 1 := ⟨9 - k - 1, by omega⟩
      rw [hm, firstKind_miss (hno k (by omega)), show m = 9 - (k + 1) by omega]
      exact ih (k + 1) (by omega) (by omega)
  exact this 0 (by omega)
theorem first_none {r : Int} (hno : ∀ d, d < 9 → hit (tab d) r = false) : firstKind r 0 9 = 9 := by
  have : ∀ n k, k + n = 9 → firstKind r k n = 9 := by
    intro n
    induction n with
    | zero => intro k _; rfl
    | succ n ih => intro k hk; rw [firstKind_miss (hno k (by omega))]; exact ih (k + 1) (by omega)
  exact this 9 0 rfl
theorem none_below (r : Int) : ∀ d, d < 0 → hit (tab d) r = false := by intro d hd; omega
theorem none_next {r : Int} {c : Nat} (hno : ∀ d, d < c → hit (tab d) r = false) (h : hit (tab c) r = false) : ∀ d, d < c + 1 → hit (tab d) r = false := by
  intro d hd
  by_cases e : d = c
  · subst e; exact h
  · exact hno d (by omega)
theorem kind_in {r : Int} (h0 : 0 ≤ r) (h1 : r ≤ 0x10ffff) {c : Nat} (h : firstKind r 0 9 = c) : kind r = c := by unfold kind; rw [if_neg (by omega), h]
theorem kind_out {r : Int} (h : r < 0 ∨ 0x10ffff < r) : kind r = 0 := by unfold kind; rw [if_pos h]

theorem ret_eq {v v' : Value} (h : v = v') : Ending.returned v = Ending.returned v' := by rw [h]
theorem i8_eq {a b : Nat} (h : a = b) : Value.int .i8 a = Value.int .i8 b := by rw [h]

set_option maxHeartbeats 1000000 in
theorem kind_any (r : Int) (w : World) :
    Calls Try.prog 62 #[.int .i32 r] w fun e w' => e = .returned (.int .i8 (kind r)) ∧ Below w.heap.size w w' := by
  by_cases hneg : r < 0
  · have hk := run.hid (kind_out (.inl hneg))
    go_enter Try.func62, Try.ntmps62
    go_wp2
    go_ret
    exact ⟨ret_eq (i8_eq hk.out.symm), Below.refl _ _⟩
  by_cases hbig : 0x10ffff < r
  · have hk := run.hid (kind_out (.inr hbig))
    go_enter Try.func62, Try.ntmps62
    go_wp2
    go_ret
    exact ⟨ret_eq (i8_eq hk.out.symm), Below.refl _ _⟩
  have hk := run.hid (fun c => @kind_in r (by omega) (by omega) c)
  go_enter Try.func62, Try.ntmps62
  go_wp2
  go_loopw [10] (fun i wr => ∃ c : Nat, c ≤ 9 ∧ i = .int .i8 c ∧ Below w.heap.size w wr ∧ Hid (∀ d, d < c → hit (tab d) r = false)) (fun i _ => (9 - intOf i).toNat)
  case atStart => exact ⟨0, by omega, rfl, Below.refl _ _, run.hid (none_below r)⟩
  case round =>
    obtain ⟨c, hc9, rfl, hbel, HN⟩ := hrel
    by_cases hc : c < 9
    · go_wp2_with fail
      refine (told_tab c (by omega) wr).mono ?_
      rintro e w1 ⟨rfl, htab, hlt, hb1⟩
      have hb2 := hbel.trans (hb1.mono hbel.size)
      go_wp2_with fail
      refine (within_any (tab c) r wr.heap.size w1 (tab_rises c) (tab_len c) htab hlt).mono ?_
      rintro e w2 ⟨rfl, hb3⟩
      have hb4 := hb2.trans (hb3.mono hb2.size)
      clear htab hb1 hb2 hb3 hlt
      cases hh : hit (tab c) r with
      | true =>
        have hf := run.hid (hk.out c (first_of hc HN.out hh))
        clear hh
        go_wp2
        go_ret
        exact ⟨ret_eq (i8_eq hf.out.symm), hb4⟩
      | false =>
        have hf := run.hid (none_next HN.out hh)
        clear hh
        go_wp2
        go_roundw
        case rel => exact ⟨c + 1, by omega, by go_num, hb4, hf⟩
        case measure => simp [intOf]; omega
    · obtain rfl : c = 9 := by omega
      have hf := run.hid (hk.out 9 (first_none HN.out))
      go_wp2
      go_ret
      exact ⟨ret_eq (i8_eq hf.out.symm), hbel⟩

end Go.Proofs.Ytgpgbbbcodnieaa.wid
