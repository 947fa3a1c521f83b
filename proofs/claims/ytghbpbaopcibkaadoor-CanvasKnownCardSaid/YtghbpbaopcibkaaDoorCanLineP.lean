/-
  Plain: a line that lies on the canvas has one dot in each column of the longer way.
-/
import Derived.Test.YtghbpbaopcibkaaDoorCanCirc
namespace Go.Proofs.YtghbpbaopcibkaaDoor.can
set_option linter.unusedVariables false

theorem stepT_zero (d n : Int) (hn : 0 ≤ n) : stepT d 0 n = 0 := by
  unfold stepT
  have h : (2 * 0 * d + n) / (2 * n) = 0 := by
    rw [Int.mul_zero, Int.zero_mul, Int.zero_add]
    rcases Int.le_total 1 n with h | h
    · exact Int.ediv_eq_zero_of_lt hn (by omega)
    · rcases Int.le_total 1 n with h1 | h1
      · exact Int.ediv_eq_zero_of_lt hn (by omega)
      · by_cases h0 : n = 0
        · subst h0; rfl
        · exact Int.ediv_eq_zero_of_lt hn (by omega)
  have h' : (2 * 0 * -d + n) / (2 * n) = 0 := by
    rw [Int.mul_zero, Int.zero_mul, Int.zero_add] at h ⊢
    exact h
  rw [h, h']
  split <;> rfl
theorem stepT_whole {d n j : Int} (hn : 1 ≤ n) (hj : 0 ≤ j) : (d = n → stepT d j n = j) ∧ (d = -n → stepT d j n = -j) := by
  have h : (2 * j * n + n) / (2 * n) = j := by
    rw [show 2 * j * n + n = (2 * j + 1) * n by rw [Int.add_mul, Int.one_mul], Int.mul_ediv_mul_of_pos_left _ _ (by omega)]
    omega
  refine ⟨fun e => ?_, fun e => ?_⟩
  · rw [e, stepT, if_neg (by omega)]; exact h
  · rw [e, stepT, if_pos (by omega), Int.neg_neg, h]
theorem stepT_next {e n j : Int} (hn : 1 ≤ n) (he : -n ≤ e ∧ e ≤ n) : stepT e (j + 1) n ≤ stepT e j n + 1 ∧ stepT e j n ≤ stepT e (j + 1) n + 1 := by
  have key : ∀ d : Int, 0 ≤ d → d ≤ n → (2 * j * d + n) / (2 * n) ≤ (2 * (j + 1) * d + n) / (2 * n) ∧ (2 * (j + 1) * d + n) / (2 * n) ≤ (2 * j * d + n) / (2 * n) + 1 := by
    intro d h1 h2
    have e1 : 2 * (j + 1) * d + n = 2 * j * d + n + 2 * d := by rw [Int.mul_add, Int.add_mul]; omega
    rw [e1]
    generalize 2 * j * d + n = X
    constructor
    · exact Int.ediv_le_ediv (by omega) (by omega)
    · have h3 : (X + 2 * d) / (2 * n) ≤ (X + 1 * (2 * n)) / (2 * n) := Int.ediv_le_ediv (by omega) (by omega)
      rw [Int.add_mul_ediv_right _ _ (by omega)] at h3
      exact h3
  unfold stepT
  by_cases h : e < 0
  · rw [if_pos h, if_pos h]
    have := key (-e) (by omega) (by omega)
    omega
  · rw [if_neg h, if_neg h]
    have := key e (by omega) (by omega)
    omega

/-- one dot in each column of a stretch, the next one's beside it -/
structure Graph (G : Nat → Nat → Bool) (i0 n : Nat) (f : Nat → Nat) : Prop where
  fits : i0 + n < 40
  low : ∀ i, f i < 40
  iff : ∀ i k, i < 40 → k < 40 → (G i k = true ↔ i0 ≤ i ∧ i ≤ i0 + n ∧ k = f i)
  next : ∀ i, i0 ≤ i → i < i0 + n → f (i + 1) ≤ f i + 1 ∧ f i ≤ f (i + 1) + 1

def onWay (a b d e n : Int) (i k : Int) : Prop := ∃ j : Nat, (j : Int) ≤ n ∧ i = a + stepT d j n ∧ k = b + stepT e j n

theorem way_graph {a b d e : Int} {n : Nat} (hd : d = n ∨ d = -(n : Int)) (he : -(n : Int) ≤ e ∧ e ≤ n) (ha : 0 ≤ a ∧ a < 40) (hb : 0 ≤ b ∧ b < 40) (ha2 : 0 ≤ a + d ∧ a + d < 40) (hb2 : 0 ≤ b + e ∧ b + e < 40)
    (G : Nat → Nat → Bool) (hG : ∀ i k : Nat, i < 40 → k < 40 → (G i k = true ↔ onWay a b d e n i k)) : ∃ i0 f, Graph G i0 n f := by
  have hfb : ∀ j : Nat, j ≤ n → 0 ≤ b + stepT e j n ∧ b + stepT e j n < 40 := by
    intro j hj
    rcases Nat.eq_zero_or_pos n with rfl | hn
    · rw [show j = 0 by omega]
      have := stepT_zero e ((0 : Nat) : Int) (by omega)
      simp only [Int.ofNat_zero] at this
      rw [show ((0 : Nat) : Int) = 0 from rfl, this]; omega
    · obtain ⟨h1, h2⟩ := stepT_abs (d := e) (k := (j : Int)) (n := n) (by omega) (by omega) (by omega)
      rcases Int.le_total 0 e with h | h
      · have := h1 h; omega
      · have := h2 h; omega
  rcases Nat.eq_zero_or_pos n with rfl | hn
  · refine ⟨a.toNat, fun _ => b.toNat, by omega, fun _ => by omega, fun i k hi hk => ?_, fun i h1 h2 => by omega⟩
    rw [hG i k hi hk]
    have z1 := stepT_zero d ((0 : Nat) : Int) (by omega)
    have z2 := stepT_zero e ((0 : Nat) : Int) (by omega)
    constructor
    · rintro ⟨j, hj, h1, h2⟩
      rw [show j = 0 by omega] at h1 h2
      rw [show ((0 : Nat) : Int) = 0 from rfl] at h1 h2 z1 z2
      rw [z1] at h1
      rw [z2] at h2
      omega
    · rintro ⟨h1, h2, h3⟩
      refine ⟨0, by omega, ?_, ?_⟩
      · rw [show ((0 : Nat) : Int) = 0 from rfl] at z1 ⊢; rw [z1]; omega
      · rw [show ((0 : Nat) : Int) = 0 from rfl] at z2 ⊢; rw [z2]; omega
  · have hw := fun j : Nat => stepT_whole (d := d) (n := n) (j := j) (by omega) (by omega)
    -- how far along
    rcases hd with rfl | rfl
    · refine ⟨a.toNat, fun i => if a.toNat ≤ i ∧ i ≤ a.toNat + n then (b + stepT e ((i - a.toNat : Nat) : Int) n).toNat else 0, by omega, fun i => ?_, fun i k hi hk => ?_, fun i h1 h2 => ?_⟩
      · split
        · rename_i h
          have := hfb (i - a.toNat) (by omega)
          omega
        · omega
      · rw [hG i k hi hk]
        constructor
        · rintro ⟨j, hj, h1, h2⟩
          rw [(hw j).1 rfl] at h1
          have hji : j = i - a.toNat := by omega
          refine ⟨by omega, by omega, ?_⟩
          rw [if_pos (by omega), ← hji]; omega
        · rintro ⟨h1, h2, h3⟩
          rw [if_pos ⟨h1, h2⟩] at h3
          have := hfb (i - a.toNat) (by omega)
          exact ⟨i - a.toNat, by omega, by rw [(hw _).1 rfl]; omega, by omega⟩
      · rw [if_pos (by omega), if_pos (by omega)]
        have h3 := stepT_next (e := e) (n := n) (j := ((i - a.toNat : Nat) : Int)) (by omega) he
        have h4 := hfb (i - a.toNat) (by omega)
        have h5 := hfb (i + 1 - a.toNat) (by omega)
        rw [show ((i + 1 - a.toNat : Nat) : Int) = ((i - a.toNat : Nat) : Int) + 1 by omega] at h5 ⊢
        omega
    · refine ⟨(a - n).toNat, fun i => if (a - n).toNat ≤ i ∧ i ≤ (a - n).toNat + n then (b + stepT e ((a.toNat - i : Nat) : Int) n).toNat else 0, by omega, fun i => ?_, fun i k hi hk => ?_, fun i h1 h2 => ?_⟩
      · split
        · rename_i h
          have := hfb (a.toNat - i) (by omega)
          omega
        · omega
      · rw [hG i k hi hk]
        constructor
        · rintro ⟨j, hj, h1, h2⟩
          rw [(hw j).2 rfl] at h1
          have hji : j = a.toNat - i := by omega
          refine ⟨by omega, by omega, ?_⟩
          rw [if_pos (by omega), ← hji]; omega
        · rintro ⟨h1, h2, h3⟩
          rw [if_pos ⟨h1, h2⟩] at h3
          have := hfb (a.toNat - i) (by omega)
          exact ⟨a.toNat - i, by omega, by rw [(hw _).2 rfl]; omega, by omega⟩
      · rw [if_pos (by omega), if_pos (by omega)]
        have h3 := stepT_next (e := e) (n := n) (j := ((a.toNat - (i + 1) : Nat) : Int)) (by omega) he
        have h4 := hfb (a.toNat - (i + 1)) (by omega)
        have h5 := hfb (a.toNat - i) (by omega)
        rw [show ((a.toNat - i : Nat) : Int) = ((a.toNat - (i + 1) : Nat) : Int) + 1 by omega] at h5 ⊢
        omega

theorem mem_line {x0 y0 x1 y1 i k : Int} {n : Nat} (hn : lineN x0 y0 x1 y1 = n) : (i, k) ∈ lineL x0 y0 x1 y1 n ↔ onWay x0 y0 (x1 - x0) (y1 - y0) n i k := by
  unfold lineL onWay
  rw [List.mem_cons, List.mem_map]
  constructor
  · rintro (h | ⟨j, hj, h⟩)
    · obtain ⟨rfl, rfl⟩ := Prod.mk.inj h
      refine ⟨0, by omega, ?_, ?_⟩
      · rw [show ((0 : Nat) : Int) = 0 from rfl, stepT_zero _ _ (by omega)]; omega
      · rw [show ((0 : Nat) : Int) = 0 from rfl, stepT_zero _ _ (by omega)]; omega
    · have hj' : j < n := by simpa using hj
      unfold linePt at h
      rw [hn] at h
      obtain ⟨h1, h2⟩ := Prod.mk.inj h
      exact ⟨j + 1, by omega, h1.symm, h2.symm⟩
  · rintro ⟨j, hj, h1, h2⟩
    rcases Nat.eq_zero_or_pos j with rfl | h0
    · left
      rw [show ((0 : Nat) : Int) = 0 from rfl, stepT_zero _ _ (by omega)] at h1 h2
      rw [h1, h2, Int.add_zero, Int.add_zero]
    · right
      refine ⟨j - 1, by simp; omega, ?_⟩
      unfold linePt
      rw [hn, h1, h2, show j - 1 + 1 = j by omega]

def lineS (a b x y : Int) : Int → Int → Bool := plots (fun _ _ => false) (lineL a b x y (lineN a b x y).toNat)
theorem lineS_mem {a b x y i k : Int} {n : Nat} (hn : lineN a b x y = n) : lineS a b x y i k = true ↔ onWay a b (x - a) (y - b) n i k := by
  unfold lineS
  rw [plots_eq, hn, Int.toNat_natCast, Bool.false_or, decide_eq_true_eq, mem_line hn]
theorem onWay_swap {a b d e n i k : Int} : onWay a b d e n i k ↔ onWay b a e d n k i :=
  ⟨fun ⟨j, h1, h2, h3⟩ => ⟨j, h1, h3, h2⟩, fun ⟨j, h1, h2, h3⟩ => ⟨j, h1, h3, h2⟩⟩

/-- what the law asks of a line -/
theorem line_graph {a b x y : Int} {n : Nat} (hn : lineN a b x y = n) (ha : 0 ≤ a ∧ a < 40) (hb : 0 ≤ b ∧ b < 40) (hx : 0 ≤ x ∧ x < 40) (hy : 0 ≤ y ∧ y < 40) :
    (max (x - a) (a - x) = n → ∃ i0 f, Graph (fun i k => lineS a b x y i k) i0 n f) ∧ (max (x - a) (a - x) ≠ n → ∃ i0 f, Graph (fun i k => lineS a b x y k i) i0 n f) := by
  have hn' := hn
  unfold lineN at hn'
  refine ⟨fun h => ?_, fun h => ?_⟩
  · exact way_graph (a := a) (b := b) (d := x - a) (e := y - b) (by omega) (by omega) ha hb (by omega) (by omega) _ fun i k hi hk => lineS_mem hn
  · exact way_graph (a := b) (b := a) (d := y - b) (e := x - a) (by omega) (by omega) hb ha (by omega) (by omega) _ fun i k hi hk => (lineS_mem hn).trans onWay_swap
theorem line_ends {a b x y : Int} {n : Nat} (hn : lineN a b x y = n) : lineS a b x y a b = true ∧ lineS a b x y x y = true := by
  have hn' := hn
  unfold lineN at hn'
  refine ⟨(lineS_mem hn).2 ⟨0, by omega, ?_, ?_⟩, (lineS_mem hn).2 ⟨n, by omega, ?_, ?_⟩⟩
  · rw [show ((0 : Nat) : Int) = 0 from rfl, stepT_zero _ _ (by omega)]; omega
  · rw [show ((0 : Nat) : Int) = 0 from rfl, stepT_zero _ _ (by omega)]; omega
  all_goals
    rcases Nat.eq_zero_or_pos n with rfl | h0
    · rw [show ((0 : Nat) : Int) = 0 from rfl, stepT_zero _ _ (by omega)]; omega
    · have key : ∀ d : Int, -(n : Int) ≤ d → d ≤ n → stepT d n n = d := by
        intro d h1 h2
        have k : ∀ d : Int, 0 ≤ d → (2 * (n : Int) * d + n) / (2 * n) = d := by
          intro d hd
          rw [show 2 * (n : Int) * d + n = n + d * (2 * n) by rw [Int.mul_comm d]; omega, Int.add_mul_ediv_right _ _ (by omega), Int.ediv_eq_zero_of_lt (by omega) (by omega)]
          omega
        unfold stepT
        split
        · rw [k _ (by omega)]; omega
        · exact k _ (by omega)
      rw [key _ (by omega) (by omega)]; omega

/-- how many -/
def countG (G : Nat → Nat → Bool) (i k : Nat) : Nat := ((List.range i).map fun a => ((List.range 40).filter fun b => G a b).length).sum + ((List.range k).filter fun b => G i b).length
theorem countG_in (G : Nat → Nat → Bool) (i k : Nat) : countG G i (k + 1) = countG G i k + if G i k then 1 else 0 := by
  unfold countG
  rw [List.range_succ (n := k), List.filter_append, List.length_append]
  simp only [List.filter_cons, List.filter_nil]
  split <;> simp <;> omega
theorem countG_out (G : Nat → Nat → Bool) (i : Nat) : countG G (i + 1) 0 = countG G i 40 := by
  unfold countG
  rw [List.range_succ (n := i), List.map_append, List.sum_append]
  simp
theorem filter_one {p : Nat → Bool} {v : Nat} : ∀ {m : Nat}, (∀ k, k < m → (p k = true ↔ k = v)) → ((List.range m).filter p).length = if v < m then 1 else 0
  | 0, _ => by simp
  | m + 1, h => by
    rw [List.range_succ, List.filter_append, List.length_append, filter_one (m := m) (fun k hk => h k (by omega))]
    have := h m (by omega)
    by_cases hv : m = v
    · subst hv
      simp [this]
    · have hp : p m = false := Bool.eq_false_iff.2 fun hc => hv (this.1 hc)
      rw [show ([m].filter p).length = 0 by simp [hp]]
      by_cases h1 : v < m
      · rw [if_pos h1, if_pos (by omega)]
      · rw [if_neg h1, if_neg (by omega)]
theorem sum_stretch (i0 n : Nat) : ∀ m, ((List.range m).map fun i => if i0 ≤ i ∧ i ≤ i0 + n then 1 else 0).sum = min m (i0 + n + 1) - i0
  | 0 => by simp
  | m + 1 => by
    rw [List.range_succ, List.map_append, List.sum_append, sum_stretch i0 n m]
    simp only [List.map_cons, List.map_nil, List.sum_cons, List.sum_nil]
    split <;> omega
theorem graph_count {G : Nat → Nat → Bool} {i0 n : Nat} {f : Nat → Nat} (h : Graph G i0 n f) : countG G 40 0 = n + 1 := by
  unfold countG
  rw [List.range_zero, List.filter_nil, List.length_nil, Nat.add_zero]
  have e : (List.range 40).map (fun a => ((List.range 40).filter fun b => G a b).length) = (List.range 40).map fun i => if i0 ≤ i ∧ i ≤ i0 + n then 1 else 0 := by
    apply List.map_congr_left
    intro i hi
    have hi' : i < 40 := by simpa using hi
    by_cases hin : i0 ≤ i ∧ i ≤ i0 + n
    · rw [if_pos hin, filter_one (v := f i) (fun k hk => by rw [h.iff i k hi' hk]; exact ⟨fun x => x.2.2, fun x => ⟨hin.1, hin.2, x⟩⟩), if_pos (h.low i)]
    · rw [if_neg hin, List.length_eq_zero_iff, List.filter_eq_nil_iff]
      intro k hk
      have hk' : k < 40 := by simpa using hk
      rw [h.iff i k hi' hk']
      exact fun x => hin ⟨x.1, x.2.1⟩
  rw [e, sum_stretch]
  have := h.fits
  omega
theorem filter_len (p : Nat → Bool) (m : Nat) : ((List.range m).filter p).length = ((List.range m).map fun b => if p b then 1 else 0).sum := by
  induction m with
  | zero => rfl
  | succ m ih =>
    rw [List.range_succ, List.filter_append, List.length_append, List.map_append, List.sum_append, ih]
    simp only [List.filter_cons, List.filter_nil, List.map_cons, List.map_nil, List.sum_cons, List.sum_nil]
    split <;> simp
theorem sum_add (f g : Nat → Nat) (m : Nat) : ((List.range m).map fun b => f b + g b).sum = ((List.range m).map f).sum + ((List.range m).map g).sum := by
  induction m with
  | zero => rfl
  | succ m ih =>
    simp only [List.range_succ, List.map_append, List.sum_append, List.map_cons, List.map_nil, List.sum_cons, List.sum_nil, ih]; omega
theorem sum_swap (g : Nat → Nat → Nat) (m l : Nat) : ((List.range m).map fun a => ((List.range l).map fun b => g a b).sum).sum = ((List.range l).map fun b => ((List.range m).map fun a => g a b).sum).sum := by
  induction m with
  | zero =>
    have : ∀ l : List Nat, (l.map fun _ => 0).sum = 0 := by intro l; induction l with
      | nil => rfl
      | cons a l ih => rw [List.map_cons, List.sum_cons, ih]
    simp [this]
  | succ m ih =>
    simp only [List.range_succ, List.map_append, List.sum_append, List.map_cons, List.map_nil, List.sum_cons, List.sum_nil, ih, Nat.add_zero, sum_add]
theorem count_swap (G : Nat → Nat → Bool) : countG (fun i k => G k i) 40 0 = countG G 40 0 := by
  unfold countG
  simp only [List.range_zero, List.filter_nil, List.length_nil, Nat.add_zero, filter_len]
  exact sum_swap _ _ _
end Go.Proofs.YtghbpbaopcibkaaDoor.can
