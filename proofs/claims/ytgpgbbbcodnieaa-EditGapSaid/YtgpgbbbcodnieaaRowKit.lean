/-
  Small facts on rows that a call owns, and on slices that are only read.
-/
import Derived.Test.YtgpgbbbcodnieaaRun
import Derived.WalkSpells
namespace Go.Proofs.Ytgpgbbbcodnieaa.run
open Go Go.RowKit

/-- a slice value of n elements that leads to the cells xs (one cell each), in memory of whatever make -/
def Reads (w : World) (v : Value) (xs : List Value) : Prop :=
  ∃ a cap, v = .slice a xs.length cap ∧ (xs ≠ [] → ∃ b off, a = some ⟨b, off, none⟩ ∧ b < w.heap.size ∧ ∀ i u, xs[i]? = some u → w.cell? ⟨b, off + i, none⟩ = some u) ∧ (a = none → cap = 0)

theorem lt_of_cell {w : World} {b i : Nat} {u : Value} (h : w.cell? ⟨b, i, none⟩ = some u) : b < w.heap.size := by
  rcases Nat.lt_or_ge b w.heap.size with h1 | h1
  · exact h1
  · simp [World.cell?, Array.getElem?_eq_none h1] at h

theorem reads_own {w : World} {base e n : Nat} {v : Value} {xs : List Value} (h : w.ownsRow base e 1 v n xs) : Reads w v xs := by
  obtain ⟨hl, h⟩ := h
  have hn : n = xs.length := by omega
  subst hn
  rcases h with ⟨rfl, h0⟩ | ⟨g, cap, cur, rfl, hb, hh, h1, h2, h3, h4⟩
  · have : xs = [] := List.length_eq_zero_iff.1 h0
    subst this
    exact ⟨none, 0, rfl, fun h => absurd rfl h, fun _ => rfl⟩
  · refine ⟨some ⟨g, 0, none⟩, cap, rfl, fun _ => ⟨g, 0, rfl, ?_, ?_⟩, fun h => by cases h⟩
    · rcases Nat.lt_or_ge g w.heap.size with h5 | h5
      · exact h5
      · simp [Array.getElem?_eq_none h5] at hh
    · intro i u hi
      have hi2 : i < xs.length := by
        rcases Nat.lt_or_ge i xs.length with h5 | h5
        · exact h5
        · simp [List.getElem?_eq_none h5] at hi
      rw [← h4] at hi
      simp only [World.cell?, Nat.zero_add]
      rw [hh]
      rw [List.getElem?_take_of_lt (by omega)] at hi
      simpa using hi
theorem Reads.below {w w' : World} {v : Value} {xs : List Value} (h : Reads w v xs) (hb : Below w.heap.size w w') : Reads w' v xs := by
  obtain ⟨a, cap, rfl, h, h0⟩ := h
  refine ⟨a, cap, rfl, fun hn => ?_, h0⟩
  obtain ⟨b, off, rfl, hlt, hc⟩ := h hn
  exact ⟨b, off, rfl, Nat.lt_of_lt_of_le hlt hb.size, fun i u hi => (hb.cell (p := ⟨b, off + i, none⟩) hlt).trans (hc i u hi)⟩

/-- a row that is owned from base on stays owned behind a call that leaves alone what was there -/
theorem own_below {w w' : World} {base e size n : Nat} {v : Value} {xs : List Value} (h : w.ownsRow base e size v n xs) (hb : Below w.heap.size w w') : w'.ownsRow base e size v n xs := by
  obtain ⟨hl, h⟩ := h
  refine ⟨hl, ?_⟩
  rcases h with h | ⟨g, cap, cur, hv, hg, hh, r⟩
  · exact .inl h
  · have hlt : g < w.heap.size := by
      rcases Nat.lt_or_ge g w.heap.size with h5 | h5
      · exact h5
      · simp [Array.getElem?_eq_none h5] at hh
    exact .inr ⟨g, cap, cur, hv, hg, (hb.block g hlt).trans hh, r⟩

theorem own_mono {w : World} {base base' e size n : Nat} {v : Value} {xs : List Value} (h : w.ownsRow base e size v n xs) (hb : base' ≤ base) : w.ownsRow base' e size v n xs := by
  obtain ⟨hl, h⟩ := h
  refine ⟨hl, ?_⟩
  rcases h with h | ⟨g, cap, cur, hv, hg, r⟩
  · exact .inl h
  · exact .inr ⟨g, cap, cur, hv, Nat.le_trans hb hg, r⟩

/-- behind an append onto an owned row -/
theorem below_append {B : Nat} {w0 w w' : World} {v : Value} {e size n : Nat} {xs : List Value} (h : Below B w0 w) (hown : w.ownsRow B e size v n xs) (hg : w.grownBy w' v.ownBlock) (hB : B ≤ w.heap.size) : Below B w0 w' :=
  h.grown hg hB fun k hk => (hown.lt k hk).1

theorem own_value {w : World} {base e size n : Nat} {v : Value} {xs : List Value} (h : w.ownsRow base e size v n xs) : ∃ a cap, v = .slice a n cap := by
  obtain ⟨hl, h⟩ := h
  rcases h with ⟨rfl, rfl⟩ | ⟨g, cap, cur, rfl, _⟩
  · exact ⟨none, 0, rfl⟩
  · exact ⟨_, cap, rfl⟩

/-- one value laid as a list of one cell -/
theorem news_one (w : World) (x : Value) (t : TypeId) : ∀ j u, [x][j]? = some u → (w.alloc (.cells #[x] t)).cell? ((⟨w.heap.size, 0, none⟩ : Addr).add j) = some u := by
  intro j u hj
  match j, hj with
  | 0, hj => simp at hj; subst hj; exact cell_new w x t

/-- a slice value of n elements of 'size' cells each that leads to the cells xs -/
def ReadsN (size : Nat) (w : World) (v : Value) (n : Nat) (xs : List Value) : Prop :=
  xs.length = n * size ∧ ∃ a cap, v = .slice a n cap ∧ (xs ≠ [] → ∃ b off, a = some ⟨b, off, none⟩ ∧ b < w.heap.size ∧ ∀ i u, xs[i]? = some u → w.cell? ⟨b, off + i, none⟩ = some u) ∧ (a = none → cap = 0)

theorem Reads.n {w : World} {v : Value} {xs : List Value} (h : Reads w v xs) : ReadsN 1 w v xs.length xs := ⟨by simp, h⟩
theorem ReadsN.one {w : World} {v : Value} {n : Nat} {xs : List Value} (h : ReadsN 1 w v n xs) : Reads w v xs := by
  obtain ⟨h1, h2⟩ := h
  obtain rfl : n = xs.length := by omega
  exact h2

theorem add_none (b off i : Nat) : (⟨b, off, none⟩ : Addr).add i = ⟨b, off + i, none⟩ := by
  unfold Addr.add
  split
  · rename_i h; subst h; rfl
  · rfl

/-- how the value behind an append stands to the one ahead of it: the same row, or none that was there -/
def Step (w : World) (v : Value) (n : Nat) (v' : Value) (n' : Nat) : Prop :=
  (∃ g cap, v = .slice (some ⟨g, 0, none⟩) n cap ∧ v' = .slice (some ⟨g, 0, none⟩) n' cap) ∨ (∀ k, v'.ownBlock = some k → w.heap.size ≤ k)

/-- APPEND onto an owned row, the source whatever reads: the new value owns both; the old one still owns its own; nothing else that was there has turned. -/
theorem run_append_any {P : Program} (w : World) (base : Nat) (t ty e : TypeId) (i : TypeInfo) (z : Value) (size bytes : Nat) (ht : P.underlying t = some (.slice e)) (hi : P.info? e = some i) (hz : i.zero = some z)
    (hsize : i.size = size) (hby : i.bytes = bytes) (hzs : z.cells.size = size) (hsz : 0 < size)
    (v : Value) (n : Nat) (xs : List Value) (hown : w.ownsRow base e size v n xs)
    (x : Value) (m : Nat) (news : List Value) (hx : ReadsN size w x m news) (h1 : ∀ u ∈ news, u.oneCell' = true)
    (h63 : n + m ≤ maxLen) (hbytes : (n + m) * bytes ≤ 140737488355328) (hbase : base ≤ w.heap.size) :
    ∃ v' w', (Builtin.append_ #[t, t] ty #[v, x]).run P w = .ok v' w' ∧ w'.ownsRow base e size v' (n + m) (xs ++ news) ∧ w.grownBy w' v.ownBlock ∧ w'.ownsRow base e size v n xs ∧ Step w v n v' (n + m) := by
  obtain ⟨hl, a, c, rfl, hc, h0⟩ := hx
  have hnil : ∀ (ad : Addr), a = some ad → ∀ j u, news[j]? = some u → w.cell? (ad.add j) = some u := by
    intro ad had j u hj
    have hne : news ≠ [] := by intro e; subst e; simp at hj
    obtain ⟨b, off, hb, _, hcell⟩ := hc hne
    rw [had] at hb
    simp only [Option.some.injEq] at hb
    subst hb
    rw [add_none]
    exact hcell j u hj
  cases a with
  | none =>
    have hn : news = [] := by
      rcases Classical.em (news = []) with h | h
      · exact h
      · obtain ⟨b, off, hb, _⟩ := hc h; cases hb
    subst hn
    have hm : m = 0 := by
      simp only [List.length_nil] at hl
      rcases Nat.eq_zero_or_pos m with h | h
      · exact h
      · have := Nat.mul_pos h hsz; omega
    subst hm
    rw [h0 rfl]
    exact ⟨v, w, run_append_owned_none (P := P) w base t ty e i size ht hi v n xs hown, by simpa using hown, World.grownBy.refl w _, hown, by
      rcases hown.2 with ⟨rfl, _⟩ | ⟨g, cap, cur, rfl, _⟩
      · exact .inr (by intro k hk; simp [Value.ownBlock] at hk)
      · exact .inl ⟨g, cap, rfl, rfl⟩⟩
  | some ad =>
    obtain ⟨v', w', hr, h2, h3, h4⟩ := run_append_own (P := P) w base t ty e i z size bytes ht hi hz hsize hby hzs hsz v n xs hown ad m c news hl (hnil ad rfl) h1 h63 hbytes hbase
    refine ⟨v', w', hr, h2, h3, ?_⟩
    obtain ⟨hxl, hcase⟩ := hown
    rcases hcase with ⟨rfl, rfl⟩ | ⟨g, cap, cur, rfl, hbg, hg, hnc, hcm, hcs, htake⟩
    · refine ⟨⟨hxl, .inl ⟨rfl, rfl⟩⟩, .inr ?_⟩
      subst hsize
      rcases Nat.eq_zero_or_pos m with hm | hm
      · have hv := h4.2 ⟨rfl, hm⟩
        subst hv
        intro k hk; simp [Value.ownBlock] at hk
      · have hsmall : 0 + m ≤ 9223372036854775807 := by simp only [maxLen] at h63; omega
        have hb2 : m * i.bytes ≤ 281474976710656 := by rw [hby]; simp only [Nat.zero_add] at hbytes; omega
        have hr2 := run_append_nil (P := P) w t ty e i z ht hi hz ad m c news hl (hnil ad rfl) hm (by omega) hb2
        rw [hr] at hr2
        simp only [Result.ok.injEq] at hr2
        obtain ⟨rfl, _⟩ := hr2
        intro k hk; simp [Value.ownBlock] at hk; omega
    · subst hsize
      by_cases hroom : n + m ≤ cap
      · have hfit : n * i.size + news.length ≤ cur.size := by rw [hl, hcs, ← Nat.add_mul]; exact Nat.mul_le_mul_right _ hroom
        have hr2 := run_append_room (P := P) w t ty e i ht hi g n cap cur hg ad m c news hl (hnil ad rfl) h1 hroom hfit
        rw [hr] at hr2
        simp only [Result.ok.injEq] at hr2
        obtain ⟨rfl, rfl⟩ := hr2
        refine ⟨?_, .inl ⟨g, cap, rfl, rfl⟩⟩
        refine ⟨hxl, .inr ⟨g, cap, _, rfl, hbg, setRow_heap w g cur _ e _ hg, hnc, hcm, ?_, ?_⟩⟩
        · simp only [List.size_toArray, List.length_append, List.length_take, List.length_drop, Array.length_toList]
          omega
        · have hle : n * i.size ≤ cur.toList.length := by rw [Array.length_toList, hcs]; exact Nat.mul_le_mul_right _ hnc
          simp only [List.append_assoc]
          rw [List.take_append_of_le_length (by rw [List.length_take]; omega), List.take_take, Nat.min_self]
          exact htake
      · have holds : ∀ j u, xs[j]? = some u → w.cell? ((⟨g, 0, none⟩ : Addr).add j) = some u := World.ownsRow.cells (g := g) ⟨hxl, .inr ⟨g, cap, cur, rfl, hbg, hg, hnc, hcm, hcs, htake⟩⟩ rfl
        have hsmall : n + m ≤ 9223372036854775807 := by simp only [maxLen] at h63; omega
        have hr2 := run_append_grow (P := P) w t ty e i z ht hi hz ⟨g, 0, none⟩ n cap xs hxl holds ad m c news hl (hnil ad rfl) (by omega) (by omega) (growslice_fits (by omega) (by rw [hby]; exact hbytes))
        rw [hr] at hr2
        simp only [Result.ok.injEq] at hr2
        obtain ⟨rfl, rfl⟩ := hr2
        refine ⟨?_, .inr (by intro k hk; simp [Value.ownBlock] at hk; omega)⟩
        exact World.ownsRow.alloc (World.ownsRow.drew ⟨hxl, .inr ⟨g, cap, cur, rfl, hbg, hg, hnc, hcm, hcs, htake⟩⟩) _

theorem wpList_append_any {P : Program} (w : World) {ops : Array Oper} {rest : List Oper} {o : Oper} {a : Act} {Q : Exit → Act → World → Prop} (hgd : o.guard = none) (s x : Operand) (t : TypeId)
    (ho : o.op = .call { callee := .builtin .append, args := #[s, x], argTypes := #[t, t] })
    (base : Nat) (e : TypeId) (i : TypeInfo) (z : Value) (size bytes : Nat) (ht : P.underlying t = some (.slice e)) (hi : P.info? e = some i) (hz : i.zero = some z)
    (hsize : i.size = size) (hby : i.bytes = bytes) (hzs : z.cells.size = size) (hsz : 0 < size)
    (v : Value) (n : Nat) (xs : List Value) (hs : a.eval s = v) (hown : w.ownsRow base e size v n xs)
    (xv : Value) (m : Nat) (news : List Value) (hxe : a.eval x = xv) (hx : ReadsN size w xv m news) (h1 : ∀ u ∈ news, u.oneCell' = true)
    (h63 : n + m ≤ maxLen) (hbytes : (n + m) * bytes ≤ 140737488355328) (hbase : base ≤ w.heap.size)
    (h : ∀ v' w', w'.ownsRow base e size v' (n + m) (xs ++ news) → w.grownBy w' v.ownBlock → w'.ownsRow base e size v n xs → Step w v n v' (n + m) → wpList P ops Q rest (a.put o.dst v') w') : wpList P ops Q (o :: rest) a w := by
  refine wpList_plain hgd fun K hK => ?_
  obtain ⟨v', w', hr, h2, h3, h4, h5⟩ := run_append_any (P := P) w base t o.type e i z size bytes ht hi hz hsize hby hzs hsz v n xs hown xv m news hx h1 h63 hbytes hbase
  unfold Oper.wp execOp
  simp only [ho, resolve, invoke, builtin, Sem.run_bind, Sem.run_pure, Result.andThen_ok, List.map_toArray, List.map_cons, List.map_nil, hs, hxe, hr]
  exact hK _ _ (h v' w' h2 h3 h4 h5)

theorem grown_trans {w w1 w2 : World} {r r' : Option Nat} (h : w.grownBy w1 r) (h' : w1.grownBy w2 r') (hr : r' = r ∨ ∀ k, r' = some k → w.heap.size ≤ k) : w.grownBy w2 r :=
  ⟨h'.os.trans h.os, h'.tape.trans h.tape, h'.output.trans h.output, Nat.le_trans h.size h'.size, fun k hk hne =>
    (h'.block k (Nat.lt_of_lt_of_le hk h.size) (by
      intro e
      rcases hr with hr | hr
      · exact hne (e.trans hr)
      · have := hr k e.symm; omega)).trans (h.block k hk hne)⟩

/-- A ROW THAT IS GROWN AND GROWN: what was owned at the first is owned still. -/
structure Grow (B : Nat) (e size : Nat) (w : World) (v : Value) (n : Nat) (xs : List Value) (v' : Value) (n' : Nat) (xs' : List Value) (w' : World) : Prop where
  new : w'.ownsRow B e size v' n' (xs ++ xs')
  old : w'.ownsRow B e size v n xs
  grown : w.grownBy w' v.ownBlock
  step : Step w v n v' n'
  le : n ≤ n'

theorem Grow.refl {B e size : Nat} {w : World} {v : Value} {n : Nat} {xs : List Value} (h : w.ownsRow B e size v n xs) : Grow B e size w v n xs v n [] w :=
  ⟨by simpa using h, h, World.grownBy.refl w _, by
    rcases h.2 with ⟨rfl, _⟩ | ⟨g, cap, cur, rfl, _⟩
    · exact .inr (by intro k hk; simp [Value.ownBlock] at hk)
    · exact .inl ⟨g, cap, rfl, rfl⟩, Nat.le_refl _⟩

theorem own_prefix {B e size g cap n n' : Nat} {w : World} {xs ys : List Value} (hx : xs.length = n * size) (hn : n ≤ n') (h : w.ownsRow B e size (.slice (some ⟨g, 0, none⟩) n' cap) n' (xs ++ ys)) : w.ownsRow B e size (.slice (some ⟨g, 0, none⟩) n cap) n xs := by
  obtain ⟨hl, h⟩ := h
  refine ⟨hx, ?_⟩
  rcases h with ⟨h, _⟩ | ⟨g', cap', cur, h, hb, hh, h1, h2, h3, h4⟩
  · simp at h
  · simp only [Value.slice.injEq, Option.some.injEq, Addr.mk.injEq] at h
    obtain ⟨⟨rfl, _⟩, _, rfl⟩ := h
    refine .inr ⟨g, cap, cur, rfl, hb, hh, by omega, h2, h3, ?_⟩
    have := congrArg (List.take (n * size)) h4
    have e2 : (xs ++ ys).take (n * size) = xs := by rw [List.take_append_of_le_length (Nat.le_of_eq hx.symm), List.take_of_length_le (Nat.le_of_eq hx)]
    rw [List.take_take, Nat.min_eq_left (Nat.mul_le_mul_right _ hn), e2] at this
    exact this

theorem Grow.next {B e size : Nat} {w w1 w2 : World} {v v1 v2 : Value} {n n1 m : Nat} {xs ys zs : List Value} (h : Grow B e size w v n xs v1 n1 ys w1) (hx : xs.length = n * size) (hv : ∀ k, v.ownBlock = some k → k < w.heap.size)
    (hnew : w2.ownsRow B e size v2 (n1 + m) (xs ++ ys ++ zs)) (hg : w1.grownBy w2 v1.ownBlock) (hold : w2.ownsRow B e size v1 n1 (xs ++ ys)) (hs : Step w1 v1 n1 v2 (n1 + m)) : Grow B e size w v n xs v2 (n1 + m) (ys ++ zs) w2 := by
  obtain ⟨h1, h2, h3, h4, h5⟩ := h
  refine ⟨by rw [← List.append_assoc]; exact hnew, ?_, ?_, ?_, by omega⟩
  · rcases h4 with ⟨g, cap, rfl, rfl⟩ | h4
    · exact own_prefix hx h5 hold
    · refine h2.kept hg ?_
      cases hvb : v.ownBlock with
      | none => exact .inl rfl
      | some k =>
        right
        intro e
        have a1 := hv k hvb
        have a2 := h4 k e.symm
        omega
  · refine grown_trans h3 hg ?_
    rcases h4 with ⟨g, cap, rfl, rfl⟩ | h4
    · exact .inl rfl
    · exact .inr h4
  · rcases hs with ⟨g, cap, rfl, rfl⟩ | hs
    · rcases h4 with ⟨g', cap', rfl, h4⟩ | h4
      · simp only [Value.slice.injEq, Option.some.injEq, Addr.mk.injEq] at h4
        obtain ⟨⟨rfl, _⟩, _, rfl⟩ := h4
        exact .inl ⟨_, _, rfl, rfl⟩
      · exact .inr h4
    · exact .inr fun k hk => Nat.le_trans h3.size (hs k hk)

theorem readsN_own {w : World} {base e n size : Nat} {v : Value} {xs : List Value} (h : w.ownsRow base e size v n xs) : ReadsN size w v n xs := by
  obtain ⟨hl, h⟩ := h
  refine ⟨hl, ?_⟩
  rcases h with ⟨rfl, rfl⟩ | ⟨g, cap, cur, rfl, hb, hh, h1, h2, h3, h4⟩
  · have : xs = [] := List.length_eq_zero_iff.1 (by simpa using hl)
    subst this
    exact ⟨none, 0, rfl, fun h => absurd rfl h, fun _ => rfl⟩
  · refine ⟨some ⟨g, 0, none⟩, cap, rfl, fun _ => ⟨g, 0, rfl, ?_, ?_⟩, fun h => by cases h⟩
    · rcases Nat.lt_or_ge g w.heap.size with h5 | h5
      · exact h5
      · simp [Array.getElem?_eq_none h5] at hh
    · intro i u hi
      have hi2 : i < xs.length := by
        rcases Nat.lt_or_ge i xs.length with h5 | h5
        · exact h5
        · simp [List.getElem?_eq_none h5] at hi
      rw [← h4] at hi
      simp only [World.cell?, Nat.zero_add]
      rw [hh]
      rw [List.getElem?_take_of_lt (by omega)] at hi
      simpa using hi
theorem ReadsN.below {size : Nat} {w w' : World} {v : Value} {n : Nat} {xs : List Value} (h : ReadsN size w v n xs) (hb : Below w.heap.size w w') : ReadsN size w' v n xs := by
  obtain ⟨hl, a, cap, rfl, h, h0⟩ := h
  refine ⟨hl, a, cap, rfl, fun hn => ?_, h0⟩
  obtain ⟨b, off, rfl, hlt, hc⟩ := h hn
  exact ⟨b, off, rfl, Nat.lt_of_lt_of_le hlt hb.size, fun i u hi => (hb.cell (p := ⟨b, off + i, none⟩) hlt).trans (hc i u hi)⟩
/-- what is read stays where one other row alone is written -/
theorem ReadsN.below_of {size B : Nat} {w w' : World} {v : Value} {n : Nat} {xs : List Value} (h : ReadsN size w v n xs) (hb : Below B w w') (hlt : ∀ b, v.ownBlock = some b → b < B) : ReadsN size w' v n xs := by
  obtain ⟨hl, a, cap, rfl, h, h0⟩ := h
  refine ⟨hl, a, cap, rfl, fun hn => ?_, h0⟩
  obtain ⟨b, off, rfl, h1, hc⟩ := h hn
  exact ⟨b, off, rfl, Nat.lt_of_lt_of_le h1 hb.size, fun i u hi => (hb.cell (p := ⟨b, off + i, none⟩) (hlt b rfl)).trans (hc i u hi)⟩
/-- a list of new cells just laid -/
theorem readsN_new (w : World) (xs : List Value) (n size : Nat) (t : TypeId) (hl : xs.length = n * size) : ReadsN size (w.alloc (.cells xs.toArray t)) (.slice (some ⟨w.heap.size, 0, none⟩) n n) n xs := by
  refine ⟨hl, _, _, rfl, fun _ => ⟨w.heap.size, 0, rfl, by simp, ?_⟩, fun h => by cases h⟩
  intro i u hi
  simp only [World.cell?, Nat.zero_add]
  rw [heap_new]
  simpa using hi

end Go.Proofs.Ytgpgbbbcodnieaa.run
