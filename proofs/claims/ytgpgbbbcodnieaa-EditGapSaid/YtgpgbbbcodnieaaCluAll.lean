/-
  The walks of the layer cluster: All; what stands of a loop over it.
-/
import Derived.Test.YtgpgbbbcodnieaaCluEach
namespace Go.Proofs.Ytgpgbbbcodnieaa.clu
open Go.RowKit Go.Proofs Go.Shelf
open Go.Proofs.Ytgpgbbbcodnieaa.wid Go.Proofs.Ytgpgbbbcodnieaa.utf
set_option linter.unusedVariables false
attribute [local go_sem] Oper.semAt_some

theorem all_stops (n : Nat) (hn : 1 ≤ n) (B b : Nat) (L : List Int) (v : Value) (w : World) (hBw : B < w.heap.size) (hbw : b < w.heap.size) (hc : w.cell? ⟨B, 0, none⟩ = some v) (hR : RowIn b w v L) (hL : L.length ≤ 1099511627776) :
    SeqStopsK Fence.wide n Try.prog 75 #[.pointer (some ⟨B, 0, none⟩)] encs (KeepsB b) (fun ys => ys = placed 0 (cl L)) (fun pre => pre <+: placed 0 (cl L)) (placed 0 (cl L)).length w :=
  fun l J Jx W hW hJ _ hY h0 => each_in n hn l B b L v hL J Jx W hJ ((hW.cell (p := ⟨B, 0, none⟩) hBw).trans hc) (hR.keeps (KeepsB.below hW hbw)) (Nat.lt_of_lt_of_le hbw hW.size) (fun pre x W1 h hp => hY pre x W1 h (by have := hp.length_le; rw [List.length_append, List.length_singleton] at this; omega)) h0

/-- what All hands back -/
def Each (s : ByteArray) (w : World) (e : Ending) (w' : World) : Prop :=
  ∃ B b v, e = .returned (.func (.func 75) #[] #[.pointer (some ⟨B, 0, none⟩)]) ∧ w'.cell? ⟨B, 0, none⟩ = some v ∧ w.heap.size ≤ B ∧ B < w'.heap.size ∧ w.heap.size ≤ b ∧ b < w'.heap.size ∧ RowIn b w' v (runes (bs s)) ∧ Below w.heap.size w w'

theorem rowIn_own {w : World} {base : Nat} {v : Value} {l : List Int} (h : w.ownsRow base 21 1 v l.length (rv l)) (w' : World) (hb : Below w.heap.size w w') (hlt : w.heap.size < w'.heap.size) (hbase : base ≤ w.heap.size) : ∃ b, base ≤ b ∧ b < w'.heap.size ∧ RowIn b w' v l := by
  obtain ⟨hl, h⟩ := h
  rcases h with ⟨rfl, h0⟩ | ⟨g, cap, cur, rfl, hg, hh, h1, h2, h3, h4⟩
  · have : l = [] := List.length_eq_zero_iff.1 h0
    subst this
    exact ⟨w.heap.size, hbase, hlt, none, 0, rfl, Nat.le_refl _, fun h => absurd rfl h⟩
  · have hgl : g < w.heap.size := by
      rcases Nat.lt_or_ge g w.heap.size with h5 | h5
      · exact h5
      · simp [Array.getElem?_eq_none h5] at hh
    refine ⟨g, hg, by omega, some ⟨g, 0, none⟩, cap, rfl, h1, fun hne => ⟨0, rfl, by omega, fun i hi => ?_⟩⟩
    rw [hb.cell (p := ⟨g, 0 + i, none⟩) hgl]
    have hget := rv_get hi
    rw [← h4] at hget
    simp only [World.cell?, Nat.zero_add]
    rw [hh]
    rw [List.getElem?_take_of_lt (by omega)] at hget
    simpa using hget

set_option maxHeartbeats 1000000 in
theorem all_any (s : ByteArray) (w : World) (hs : s.size ≤ 1099511627776) : Calls Try.prog 71 #[.string s] w (Each s w) := by
  have hl := runes_len s
  go_enter Try.func71, Try.ntmps71
  go_wp2_with fail
  refine (runes_use s w (by omega) (by omega)).mono ?_
  rintro e w1 ⟨v, rfl, hown, -, hb, -⟩
  have HO := run.hid hown
  obtain ⟨a, cap, rfl⟩ := run.own_value hown
  clear hown
  generalize hL : runes (bs s) = L at *
  have HL := run.hid hL
  clear hL
  go_wp2
  go_ret
  obtain ⟨b, hb1, hb2, hrow⟩ := rowIn_own HO.out (w1.alloc (.cells #[.slice a L.length cap] 88)) (run.below_one _ _) (by simp) hb.size
  exact ⟨w1.heap.size, b, _, rfl, run.cell_new _ _ _, hb.size, by simp, hb1, hb2, by rw [HL.out]; exact hrow, hb.alloc hb.size _⟩

/-- the cells of clusters -/
def cc (l : List (List Int)) : List Value := l.flatMap fun p => [.string (str (text p)), .int .i64 (wide p)]
def ends (l : List (Nat × List Int)) : List (List Int) := l.map (·.2)
theorem cc_snoc (l : List (Nat × List Int)) (x : Nat × List Int) : cc (ends (l ++ [x])) = cc (ends l) ++ [.string (str (text x.2)), .int .i64 (wide x.2)] := by simp [cc, ends]
theorem cc_length (l : List (List Int)) : (cc l).length = l.length * 2 := by
  induction l with
  | nil => rfl
  | cons p t ih =>
    have : cc (p :: t) = .string (str (text p)) :: .int .i64 (wide p) :: cc t := rfl
    rw [this, List.length_cons, List.length_cons, ih, List.length_cons]; omega
theorem ends_placed : ∀ (l : List (List Int)) (a : Nat), ends (placed a l) = l
  | [], _ => rfl
  | p :: t, a => by
    show p :: ends (placed _ t) = p :: t
    rw [ends_placed t]
theorem placed_length : ∀ (l : List (List Int)) (a : Nat), (placed a l).length = l.length
  | [], _ => rfl
  | p :: t, a => by simp only [placed, List.length_cons, placed_length t]

theorem info_clu : (Try.prog.info? 74).map (fun i => (i.zero, i.size, i.bytes)) = some (some (.agg #[.string ByteArray.empty, .int .i64 0]), 2, 24) := by kernel_rfl

def Boxed2 (W : World) (B : Nat) (t : TypeId) (x y : Value) : Prop := W.heap[B]? = some (.cells #[x, y] t (0, 0))
theorem boxed2_own {β : Type} (B : Nat) (t : TypeId) (f g : β → Value) : Own (fun s W => Boxed2 W B t (f s) (g s)) := fun s X Y row hs hg hrow =>
  (hg.block B (Array.getElem?_eq_some_iff.1 hs).1 (fun e' => by obtain ⟨o, ho, hc⟩ := hrow B e'.symm; rw [show X.heap[B]? = _ from hs] at ho; cases ho; cases hc)).trans hs

theorem news_two (w : World) (x y : Value) (t : TypeId) : ∀ j u, [x, y][j]? = some u → (w.alloc (.cells #[x, y] t)).cell? ((⟨w.heap.size, 0, none⟩ : Addr).add j) = some u := by
  intro j u hj
  rw [run.add_none]
  simp only [World.cell?, Nat.zero_add]
  rw [run.heap_new]
  match j, hj with
  | 0, hj => simpa using hj
  | 1, hj => simpa using hj
theorem one_two (s : ByteArray) (n : Int) : ∀ u ∈ [Value.string s, .int .i64 n], u.oneCell' = true := by
  intro u hu
  simp only [List.mem_cons, List.not_mem_nil, or_false] at hu
  rcases hu with rfl | rfl <;> rfl

end Go.Proofs.Ytgpgbbbcodnieaa.clu
