/-
  The walk of the law CanvasKnown.
-/
import Derived.Test.YtghbpbaopcibkaaDoorCanPath
import Derived.Test.YtghbpbaopcibkaaDoorCanLawCirc
import Derived.Test.YtghbpbaopcibkaaDoorCanLawTurn
import Derived.KernelRfl
namespace Go.Proofs.YtghbpbaopcibkaaDoor.can
open Go.RowKit Go.Proofs Go.Proofs.YtghbpbaopcibkaaDoor.flo
set_option linter.unusedVariables false

set_option maxRecDepth 100000 in
set_option maxHeartbeats 400000 in
theorem nan_fn (w : World) : Calls Tryd.prog 29 #[] w fun e w' => e = .returned (.float .f64 9221120237041090561) ∧ w = w' := by
  have K := call_frombits 9221120237041090561
  go_enter Tryd.func29, Tryd.ntmps29
  go_wp2
  go_ret
  exact ⟨rfl, rfl⟩

theorem St.kept {w0 w w' : World} {B b g W H k : Nat} {S : Int → Int → Bool} (h : St w0 B b g W H S w) (hg : w.grownBy w' (some k)) (hk : w0.heap.size ≤ k) (hb : b ≠ k) (hgk : g ≠ k) : St w0 B b g W H S w' :=
  ⟨h.canvas.kept hg hb hgk, h.dots.of hg (by have := h.low; omega), h.below.grown hg h.below.size (by rintro k ⟨⟩; exact hk), h.low⟩
theorem has_sts {w0 w : World} {B b g W H : Nat} {S : Int → Int → Bool} (h : St w0 B b g W H S w) (x y : Int) :
    Calls Tryd.prog 18 #[.pointer (some ⟨b, 0, none⟩), .int .i64 x, .int .i64 y] w fun e w' => e = .returned (.bool (inside W H x y && S x y)) ∧ Below w.heap.size w w' := has_any B b g W H S x y w h.dots h.canvas
theorem has_drew {w : World} {B b g W H : Nat} {S : Int → Int → Bool} (hd : Dots w) (h : Canvas B b g W H S w) (x y : Int) (hi : inside W H x y = true) :
    Calls Tryd.prog 18 #[.pointer (some ⟨b, 0, none⟩), .int .i64 x, .int .i64 y] w fun e w' => e = .returned (.bool (S x y)) ∧ ∃ n, w' = w.drewN n := by
  obtain ⟨h1, h2, d, h3, h4⟩ := h
  obtain ⟨x', y', rfl, rfl, hx, hy⟩ := inside_in hi
  exact (has_in b g W H d x' y' w hd h3 hx hy).mono fun e w' ⟨he, hw⟩ => ⟨by rw [he, h4 x' y' hx hy], hw⟩

/-- two canvases, one behind the other -/
structure Two (w0 : World) (c d : Nat) (S T : Int → Int → Bool) (w : World) : Prop where
  one : St w0 w0.heap.size (c + 1) c 4 2 S w
  two : St w0 w0.heap.size (d + 1) d 2 2 T w
  low : w0.heap.size ≤ c
  gap : c + 1 < d
theorem Two.next {w0 w w' : World} {c d : Nat} {S T : Int → Int → Bool} (h : Two w0 c d S T w) (hb : Below w.heap.size w w') : Two w0 c d S T w' := ⟨h.one.next hb, h.two.next hb, h.low, h.gap⟩
theorem Two.le {w0 w : World} {c d : Nat} {S T : Int → Int → Bool} (h : Two w0 c d S T w) : w0.heap.size ≤ w.heap.size ∧ d + 1 < w.heap.size ∧ c + 1 < d := ⟨h.one.below.size, by have := h.two.canvas; obtain ⟨-, -, d', hc, -⟩ := this; exact hc.lt.1, h.gap⟩
theorem Two.draws {w0 w w' : World} {c d : Nat} {S S' T : Int → Int → Bool} (h : Two w0 c d S T w) (hc : Canvas w0.heap.size (c + 1) c 4 2 S' w') (hg : w.grownBy w' (some c)) : Two w0 c d S' T w' := by
  have hl := h.low
  have hp := h.gap
  have h2 := h.two.kept hg hl (show d + 1 ≠ c by omega) (show d ≠ c by omega)
  exact ⟨⟨hc, h2.dots, h2.below, h2.low⟩, h2, hl, hp⟩
theorem Two.draws2 {w0 w w' : World} {c d : Nat} {S T T' : Int → Int → Bool} (h : Two w0 c d S T w) (hc : Canvas w0.heap.size (d + 1) d 2 2 T' w') (hg : w.grownBy w' (some d)) : Two w0 c d S T' w' := by
  have hl := h.low
  have hp := h.gap
  have h1 := h.one.kept hg (by omega) (show c + 1 ≠ d by omega) (show c ≠ d by omega)
  exact ⟨h1, ⟨hc, h1.dots, h1.below, h1.low⟩, hl, hp⟩

def CS : Int → Int → Bool := plots none0 (circL 3 3 (2 : Nat) (circN 2))
def PA : List (Nat × Nat) := [(4602678819172646912, 0), (9221120237041090561, 0), (4612586738352862003, 4607182418800017408)]
def PB : List (Nat × Nat) := [(4613937818241073152, 4613937818241073152)]
def T1 : Int → Int → Bool := (pathT (none, none0) PA).2
def T2 : Int → Int → Bool := (pathT (none, T1) PB).2
def hs (m : Nat) : Bool := inside 4 2 ((m / 8 : Nat) : Int) ((m % 8 : Nat) : Int) && CS ((m / 8 : Nat) : Int) ((m % 8 : Nat) : Int)
def cnt (n : Nat) : Nat := ((List.range n).filter hs).length
theorem cnt_succ (n : Nat) : cnt (n + 1) = cnt n + if hs n then 1 else 0 := by
  unfold cnt
  rw [List.range_succ, List.filter_append, List.length_append]
  congr 1
  cases h : hs n <;> simp [h]
theorem cnt_le (n : Nat) : cnt n ≤ n := by
  unfold cnt
  have := List.length_filter_le hs (List.range n)
  simpa using this
theorem cnt_all : cnt 64 = 12 := by decide +kernel
theorem hs_at (i j : Nat) (hj : j < 8) : hs (8 * i + j) = (inside 4 2 (i : Int) (j : Int) && CS (i : Int) (j : Int)) := by
  unfold hs
  rw [show (8 * i + j) / 8 = i by omega, show (8 * i + j) % 8 = j by omega]
def WANT : List (Int × Int) := [(3, 1), (3, 5), (1, 3), (5, 3), (2, 1), (4, 1), (2, 5), (4, 5), (1, 2), (1, 4), (5, 2), (5, 4)]
theorem want_all : ∀ k : Nat, k < 12 → inside 4 2 (WANT.getD k (0, 0)).1 (WANT.getD k (0, 0)).2 = true ∧ CS (WANT.getD k (0, 0)).1 (WANT.getD k (0, 0)).2 = true := by decide +kernel
theorem h33 : (inside 2 2 3 3 && T2 3 3) = true := by decide +kernel
theorem h10 : (inside 2 2 1 0 && T2 1 0) = true := by decide +kernel
theorem h21 : (inside 2 2 2 1 && T2 2 1) = true := by decide +kernel
theorem h00 : (inside 2 2 0 0 && T2 0 0) = false := by decide +kernel
theorem bar1 : barT 4611686018427387904 6917529027641081856 3 = ⟨#[226, 150, 136, 226, 150, 136, 32]⟩ := by decide +kernel
theorem bar2 : barT 1 3 1 = ⟨#[226, 150, 142]⟩ := by decide +kernel
theorem bar3 : barT 7 0 2 = ⟨#[32, 32]⟩ := by decide +kernel
theorem bar4 : barT 9 3 1 = ⟨#[226, 150, 136]⟩ := by decide +kernel
theorem bar5 : barT 1 2 (-1) = ⟨#[]⟩ := by decide +kernel
theorem spark1 : sparkT [4617315517961601024, 4617315517961601024] 3 = ⟨#[32, 226, 150, 132, 226, 150, 132]⟩ := by decide +kernel
theorem spark2 : sparkT [0, 4607182418800017408, 9221120237041090561, 9218868437227405312] 4 = ⟨#[226, 150, 129, 226, 150, 136, 32, 226, 150, 136]⟩ := by decide +kernel
theorem turn1 : [(4607182418800017408, 0), (4611686018427387904, 4607182418800017408)].map (fun p => turnT (num2 (0, 0)) (num2 (0, 4607182418800017408)) (num2 p)) = [(some 0, some 4607182418800017408), (some 13830554455654793216, some 4611686018427387904)] := by decide +kernel
theorem turn_is {ps : List (Nat × Nat)} (h : ps.map num2 = [(some 0, some 4607182418800017408), (some 13830554455654793216, some 4611686018427387904)]) : ps = [(0, 4607182418800017408), (13830554455654793216, 4611686018427387904)] := by
  have k : ∀ {x y : Nat}, num x = some y → x = y := by
    intro x y h
    cases hc : numW D x with
    | true => rw [num_some hc] at h; exact Option.some.inj h
    | false => rw [num_none hc] at h; cases h
  match ps, h with
  | [(a, b), (c, d)], h =>
    simp only [num2, List.map_cons, List.map_nil, List.cons.injEq, Prod.mk.injEq, and_true] at h
    obtain ⟨⟨h1, h2⟩, h3, h4⟩ := h
    rw [k h1, k h2, k h3, k h4]
  | [], h => simp at h
  | [_], h => simp at h
  | _ :: _ :: _ :: _, h => simp at h

theorem new_st (W H : Nat) (w0 w : World) (hb : Below w0.heap.size w0 w) (hd : Dots w) (hl : 3 < w0.heap.size) (h1 : W ≤ 4096) (h2 : H ≤ 4096) (h3 : W * H ≤ 1048576) :
    Calls Tryd.prog 16 #[.int .i64 W, .int .i64 H] w fun e w' => e = .returned (.tuple #[.pointer (some ⟨w.heap.size + 1, 0, none⟩), .int .i64 0]) ∧ St w0 w0.heap.size (w.heap.size + 1) w.heap.size W H none0 w' ∧ Below w.heap.size w w' := by
  refine (new_ok W H w h1 h2 h3).mono ?_
  rintro e w' ⟨he, rfl⟩
  have hb2 := run.below_two w (.cells (madeCells #[.int .u8 0] (W * H)) 5) (.cells #[.int .i64 W, .int .i64 H, .slice (some ⟨w.heap.size, 0, none⟩) (W * H) (W * H)] 89)
  exact ⟨he, ⟨canvas_new w0.heap.size W H w hb.size h1 h2 h3, hd.below hb2 (Nat.lt_of_lt_of_le hl hb.size), hb.trans (hb2.mono hb.size), hl⟩, hb2⟩
theorem path_st {w0 w : World} {c d : Nat} {S T : Int → Int → Bool} (h : Two w0 c d S T w) (l : List (Nat × Nat)) (hl : l.length ≤ 100) (t : TypeId) :
    Calls Tryd.prog 28 #[.pointer (some ⟨d + 1, 0, none⟩), .slice (some ⟨w.heap.size, 0, none⟩) l.length l.length] (w.alloc (.cells (l.map C).toArray t)) fun e w' => e = .returned (.int .i64 0) ∧ Two w0 c d S (pathT (none, T) l).2 w' := by
  have hb := run.below_one w (.cells (l.map C).toArray t)
  have h2 := h.next hb
  refine (path_any w0.heap.size (d + 1) d 2 2 T l _ _ _ h.two.low h2.two.dots h2.two.canvas (fun k hk => ⟨w.heap.size, 0, rfl, by have := h.le.2.1; omega, ?_⟩) (by omega)).mono fun e w' ⟨he, hc, hg⟩ => ⟨he, h2.draws2 hc hg⟩
  rw [Nat.zero_add, World.cell?_alloc_at _ _ _ _ rfl]
  simp [List.getD_eq_getElem?_getD, hk]
def WantAt (ww : Nat) (w : World) : Prop := ∀ k : Nat, k < 12 → w.cell? ⟨ww, k * 2, none⟩ = some (.int .i64 (WANT.getD k (0, 0)).1) ∧ w.cell? ⟨ww, k * 2 + 1, none⟩ = some (.int .i64 (WANT.getD k (0, 0)).2)
theorem WantAt.below {ww : Nat} {w w' : World} (h : WantAt ww w) (hb : Below w.heap.size w w') : WantAt ww w' := fun k hk => by
  obtain ⟨h1, h2⟩ := h k hk
  have hlt := run.lt_of_cell h1
  exact ⟨(hb.cell (p := ⟨ww, k * 2, none⟩) hlt).trans h1, (hb.cell (p := ⟨ww, k * 2 + 1, none⟩) hlt).trans h2⟩
theorem want_new (w : World) (t : TypeId) : WantAt w.heap.size (w.alloc (.cells #[.int .i64 3, .int .i64 1, .int .i64 3, .int .i64 5, .int .i64 1, .int .i64 3, .int .i64 5, .int .i64 3, .int .i64 2, .int .i64 1, .int .i64 4, .int .i64 1, .int .i64 2, .int .i64 5, .int .i64 4, .int .i64 5, .int .i64 1, .int .i64 2, .int .i64 1, .int .i64 4, .int .i64 5, .int .i64 2, .int .i64 5, .int .i64 4] t)) := by
  intro k hk
  rw [World.cell?_alloc_at _ _ _ _ rfl, World.cell?_alloc_at _ _ _ _ rfl]
  have h : k = 0 ∨ k = 1 ∨ k = 2 ∨ k = 3 ∨ k = 4 ∨ k = 5 ∨ k = 6 ∨ k = 7 ∨ k = 8 ∨ k = 9 ∨ k = 10 ∨ k = 11 := by omega
  rcases h with rfl | rfl | rfl | rfl | rfl | rfl | rfl | rfl | rfl | rfl | rfl | rfl <;> exact ⟨rfl, rfl⟩
theorem reads_newC (l : List (Nat × Nat)) (w : World) (t : TypeId) : run.Reads (w.alloc (.cells (l.map C).toArray t)) (.slice (some ⟨w.heap.size, 0, none⟩) l.length l.length) (l.map C) := by
  have h := (run.readsN_new w (l.map C) l.length 1 t (by simp)).one
  simpa using h

set_option maxRecDepth 100000 in
set_option maxHeartbeats 8000000 in
theorem lawKnown_any (w : World) (hD : Dots w) : Calls Tryd.prog 8 #[] w fun e w' => e = .returned (.bool true) ∧ Below w.heap.size w w' := by
  have hlt := hD.lt
  have HN1 := run.hid (new_no (-1) 0 w (by omega) (by omega) (by decide))
  have HN2 := run.hid (new_st 0 4096 w w (Below.refl _ _) hD hlt (by omega) (by omega) (by omega))
  have HD := run.hid hD
  clear hD
  go_enter Tryd.func8, Tryd.ntmps8
  go_wp2_with fail
  refine HN1.out.mono ?_
  rintro e w' ⟨rfl, rfl⟩
  go_wp2_with fail
  refine HN2.out.mono ?_
  rintro e w1 ⟨rfl, hs1, hb1⟩
  have HS1 := run.hid hs1
  have HN3 := run.hid (new_no 4096 257 w1 (by omega) (by omega) (by decide))
  clear hs1 hb1 HN1 HN2
  go_wp2_with fail
  refine HN3.out.mono ?_
  rintro e w' ⟨rfl, rfl⟩
  have HN4 := run.hid (new_st 4 2 w w1 HS1.out.below HS1.out.dots hlt (by omega) (by omega) (by omega))
  clear HN3
  go_wp2_with fail
  refine HN4.out.mono ?_
  rintro e w2 ⟨rfl, hs2, hb2⟩
  have HS2 := run.hid hs2
  have HN5 := run.hid (new_st 2 2 w w2 HS2.out.below HS2.out.dots hlt (by omega) (by omega) (by omega))
  have hg2 : w1.heap.size + 1 < w2.heap.size := by obtain ⟨-, -, d', hc, -⟩ := hs2.canvas; exact hc.lt.1
  have hl1 := HS1.out.below.size
  clear hs2 hb2 HN4 HS1
  go_wp2_with fail
  refine HN5.out.mono ?_
  rintro e w3 ⟨rfl, hs3, hb3⟩
  have HT3 : Hid (Two w w1.heap.size w2.heap.size none0 none0 w3) := ⟨HS2.out.next hb3, hs3, hl1, hg2⟩
  have HC3 := run.hid (circle_any w.heap.size (w1.heap.size + 1) w1.heap.size 4 2 none0 3 3 2 w3 hlt HT3.out.one.dots HT3.out.one.canvas (by decide) (by decide) (by omega))
  clear hs3 hb3 HN5 HS2
  generalize w1.heap.size = c at *
  generalize w2.heap.size = d at *
  go_wp2_with fail
  refine HC3.out.mono ?_
  rintro e w4 ⟨rfl, hc4, hg4⟩
  have HT4 : Hid (Two w c d CS none0 w4) := HT3.out.draws hc4 hg4
  clear hc4 hg4 HT3 HC3
  have HW4 : Hid (WantAt w4.heap.size (w4.alloc (.cells #[.int .i64 3, .int .i64 1, .int .i64 3, .int .i64 5, .int .i64 1, .int .i64 3, .int .i64 5, .int .i64 3, .int .i64 2, .int .i64 1, .int .i64 4, .int .i64 1, .int .i64 2, .int .i64 5, .int .i64 4, .int .i64 5, .int .i64 1, .int .i64 2, .int .i64 1, .int .i64 4, .int .i64 5, .int .i64 2, .int .i64 5, .int .i64 4] 53))) := want_new w4 _
  have HT5 := run.hid (HT4.out.next (run.below_one w4 (.cells #[.int .i64 3, .int .i64 1, .int .i64 3, .int .i64 5, .int .i64 1, .int .i64 3, .int .i64 5, .int .i64 3, .int .i64 2, .int .i64 1, .int .i64 4, .int .i64 1, .int .i64 2, .int .i64 5, .int .i64 4, .int .i64 5, .int .i64 1, .int .i64 2, .int .i64 1, .int .i64 4, .int .i64 5, .int .i64 2, .int .i64 5, .int .i64 4] 53)))
  go_wp2
  generalize (w4.alloc (.cells #[.int .i64 3, .int .i64 1, .int .i64 3, .int .i64 5, .int .i64 1, .int .i64 3, .int .i64 5, .int .i64 3, .int .i64 2, .int .i64 1, .int .i64 4, .int .i64 1, .int .i64 2, .int .i64 5, .int .i64 4, .int .i64 5, .int .i64 1, .int .i64 2, .int .i64 1, .int .i64 4, .int .i64 5, .int .i64 2, .int .i64 5, .int .i64 4] 53)) = w5 at *
  clear HT4
  generalize w4.heap.size = ww at *
  go_loopw [13, 14] (fun mv iv wr => ∃ i m : Nat, i ≤ 8 ∧ iv = .int .i64 i ∧ mv = .int .i64 m ∧ m ≤ 8 * i ∧ Hid (cnt (8 * i) = m) ∧ Hid (Two w c d CS none0 wr) ∧ Hid (WantAt ww wr)) (fun _ iv _ => 8 - (intOf iv).toNat)
  case atStart => exact ⟨0, 0, by omega, rfl, rfl, by omega, rfl, HT5, HW4⟩
  case round =>
    obtain ⟨i, m, hi, rfl, rfl, hm, HM, HT, HW⟩ := hrel
    generalize wr = wz at *
    by_cases hlti : i < 8
    · go_wp2
      generalize decide ((i : Int) < 8) = dq1
      go_loopw [13, 15] (fun mv jv wr => ∃ j m : Nat, j ≤ 8 ∧ jv = .int .i64 j ∧ mv = .int .i64 m ∧ m ≤ 8 * i + j ∧ Hid (cnt (8 * i + j) = m) ∧ Hid (Two w c d CS none0 wr) ∧ Hid (WantAt ww wr)) (fun _ jv _ => 8 - (intOf jv).toNat)
      case atStart => exact ⟨0, m, by omega, rfl, rfl, by omega, HM, HT, HW⟩
      case round =>
        obtain ⟨j, m', hj, rfl, rfl, hm', HM', HT', HW'⟩ := hrel
        by_cases hltj : j < 8
        · have HC := run.hid (cnt_succ (8 * i + j))
          rw [hs_at i j hltj, HM'.out] at HC
          have HH := run.hid (has_sts HT'.out.one (i : Int) (j : Int))
          generalize (inside 4 2 (i : Int) (j : Int) && CS (i : Int) (j : Int)) = b at *
          go_wp2_with fail
          refine HH.out.mono ?_
          rintro e w6 ⟨rfl, hb6⟩
          have HT6 := run.hid (HT'.out.next hb6)
          have HW6 := run.hid (HW'.out.below hb6)
          clear hb6 HH HT' HW' HM' HM HT HW
          cases b with
          | true =>
            go_wp2
            go_roundw
            case rel => exact ⟨j + 1, m' + 1, by omega, by go_num, by go_num, by omega, HC, HT6, HW6⟩
            case measure => simp [intOf]; omega
          | false =>
            go_wp2
            go_roundw
            case rel => exact ⟨j + 1, m', by omega, by go_num, rfl, by omega, HC, HT6, HW6⟩
            case measure => simp [intOf]; omega
        · obtain rfl : j = 8 := by omega
          rw [show ((8 : Nat) : Int) = 8 from rfl]
          go_wp2
          go_roundw
          case rel => exact ⟨i + 1, m', by omega, by go_num, rfl, by omega, by show cnt (8 * (i + 1)) = m'; rw [show 8 * (i + 1) = 8 * i + 8 by omega]; exact HM'.out, HT', HW'⟩
          case measure => simp [intOf]; omega
    · obtain rfl : i = 8 := by omega
      obtain rfl : m = 12 := HM.out.symm.trans cnt_all
      rw [show ((8 : Nat) : Int) = 8 from rfl, show ((12 : Nat) : Int) = 12 from rfl]
      clear HM
      go_wp2
      go_loopw [16] (fun kv wr => ∃ k : Nat, k ≤ 12 ∧ kv = .int .i64 k ∧ Hid (Two w c d CS none0 wr) ∧ Hid (WantAt ww wr)) (fun kv _ => 12 - (intOf kv).toNat)
      case atStart => exact ⟨0, by omega, rfl, HT, HW⟩
      case round =>
        clear HT HW
        obtain ⟨k, hk, rfl, HT, HW⟩ := hrel
        by_cases hltk : k < 12
        · obtain ⟨hc1, hc2⟩ := HW.out k hltk
          obtain ⟨g1, g2⟩ := want_all k hltk
          have HQ : Hid (∀ n, Calls Tryd.prog 18 #[.pointer (some ⟨c + 1, 0, none⟩), .int .i64 (WANT.getD k (0, 0)).1, .int .i64 (WANT.getD k (0, 0)).2] (wr.drewN n) fun e w' => e = .returned (.bool true) ∧ ∃ m, w' = (wr.drewN n).drewN m) := by
            intro n
            have h2 := HT.out.next (drewN_below _ wr n)
            have := has_drew h2.one.dots h2.one.canvas _ _ g1
            rwa [g2] at this
          clear g1 g2
          generalize (WANT.getD k (0, 0)).1 = z1 at *
          generalize (WANT.getD k (0, 0)).2 = z2 at *
          go_upto_region 22 with fail
          go_cut [118] (fun v wx => v = .bool false ∧ ∃ n, wx = wr.drewN n)
          case first =>
            refine run.alone (by assumption) (by assumption) ?_
            go_light
            intro _ _ _ _
            go_quiet ((go_at_call 18; exact Calls.quiet_of (HQ.out _)))
            go_wp2
            go_meet
            case rel => exact ⟨rfl, nq, rfl⟩
          obtain ⟨rfl, nq, rfl⟩ := hcut
          have HT2 := run.hid (HT.out.next (drewN_below _ wr nq))
          have HW2 := run.hid (HW.out.below (drewN_below _ wr nq))
          clear HT HW HQ hc1 hc2
          go_wp2
          go_roundw
          case rel => exact ⟨k + 1, by omega, by go_num, HT2, HW2⟩
          case measure => simp [intOf]; omega
        · obtain rfl : k = 12 := by omega
          rw [show ((12 : Nat) : Int) = 12 from rfl]
          clear HW
          have HNAN := run.hid (fun w' => nan_fn w')
          have HPA := run.hid (path_st HT.out PA (by decide) 39)
          change Hid (Calls _ _ #[_, .slice _ 3 3] (wr.alloc (.cells #[.complex .f64 4602678819172646912 0, .complex .f64 9221120237041090561 0, .complex .f64 4612586738352862003 4607182418800017408] 39)) fun e w' => e = _ ∧ Two w c d CS T1 w') at HPA
          have hle0 := HT.out.le
          generalize wr = w7 at *
          go_wp2_with fail
          refine (HNAN.out _).mono ?_
          rintro e w' ⟨rfl, rfl⟩
          go_wp2_with fail
          refine HPA.out.mono ?_
          rintro e w8 ⟨rfl, ht8⟩
          have HT8 := run.hid ht8
          clear ht8 HPA HT
          have HPB := run.hid (path_st HT8.out PB (by decide) 39)
          change Hid (Calls _ _ #[_, .slice _ 1 1] (w8.alloc (.cells #[.complex .f64 4613937818241073152 4613937818241073152] 39)) fun e w' => e = _ ∧ Two w c d CS T2 w') at HPB
          go_wp2_with fail
          refine HPB.out.mono ?_
          rintro e w9 ⟨rfl, ht9⟩
          have HT9 := run.hid ht9
          clear ht9 HPB HT8
          have HH := run.hid (has_sts HT9.out.two 3 3)
          rw [h33] at HH
          go_wp2_with fail
          refine HH.out.mono ?_
          rintro e w10 ⟨rfl, hb10⟩
          have HT10 := run.hid (HT9.out.next hb10)
          clear hb10 HH HT9
          have HB1 := run.hid (bar_any 4611686018427387904 6917529027641081856 3 w10 (by omega) (by omega) (by omega))
          rw [bar1] at HB1
          go_wp2_with fail
          refine HB1.out.mono ?_
          rintro e w11 ⟨rfl, hb11⟩
          have HT11 := run.hid (HT10.out.next hb11)
          clear hb11 HB1 HT10
          have HTU := run.hid (turn_any [(4607182418800017408, 0), (4611686018427387904, 4607182418800017408)] _ _ (0, 0) (0, 4607182418800017408) _ (reads_newC [(4607182418800017408, 0), (4611686018427387904, 4607182418800017408)] w11 39) (by decide))
          rw [turn1] at HTU
          have HT12 := run.hid (HT11.out.next (run.below_one w11 (.cells #[.complex .f64 4607182418800017408 0, .complex .f64 4611686018427387904 4607182418800017408] 39)))
          go_wp2_with fail
          refine HTU.out.mono ?_
          rintro e w13 ⟨vt, ps, rfl, hot, hps, -, hb13⟩
          obtain rfl := turn_is hps
          have HT13 := run.hid (HT12.out.next hb13)
          have HO13 := run.hid hot
          obtain ⟨gt, ct, rfl⟩ := own_some hot (by decide)
          clear hb13 hot hps HT12 HT11 HTU
          have HSZ := run.hid (size_any _ _ _ _ _ _ _ HT13.out.two.canvas)
          change Hid (Calls _ _ _ _ fun e w' => e = .returned (.tuple #[.int .i64 4, .int .i64 8]) ∧ _) at HSZ
          go_wp2_with fail
          refine HSZ.out.mono ?_
          rintro e w14 ⟨rfl, hb14⟩
          have HT14 := run.hid (HT13.out.next hb14)
          have HO14 := run.hid (run.own_below HO13.out hb14)
          clear hb14 HSZ HT13 HO13
          have HCN := run.hid (circle_no (c + 1) 1 1 (-1) w14 (.inr (.inl (by omega))))
          go_wp2_with fail
          refine HCN.out.mono ?_
          rintro e w15 ⟨rfl, hb15⟩
          have HT15 := run.hid (HT14.out.next hb15)
          have HO15 := run.hid (run.own_below HO14.out hb15)
          clear hb15 HCN HT14 HO14
          have HLN := run.hid (line_no (c + 1) 0 0 0 1048576 w15 (by decide))
          go_wp2_with fail
          refine HLN.out.mono ?_
          rintro e w16 ⟨rfl, hb16⟩
          have HT16 := run.hid (HT15.out.next hb16)
          have HO16 := run.hid (run.own_below HO15.out hb16)
          clear hb16 HLN HT15 HO15
          have HH := run.hid (has_sts HT16.out.two 1 0)
          rw [h10] at HH
          go_wp2_with fail
          refine HH.out.mono ?_
          rintro e w17 ⟨rfl, hb17⟩
          have HT17 := run.hid (HT16.out.next hb17)
          have HO17 := run.hid (run.own_below HO16.out hb17)
          clear hb17 HH HT16 HO16
          have HH := run.hid (has_sts HT17.out.two 2 1)
          rw [h21] at HH
          go_wp2_with fail
          refine HH.out.mono ?_
          rintro e w18 ⟨rfl, hb18⟩
          have HT18 := run.hid (HT17.out.next hb18)
          have HO18 := run.hid (run.own_below HO17.out hb18)
          clear hb18 HH HT17 HO17
          have HH := run.hid (has_sts HT18.out.two 0 0)
          rw [h00] at HH
          go_wp2_with fail
          refine HH.out.mono ?_
          rintro e w19 ⟨rfl, hb19⟩
          have HT19 := run.hid (HT18.out.next hb19)
          have HO19 := run.hid (run.own_below HO18.out hb19)
          clear hb19 HH HT18 HO18
          have hcell0 := HO19.out.cellAt 0 (by simp)
          have hcell1 := HO19.out.cellAt 1 (by simp)
          simp only [List.map_cons, List.map_nil, List.getElem?_cons_zero, List.getElem?_cons_succ] at hcell0 hcell1
          have HB19 := run.hid HT19.out.two.below
          have hsz := HB19.out.size
          clear HT19 HO19 HNAN
          have HNAN := run.hid (fun w' => nan_fn w')
          have HINF := run.hid (fun w' => inf_up w')
          unfold PINF at HINF
          have HS1 := run.hid (spark_any [4617315517961601024, 4617315517961601024] _ 2 3 _ (reads_new [4617315517961601024, 4617315517961601024] w19 34) (by decide) (by decide) (by decide) (by omega))
          rw [spark1] at HS1
          have HB20 := run.hid (HB19.out.trans ((run.below_one w19 (.cells #[.float .f64 4617315517961601024, .float .f64 4617315517961601024] 34)).mono hsz))
          clear HB19
          go_wp2_with fail
          refine HS1.out.mono ?_
          rintro e w21 ⟨rfl, hb21⟩
          have HB21 := run.hid (HB20.out.trans (hb21.mono HB20.out.size))
          clear hb21 HB20 HS1
          go_wp2_with fail
          refine (HNAN.out _).mono ?_
          rintro e w' ⟨rfl, rfl⟩
          go_wp2_with fail
          refine (HINF.out _).mono ?_
          rintro e w' ⟨rfl, rfl⟩
          have HS2 := run.hid (spark_any [0, 4607182418800017408, 9221120237041090561, 9218868437227405312] _ 4 4 _ (reads_new [0, 4607182418800017408, 9221120237041090561, 9218868437227405312] w21 34) (by decide) (by decide) (by decide) (by omega))
          rw [spark2] at HS2
          have HB22 := run.hid (HB21.out.trans ((run.below_one w21 (.cells #[.float .f64 0, .float .f64 4607182418800017408, .float .f64 9221120237041090561, .float .f64 9218868437227405312] 34)).mono HB21.out.size))
          clear HB21
          go_wp2_with fail
          refine HS2.out.mono ?_
          rintro e w23 ⟨rfl, hb23⟩
          have HB23 := run.hid (HB22.out.trans (hb23.mono HB22.out.size))
          clear hb23 HB22 HS2
          have HB2 := run.hid (bar_any 1 3 1 w23 (by omega) (by omega) (by omega))
          rw [bar2] at HB2
          go_wp2_with fail
          refine HB2.out.mono ?_
          rintro e w24 ⟨rfl, hb24⟩
          have HB24 := run.hid (HB23.out.trans (hb24.mono HB23.out.size))
          clear hb24 HB23 HB2
          have HB3 := run.hid (bar_any 7 0 2 w24 (by omega) (by omega) (by omega))
          rw [bar3] at HB3
          go_wp2_with fail
          refine HB3.out.mono ?_
          rintro e w25 ⟨rfl, hb25⟩
          have HB25 := run.hid (HB24.out.trans (hb25.mono HB24.out.size))
          clear hb25 HB24 HB3
          have HB4 := run.hid (bar_any 9 3 1 w25 (by omega) (by omega) (by omega))
          rw [bar4] at HB4
          go_wp2_with fail
          refine HB4.out.mono ?_
          rintro e w26 ⟨rfl, hb26⟩
          have HB26 := run.hid (HB25.out.trans (hb26.mono HB25.out.size))
          clear hb26 HB25 HB4
          have HB5 := run.hid (bar_any 1 2 (-1) w26 (by omega) (by omega) (by omega))
          rw [bar5] at HB5
          go_wp2_with fail
          refine HB5.out.mono ?_
          rintro e w27 ⟨rfl, hb27⟩
          have HB27 := run.hid (HB26.out.trans (hb27.mono HB26.out.size))
          clear hb27 HB26 HB5
          go_wp2
          go_ret
          exact ⟨rfl, HB27.out⟩
end Go.Proofs.YtghbpbaopcibkaaDoor.can
