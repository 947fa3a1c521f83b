/-
  The walk of the helper of the laws of layer canvas: a line of dots, a bar and a spark.
-/
import Derived.Test.YtbfheehaagcmeaaDoorCanSparks
import Derived.Test.YtbfheehaagcmeaaDoorCanLines
import Derived.KernelRfl
namespace Go.Proofs.YtbfheehaagcmeaaDoor.can
open Go.RowKit Go.Proofs Go.Proofs.YtbfheehaagcmeaaDoor.flo
set_option linter.unusedVariables false

def bitv (i : Nat) : Nat := [1, 2, 4, 64, 8, 16, 32, 128].getD i 0
/-- a cell's bits, by its dots -/
def cellByte (S : Int → Int → Bool) (x y : Nat) : Nat := ((List.range 8).map fun i => if S ((2 * x + i / 4 : Nat) : Int) ((4 * y + i % 4 : Nat) : Int) then bitv i else 0).sum
def rowS (S : Int → Int → Bool) (W y : Nat) : ByteArray := strOf ((List.range W).map fun x => glyphC (cellByte S x y))

def bitAt (i : Nat) : Nat := [0, 1, 2, 6, 3, 4, 5, 7].getD i 0
theorem byte_sum : ∀ c : Nat, c < 256 → ((List.range 8).map fun i => if c.testBit (bitAt i) then bitv i else 0).sum = c := by
  have h : ∀ c ∈ List.range 256, ((List.range 8).map fun i => if c.testBit (bitAt i) then bitv i else 0).sum = c := by decide +kernel
  intro c hc
  exact h c (by simpa using hc)
theorem bitNo_at (x y i : Nat) (hi : i < 8) : bitNo (2 * x + i / 4) (4 * y + i % 4) = bitAt i := by
  have h : i = 0 ∨ i = 1 ∨ i = 2 ∨ i = 3 ∨ i = 4 ∨ i = 5 ∨ i = 6 ∨ i = 7 := by omega
  unfold bitNo
  rcases h with rfl | rfl | rfl | rfl | rfl | rfl | rfl | rfl <;> simp [bitAt] <;> omega
theorem cellNo_at (W x y i : Nat) (hi : i < 8) : cellNo W (2 * x + i / 4) (4 * y + i % 4) = y * W + x := by
  unfold cellNo
  rw [show (4 * y + i % 4) / 4 = y by omega, show (2 * x + i / 4) / 2 = x by omega]
theorem byte_shows {W H : Nat} {d : Nat → Nat} {S : Int → Int → Bool} (h : Shows W H d S) (hs : ∀ i, i < W * H → d i < 256) {x y : Nat} (hx : x < W) (hy : y < H) : d (y * W + x) = cellByte S x y := by
  have hlt : y * W + x < W * H := by
    have h1 := Nat.mul_le_mul_right W (show y + 1 ≤ H by omega)
    rw [Nat.add_mul, Nat.one_mul, Nat.mul_comm H W] at h1
    omega
  rw [← byte_sum _ (hs _ hlt)]
  unfold cellByte
  congr 1
  apply List.map_congr_left
  intro i hi
  have hi8 : i < 8 := by simpa using hi
  have := h (2 * x + i / 4) (4 * y + i % 4) (by omega) (by omega)
  rw [cellNo_at W x y i hi8, bitNo_at x y i hi8] at this
  rw [this]

/-- THE CELLS AS CHARACTERS. -/
theorem rows_any (B b g W H : Nat) (S : Int → Int → Bool) (w : World) (h : Canvas B b g W H S w) :
    Calls Tryd.prog 23 #[.pointer (some ⟨b, 0, none⟩)] w fun e w' => ∃ v, e = .returned v ∧ w'.ownsRow w.heap.size 9 1 v H ((List.range H).map fun y => .string (rowS S W y)) ∧ Below w.heap.size w w' := by
  obtain ⟨-, -, d, hc, hs⟩ := h
  refine (rows_c b g W H d w hc).mono ?_
  rintro e w' ⟨v, he, ho, hb⟩
  refine ⟨v, he, ?_, hb⟩
  rwa [show (List.range H).map (fun y => Value.string (rowC d W y)) = (List.range H).map (fun y => Value.string (rowS S W y)) from List.map_congr_left (fun y hy => by
    have hy' : y < H := by simpa using hy
    unfold rowC rowS
    rw [show (List.range W).map (fun x => glyphC (d (y * W + x))) = (List.range W).map (fun x => glyphC (cellByte S x y)) from List.map_congr_left (fun x hx => by
      rw [byte_shows hs hc.small (by simpa using hx) hy'])])] at ho
set_option maxHeartbeats 400000 in
theorem rows_nil (w : World) : Calls Tryd.prog 23 #[.pointer none] w fun e w' => e = .returned (.slice none 0 0) ∧ w = w' := by
  go_enter Tryd.func23, Tryd.ntmps23
  go_wp2
  go_ret
  exact ⟨rfl, rfl⟩

theorem own_some {w : World} {B e sz n : Nat} {v : Value} {xs : List Value} (h : w.ownsRow B e sz v n xs) (hn : 0 < n) : ∃ g cap, v = .slice (some ⟨g, 0, none⟩) n cap := by
  rcases h.2 with ⟨rfl, h0⟩ | ⟨g, cap, cur, rfl, -⟩
  · omega
  · exact ⟨g, cap, rfl⟩
theorem reads_new (l : List Nat) (w : World) (t : TypeId) : run.Reads (w.alloc (.cells (l.map F).toArray t)) (.slice (some ⟨w.heap.size, 0, none⟩) l.length l.length) (l.map F) := by
  have h := (run.readsN_new w (l.map F) l.length 1 t (by simp)).one
  simpa using h
def none0 : Int → Int → Bool := fun _ _ => false
def S0 : Int → Int → Bool := plots none0 (lineL 0 0 3 1 (lineN 0 0 3 1).toNat)
theorem k_row : rowS S0 2 0 = ⟨#[226, 160, 137, 226, 160, 146]⟩ := by decide +kernel
theorem k_has1 : (inside 2 1 2 1 && S0 2 1) = true := by decide +kernel
theorem k_has2 : (inside 2 1 0 1 && S0 0 1) = false := by decide +kernel
theorem k_bar : barT 1 2 3 = ⟨#[226, 150, 136, 226, 150, 140, 32]⟩ := by decide +kernel
theorem k_spark : sparkT [4607182418800017408, 4611686018427387904, 4613937818241073152] 2 = ⟨#[226, 150, 129, 226, 150, 136]⟩ := by decide +kernel

theorem Dots.lt {w : World} (h : Dots w) : 2 < w.heap.size := run.lt_of_cell (h 0 0 (by omega) (by omega))

set_option maxRecDepth 100000 in
set_option maxHeartbeats 4000000 in
theorem alive_any (w : World) (hd : Dots w) : Calls Tryd.prog 7 #[] w fun e w' => e = .returned (.bool true) ∧ Below w.heap.size w w' := by
  have hlt := hd.lt
  have HN := run.hid (new_ok 2 1 w (by omega) (by omega) (by omega))
  have hC0 := canvas_new w.heap.size 2 1 w (Nat.le_refl _) (by omega) (by omega) (by omega)
  have hB0 := run.below_two w (.cells (madeCells #[.int .u8 0] (2 * 1)) 5) (.cells #[.int .i64 (2 : Nat), .int .i64 (1 : Nat), .slice (some ⟨w.heap.size, 0, none⟩) (2 * 1) (2 * 1)] 76)
  generalize (w.alloc (.cells (madeCells #[.int .u8 0] (2 * 1)) 5)).alloc (.cells #[.int .i64 (2 : Nat), .int .i64 (1 : Nat), .slice (some ⟨w.heap.size, 0, none⟩) (2 * 1) (2 * 1)] 76) = w1 at *
  have hd1 := hd.below hB0 hlt
  have HL := run.hid (line_any w.heap.size (w.heap.size + 1) w.heap.size 2 1 none0 0 0 3 1 w1 hlt hd1 hC0 (by decide))
  change Hid (Calls _ _ _ _ fun e w' => e = .returned (.int .i64 0) ∧ Canvas w.heap.size (w.heap.size + 1) w.heap.size 2 1 S0 w' ∧ _) at HL
  have HBar := run.hid (fun w => bar_any 1 2 3 w (by omega) (by omega) (by omega))
  rw [k_bar] at HBar
  clear hC0
  go_enter Tryd.func7, Tryd.ntmps7
  go_wp2_with fail
  refine HN.out.mono ?_
  rintro e w' ⟨rfl, rfl⟩
  go_wp2_with fail
  refine HL.out.mono ?_
  rintro e w2 ⟨rfl, hc2, hg2⟩
  have hB2 := hB0.grown hg2 hB0.size (by rintro k ⟨⟩; exact Nat.le_refl _)
  have hd2 := hd.below hB2 hlt
  have hs2 := hB2.size
  have HC2 := run.hid hc2
  have HD2 := run.hid hd2
  clear HN HL hc2 hg2 hd2 hd1 hd hB0
  go_wp2_with fail
  refine (rows_any _ _ _ _ _ _ _ HC2.out).mono ?_
  rintro e w3 ⟨v, rfl, ho, hb3⟩
  have HC3 := run.hid (HC2.out.below hb3)
  have HD3 := run.hid (HD2.out.below hb3 (by omega))
  have hB3 := hB2.trans (hb3.mono hs2)
  rw [show (List.range 1).map (fun y => Value.string (rowS S0 2 y)) = [.string ⟨#[226, 160, 137, 226, 160, 146]⟩] by rw [show List.range 1 = [0] from rfl, List.map_cons, List.map_nil, k_row]] at ho
  obtain ⟨g1, cap1, rfl⟩ := own_some ho (by omega)
  have hcell := ho.cellAt 0 (by simp)
  simp only [List.getElem?_cons_zero] at hcell
  clear ho HC2 HD2 hb3
  have hs3 := hB3.size
  go_wp2_with fail
  refine (has_any _ _ _ _ _ _ 2 1 _ HD3.out HC3.out).mono ?_
  rintro e w4 ⟨rfl, hb4⟩
  rw [k_has1]
  have HC4 := run.hid (HC3.out.below hb4)
  have HD4 := run.hid (HD3.out.below hb4 (by omega))
  have hB4 := hB3.trans (hb4.mono hs3)
  clear HC3 HD3
  have hs4 := hB4.size
  go_wp2_with fail
  refine (has_any _ _ _ _ _ _ 0 1 _ HD4.out HC4.out).mono ?_
  rintro e w5 ⟨rfl, hb5⟩
  rw [k_has2]
  have hB5 := hB4.trans (hb5.mono hs4)
  clear HC4 HD4 hb5 hb4
  have hs5 := hB5.size
  go_wp2_with fail
  refine (HBar.out _).mono ?_
  rintro e w6 ⟨rfl, hb6⟩
  have hB6 := hB5.trans (hb6.mono hs5)
  have hs6 := hB6.size
  clear HBar hb6
  have HSp := run.hid (spark_any [4607182418800017408, 4611686018427387904, 4613937818241073152] (some ⟨w6.heap.size, 0, none⟩) 3 2 _ (reads_new [4607182418800017408, 4611686018427387904, 4613937818241073152] w6 45) (by decide) (by decide) (by decide) (by omega))
  rw [k_spark] at HSp
  go_wp2_with fail
  refine HSp.out.mono ?_
  rintro e w7 ⟨rfl, hb7⟩
  have hB7 := (hB6.alloc hs6 (.cells ([4607182418800017408, 4611686018427387904, 4613937818241073152].map F).toArray 45)).trans (hb7.mono (by simp; omega))
  clear HSp hb7
  go_wp2
  go_ret
  exact ⟨rfl, hB7⟩

end Go.Proofs.YtbfheehaagcmeaaDoor.can
