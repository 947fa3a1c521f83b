/-
  The walks of the layer canvas: a canvas made; its size.
-/
import Derived.Test.YtbfheehaagcmeaaDoorCanDotA
namespace Go.Proofs.YtbfheehaagcmeaaDoor.can
open Go.RowKit Go.Proofs
set_option linter.unusedVariables false

theorem info_u8 : (Tryd.prog.info? 5).map (fun i => (i.zero, i.size, i.bytes)) = some (some (.int .u8 0), 1, 1) := by kernel_rfl

/-- may a canvas be that large? -/
def sizedOk (w h : Int) : Bool := decide (0 ≤ w ∧ w ≤ 4096 ∧ 0 ≤ h ∧ h ≤ 4096 ∧ w * h ≤ 1048576)

theorem canvas_new (B W H : Nat) (w : World) (hB : B ≤ w.heap.size) (h1 : W ≤ 4096) (h2 : H ≤ 4096) (h3 : W * H ≤ 1048576) :
    Canvas B (w.heap.size + 1) w.heap.size W H (fun _ _ => false) ((w.alloc (.cells (madeCells #[.int .u8 0] (W * H)) 5)).alloc (.cells #[.int .i64 W, .int .i64 H, .slice (some ⟨w.heap.size, 0, none⟩) (W * H) (W * H)] 76)) := by
  refine ⟨by omega, by omega, fun _ => 0, ?_, fun x y _ _ => Nat.zero_testBit _⟩
  generalize hn : W * H = n at *
  have hrow := World.rowIs_made w (.int .u8 0) n 5
  have hs : (w.alloc (.cells (madeCells #[.int .u8 0] n) 5)).heap.size = w.heap.size + 1 := by simp
  generalize w.alloc (.cells (madeCells #[.int .u8 0] n) 5) = w1 at *
  rw [← hs]
  subst hn
  exact ⟨World.cell?_alloc_at _ _ _ _ rfl, World.cell?_alloc_at _ _ _ _ rfl, World.cell?_alloc_at _ _ _ _ rfl, hrow.alloc _, by omega, fun i hi => by show 0 < 256; decide, h1, h2, h3⟩

set_option maxRecDepth 100000 in
set_option maxHeartbeats 1000000 in
theorem new_ok (W H : Nat) (w : World) (h1 : W ≤ 4096) (h2 : H ≤ 4096) (h3 : W * H ≤ 1048576) :
    Calls Tryd.prog 18 #[.int .i64 W, .int .i64 H] w fun e w' => e = .returned (.tuple #[.pointer (some ⟨w.heap.size + 1, 0, none⟩), .int .i64 0]) ∧ w' = (w.alloc (.cells (madeCells #[.int .u8 0] (W * H)) 5)).alloc (.cells #[.int .i64 W, .int .i64 H, .slice (some ⟨w.heap.size, 0, none⟩) (W * H) (W * H)] 76) := by
  have hmk := run_make_row' (P := Tryd.prog) 74 5 (.int .u8 0) 1 Tryd.underlying74 info_u8 rfl .i64 .i64 (W * H) (by omega) (by omega) w
  rw [Int.natCast_mul] at hmk
  have hcm := Int.natCast_mul W H
  have h3' : (W : Int) * (H : Int) ≤ 1048576 := by rw [← hcm]; omega
  have h4' : 0 ≤ (W : Int) * (H : Int) := by rw [← hcm]; omega
  clear hcm
  clear h3
  go_enter Tryd.func18, Tryd.ntmps18
  go_wp2
  go_ret2
  exact ⟨rfl, rfl⟩

set_option maxHeartbeats 1000000 in
theorem new_no (a c : Int) (w : World) (ha : -9223372036854775808 ≤ a ∧ a ≤ 9223372036854775807) (hc : -9223372036854775808 ≤ c ∧ c ≤ 9223372036854775807) (h : sizedOk a c = false) :
    Calls Tryd.prog 18 #[.int .i64 a, .int .i64 c] w fun e w' => e = .returned (.tuple #[.pointer none, .int .i64 5]) ∧ w = w' := by
  unfold sizedOk at h
  simp only [decide_eq_false_iff_not] at h
  by_cases h1 : a < 0
  · clear h
    go_enter Tryd.func18, Tryd.ntmps18
    go_wp2
    go_ret2
    exact ⟨rfl, rfl⟩
  have h1' : 0 ≤ a := by omega
  by_cases h2 : 4096 < a
  · clear h
    go_enter Tryd.func18, Tryd.ntmps18
    go_wp2
    go_ret2
    exact ⟨rfl, rfl⟩
  have h2' : a ≤ 4096 := by omega
  by_cases h3 : c < 0
  · clear h
    go_enter Tryd.func18, Tryd.ntmps18
    go_wp2
    go_ret2
    exact ⟨rfl, rfl⟩
  have h3' : 0 ≤ c := by omega
  by_cases h4 : 4096 < c
  · clear h
    go_enter Tryd.func18, Tryd.ntmps18
    go_wp2
    go_ret2
    exact ⟨rfl, rfl⟩
  have h4' : c ≤ 4096 := by omega
  have h5 : 1048576 < a * c := by omega
  have h6 : a * c ≤ 16777216 := by
    have := Int.mul_le_mul h2' h4' h3' (by omega : (0 : Int) ≤ 4096)
    omega
  clear h
  go_enter Tryd.func18, Tryd.ntmps18
  go_wp2
  go_ret2
  exact ⟨rfl, rfl⟩

set_option maxHeartbeats 1000000 in
theorem size_any (B b g W H : Nat) (S : Int → Int → Bool) (w : World) (h : Canvas B b g W H S w) :
    Calls Tryd.prog 9 #[.pointer (some ⟨b, 0, none⟩)] w fun e w' => e = .returned (.tuple #[.int .i64 (2 * (W : Int)), .int .i64 (4 * (H : Int))]) ∧ Below w.heap.size w w' := by
  obtain ⟨-, -, d, h, -⟩ := h
  have e0 := h.h0
  have e1 := h.h1
  have b1 := h.wide
  have b2 := h.high
  clear h
  go_enter Tryd.func9, Tryd.ntmps9
  go_wp2
  go_quiet (fail)
  go_wp2
  go_ret2
  exact ⟨rfl, drewN_below _ _ _⟩
set_option maxHeartbeats 1000000 in
theorem size_nil (w : World) :
    Calls Tryd.prog 9 #[.pointer none] w fun e w' => e = .returned (.tuple #[.int .i64 0, .int .i64 0]) ∧ w = w' := by
  go_enter Tryd.func9, Tryd.ntmps9
  go_wp2
  go_ret2
  exact ⟨rfl, rfl⟩

end Go.Proofs.YtbfheehaagcmeaaDoor.can
