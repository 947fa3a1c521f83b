/-
  The walk of the law CellsNil: a nil buffer.
-/
import Derived.Test.YtinnggiohalifaaCelWakes
import Derived.Test.YtinnggiohalifaaCelScreen
import Derived.Test.YtinnggiohalifaaCelOpen
namespace Go.Proofs.Ytinnggiohalifaa.cel
open Go Go.RowKit Go.Proofs
set_option linter.unusedVariables false

set_option maxHeartbeats 400000 in
theorem size_nil (w : World) : Calls Try.prog 16 #[.pointer none] w fun e w' => e = .returned (.agg #[.int .i64 0, .int .i64 0]) ∧ Below w.heap.size w w' := by
  have hb := run.below_one w (.cells #[.int .i64 0, .int .i64 0] 33)
  go_enter Try.func16, Try.ntmps16
  go_wp2
  refine bodyPost_ret (v := .agg #[.int .i64 0, .int .i64 0]) (results_cell_row rfl _ _ w.heap.size _ _ _ _ rfl (heap_alloc_new _ _) Try.underlying33 rfl (by kernel_rfl)) rfl ?_
  exact ⟨rfl, hb⟩
set_option maxHeartbeats 400000 in
theorem fill_nil (r : RT) (s : SV) (w : World) : Calls Try.prog 34 #[.pointer none, r.val, s.val] w fun e w' => e = .returned (.tuple #[]) ∧ Below w.heap.size w w' := by
  obtain ⟨s1, s2, s3⟩ := s
  obtain ⟨r1, r2, r3, r4⟩ := r
  have hb := run.below_two w (.cells #[.int .i64 r1, .int .i64 r2, .int .i64 r3, .int .i64 r4] 58) (.cells #[.int .i32 s1, .int .i32 s2, .int .u8 s3] 24)
  show Calls _ _ #[_, .agg #[.int .i64 r1, .int .i64 r2, .int .i64 r3, .int .i64 r4], .agg #[.int .i32 s1, .int .i32 s2, .int .u8 s3]] _ _
  go_enter Try.func34, Try.ntmps34
  go_wp2
  first | go_end0 | (refine bodyPost_ret (results_none rfl _ _ _) rfl ?_)
  exact ⟨rfl, hb⟩
set_option maxHeartbeats 400000 in
theorem shift_nil (r : RT) (by' : Int) (s : SV) (w : World) : Calls Try.prog 35 #[.pointer none, r.val, .int .i64 by', s.val] w fun e w' => e = .returned (.tuple #[]) ∧ Below w.heap.size w w' := by
  obtain ⟨s1, s2, s3⟩ := s
  obtain ⟨r1, r2, r3, r4⟩ := r
  have hb := run.below_two w (.cells #[.int .i64 r1, .int .i64 r2, .int .i64 r3, .int .i64 r4] 58) (.cells #[.int .i32 s1, .int .i32 s2, .int .u8 s3] 24)
  show Calls _ _ #[_, .agg #[.int .i64 r1, .int .i64 r2, .int .i64 r3, .int .i64 r4], _, .agg #[.int .i32 s1, .int .i32 s2, .int .u8 s3]] _ _
  go_enter Try.func35, Try.ntmps35
  go_wp2
  first | go_end0 | (refine bodyPost_ret (results_none rfl _ _ _) rfl ?_)
  exact ⟨rfl, hb⟩
set_option maxHeartbeats 1000000 in
theorem paste_nil (x y : Int) (v : Value) (r : RT) (w : World) (hv : ∃ a n c, v = .slice a n c) : Calls Try.prog 42 #[.pointer none, .int .i64 x, .int .i64 y, v, r.val] w fun e w' => e = .returned (.int .i64 1) ∧ Below w.heap.size w w' := by
  obtain ⟨a, n, c, rfl⟩ := hv
  obtain ⟨r1, r2, r3, r4⟩ := r
  have hb := ((((run.below_two w (.cells #[.pointer none] 27) (.cells #[.int .i64 x] 3)).alloc (by simp <;> omega) (.cells #[.int .i64 y] 3)).alloc (by simp <;> omega) (.cells #[.slice a n c] 35)).alloc (by simp <;> omega) (.cells #[.int .i64 r1, .int .i64 r2, .int .i64 r3, .int .i64 r4] 58))
  show Calls _ _ #[_, _, _, _, .agg #[.int .i64 r1, .int .i64 r2, .int .i64 r3, .int .i64 r4]] _ _
  go_enter Try.func42, Try.ntmps42
  go_wp2
  go_ret
  exact ⟨rfl, hb⟩

/-- a step of a script -/
structure StepV where
  what : Int
  x : Int
  y : Int
  text : ByteArray
  sty : SV
  r : RT
  a : Option Addr
  n : Nat
  c : Nat
  by' : Int
def StepV.cells (s : StepV) : Array Value := #[.int .i64 s.what, .int .i64 s.x, .int .i64 s.y, .string s.text, .int .i32 s.sty.fg, .int .i32 s.sty.bg, .int .u8 s.sty.att, .int .i64 s.r.x, .int .i64 s.r.y, .int .i64 s.r.w, .int .i64 s.r.h, .slice s.a s.n s.c, .int .i64 s.by']
def StepV.ok (s : StepV) : Prop := w64 s.what ∧ w64 s.x ∧ w64 s.y ∧ s.text.size ≤ maxLen ∧ s.sty.ok ∧ s.r.wf ∧ w64 s.by' ∧ s.n ≤ s.c ∧ s.c ≤ maxLen
section
open Go.ChangeShapes Go.WideShapes Go.ChangeAt
variable {H : Type} {enc : TypeId × Value → H} {w : World} {base : Nat} {held : Bool}
set_option maxRecDepth 100000 in
theorem trod_step {fuel : Nat} {cs : List Value} {x : DataW H × List MemPlace} (h : DataW.trod enc Try.prog w base (fun _ => true) held fuel 73 cs = some x) : ∃ (s : StepV) (L : List CV), cs = s.cells.toList ∧ s.ok ∧ s.n = L.length ∧ Reads5 w (.slice s.a s.n s.c) L ∧ ∀ c ∈ L, c.ok := by
  obtain ⟨hl, n, hf⟩ := trod_fields Try.underlying73 h
  rw [show Try.prog.cellsOf 73 = 13 by kernel_rfl] at hl
  match cs, hl with
  | [c0, c1, c2, c3, c4, c5, c6, c7, c8, c9, c10, c11, c12], _ =>
    obtain ⟨y0, h0⟩ := hf 0 _ rfl
    obtain ⟨y1, h1⟩ := hf 1 _ rfl
    obtain ⟨y2, h2⟩ := hf 2 _ rfl
    obtain ⟨y3, h3⟩ := hf 3 _ rfl
    obtain ⟨y4, h4⟩ := hf 4 _ rfl
    obtain ⟨y5, h5⟩ := hf 5 _ rfl
    obtain ⟨y6, h6⟩ := hf 6 _ rfl
    obtain ⟨y7, h7⟩ := hf 7 _ rfl
    obtain ⟨n0, e0, -, w0⟩ := DataW.trod_int Try.underlying3 h0
    obtain ⟨n1, e1, -, w1⟩ := DataW.trod_int Try.underlying3 h1
    obtain ⟨n2, e2, -, w2⟩ := DataW.trod_int Try.underlying3 h2
    obtain ⟨s3, e3, -, w3⟩ := DataW.trod_string Try.underlying9 h3
    obtain ⟨s4, e4, w4⟩ := trod_sty h4
    obtain ⟨r5, e5, w5⟩ := trod_rect h5
    obtain ⟨a6, cap6, L, e6, w6, l6, m6, k6⟩ := trod_row h6
    obtain ⟨n7, e7, -, w7⟩ := DataW.trod_int Try.underlying3 h7
    change [c0] = _ at e0
    change [c1] = _ at e1
    change [c2] = _ at e2
    change [c3] = _ at e3
    change [c4, c5, c6] = _ at e4
    change [c7, c8, c9, c10] = _ at e5
    change [c11] = _ at e6
    change [c12] = _ at e7
    simp only [List.cons.injEq, and_true] at e0 e1 e2 e3 e4 e5 e6 e7
    obtain ⟨rfl, rfl, rfl⟩ := e4
    obtain ⟨rfl, rfl, rfl, rfl⟩ := e5
    subst e0 e1 e2 e3 e6 e7
    exact ⟨⟨n0, n1, n2, s3, s4, r5, a6, L.length, cap6, n7⟩, L, rfl, ⟨wf_i64 w0, wf_i64 w1, wf_i64 w2, w3, w4, w5, wf_i64 w7, l6, m6⟩, rfl, w6, k6⟩
set_option maxRecDepth 100000 in
theorem open_step {v : Value} {d : DataW H} {p : List MemPlace} (hv : Value.okWide Try.prog w .any base 73 v) (h : DataW.Trod enc Try.prog w 0 (fun _ => true) true 73 v d p) :
    ∃ (s : StepV) (L : List CV), v = .agg s.cells ∧ s.ok ∧ s.n = L.length ∧ Reads5 w (.slice s.a s.n s.c) L ∧ ∀ c ∈ L, c.ok := by
  obtain ⟨cs, rfl, -⟩ := okWide_struct Try.underlying73 hv
  obtain ⟨fuel, hf⟩ := h
  obtain ⟨s, L, he, hr⟩ := trod_step hf
  refine ⟨s, L, ?_, hr⟩
  have : cs.toList = s.cells.toList := he
  rw [Array.toList_inj.1 this]
end

theorem blk13 {w : World} {k : Nat} {t : TypeId} (s : StepV) (h : w.heap[k]? = some (.cells s.cells t (0, 0))) :
    w.cell? ⟨k, 0, none⟩ = some (.int .i64 s.what) ∧ w.cell? ⟨k, 1, none⟩ = some (.int .i64 s.x) ∧ w.cell? ⟨k, 2, none⟩ = some (.int .i64 s.y) ∧ w.cell? ⟨k, 3, none⟩ = some (.string s.text) ∧ w.cell? ⟨k, 4, none⟩ = some (.int .i32 s.sty.fg) ∧ w.cell? ⟨k, 5, none⟩ = some (.int .i32 s.sty.bg) ∧ w.cell? ⟨k, 6, none⟩ = some (.int .u8 s.sty.att) ∧
    w.cell? ⟨k, 7, none⟩ = some (.int .i64 s.r.x) ∧ w.cell? ⟨k, 8, none⟩ = some (.int .i64 s.r.y) ∧ w.cell? ⟨k, 9, none⟩ = some (.int .i64 s.r.w) ∧ w.cell? ⟨k, 10, none⟩ = some (.int .i64 s.r.h) ∧ w.cell? ⟨k, 11, none⟩ = some (.slice s.a s.n s.c) ∧ w.cell? ⟨k, 12, none⟩ = some (.int .i64 s.by') :=
  ⟨blk_cell h 0, blk_cell h 1, blk_cell h 2, blk_cell h 3, blk_cell h 4, blk_cell h 5, blk_cell h 6, blk_cell h 7, blk_cell h 8, blk_cell h 9, blk_cell h 10, blk_cell h 11, blk_cell h 12⟩

set_option maxRecDepth 100000 in
set_option maxHeartbeats 8000000 in
theorem lawNil_any (s : StepV) (w : World) : Calls Try.prog 10 #[.agg s.cells] w fun e w' => e = .returned (.bool true) ∧ Below w.heap.size w w' := by
  have HF := run.hid (fun w => fill_nil s.r s.sty w)
  have HS := run.hid (fun w => shift_nil s.r s.by' s.sty w)
  have HC := run.hid (fun w => cell_nil s.x s.y w)
  have HSC := run.hid (fun w => screen_nil w)
  have HSZ := run.hid (fun w => size_nil w)
  have HP := run.hid (fun w => put_nil s.x s.y s.text s.sty s.r w)
  have HPA := run.hid (fun w => paste_nil s.x s.y (.slice s.a s.n s.c) s.r w ⟨_, _, _, rfl⟩)
  have HW := run.hid (fun w => wakes_any w)
  have k0 := heap_alloc_new w (.cells s.cells 73)
  have hb0 := run.below_one w (.cells s.cells 73)
  have HK := run.hid (fun (w' : World) (h : Below (w.heap.size + 1) (w.alloc (.cells s.cells 73)) w') => blk13 s ((h.block w.heap.size (by omega)).trans k0))
  have HB0 := run.hid hb0
  clear k0 hb0
  obtain ⟨what, x, y, text, ⟨fg, bg, att⟩, ⟨rx, ry, rw', rh⟩, a, n, c, by'⟩ := s
  unfold StepV.cells at *
  dsimp only at *
  generalize hW0 : w.alloc (.cells #[.int .i64 what, .int .i64 x, .int .i64 y, .string text, .int .i32 fg, .int .i32 bg, .int .u8 att, .int .i64 rx, .int .i64 ry, .int .i64 rw', .int .i64 rh, .slice a n c, .int .i64 by'] 73) = w0 at *
  have hs0 : w0.heap.size = w.heap.size + 1 := by rw [← hW0]; simp
  change Hid (∀ w, Calls _ _ #[_, .agg #[.int .i64 rx, .int .i64 ry, .int .i64 rw', .int .i64 rh], .agg #[.int .i32 fg, .int .i32 bg, .int .u8 att]] w _) at HF
  change Hid (∀ w, Calls _ _ #[_, .agg #[.int .i64 rx, .int .i64 ry, .int .i64 rw', .int .i64 rh], _, .agg #[.int .i32 fg, .int .i32 bg, .int .u8 att]] w _) at HS
  change Hid (∀ w, Calls _ _ #[_, _, _, _, .agg #[.int .i32 fg, .int .i32 bg, .int .u8 att], .agg #[.int .i64 rx, .int .i64 ry, .int .i64 rw', .int .i64 rh]] w _) at HP
  change Hid (∀ w, Calls _ _ #[_, _, _, _, .agg #[.int .i64 rx, .int .i64 ry, .int .i64 rw', .int .i64 rh]] w _) at HPA
  change Hid (∀ w, Calls _ _ _ w fun e w' => e = .returned (.tuple #[.agg #[.string ⟨#[]⟩, .int .i8 0, .int .i32 0, .int .i32 0, .int .u8 0], .bool false]) ∧ _) at HC
  change Hid (∀ w, Calls _ _ _ w fun e w' => e = .returned (.agg #[.int .i64 0, .int .i64 0, .slice none 0 0, .int .i64 0, .int .i64 0, .bool false]) ∧ _) at HSC
  go_enter Try.func10, Try.ntmps10
  go_upto_region 2 with fail
  obtain ⟨c0, c1, c2, c3, c4, c5, c6, c7, c8, c9, c10, c11, c12⟩ := HK.out w0 (Below.refl _ _)
  have HB := run.hid (Below.refl (w.heap.size + 1) w0)
  go_wp2_with fail
  refine (HF.out _).mono ?_
  rintro e w1 ⟨rfl, hb1⟩
  have hB1 := HB.out.trans (hb1.mono (by omega))
  clear c0 c1 c2 c3 c4 c5 c6 c7 c8 c9 c10 c11 c12
  obtain ⟨c0, c1, c2, c3, c4, c5, c6, c7, c8, c9, c10, c11, c12⟩ := HK.out w1 hB1
  have hs1 := hb1.size
  clear hb1
  go_wp2_with fail
  refine (HS.out _).mono ?_
  rintro e w2 ⟨rfl, hb2⟩
  have hB2 := hB1.trans (hb2.mono (by omega))
  clear c0 c1 c2 c3 c4 c5 c6 c7 c8 c9 c10 c11 c12
  obtain ⟨c0, c1, c2, c3, c4, c5, c6, c7, c8, c9, c10, c11, c12⟩ := HK.out w2 hB2
  have hs2 := hb2.size
  clear hb2
  go_wp2_with fail
  refine (HC.out _).mono ?_
  rintro e w3 ⟨rfl, hb3⟩
  have hs3 := hb3.size
  have hB3 := (hB2.trans (hb3.mono (by omega))).alloc (by omega) (.cells #[.string ⟨#[]⟩, .int .i8 0, .int .i32 0, .int .i32 0, .int .u8 0] 44)
  have K3 := run.hid (heap_alloc_new w3 (.cells #[.string ⟨#[]⟩, .int .i8 0, .int .i32 0, .int .i32 0, .int .u8 0] 44))
  clear c0 c1 c2 c3 c4 c5 c6 c7 c8 c9 c10 c11 c12
  clear hb3
  go_wp2_with fail
  refine (HSC.out _).mono ?_
  rintro e w4 ⟨rfl, hb4⟩
  have hs4 := hb4.size
  simp only [World.size_alloc] at hs4
  have hB4 := (hB3.trans (hb4.mono (by simp; omega))).alloc (by omega) (.cells #[.int .i64 0, .int .i64 0, .slice none 0 0, .int .i64 0, .int .i64 0, .bool false] 49)
  have K34 := run.hid ((blk_old (.cells #[.int .i64 0, .int .i64 0, .slice none 0 0, .int .i64 0, .int .i64 0, .bool false] 49) (by omega)).trans ((hb4.block w3.heap.size (by simp)).trans K3.out))
  have K4 := run.hid (heap_alloc_new w4 (.cells #[.int .i64 0, .int .i64 0, .slice none 0 0, .int .i64 0, .int .i64 0, .bool false] 49))
  have HKF := run.hid (fun (w' : World) (h : Below (w4.heap.size + 1) (w4.alloc (.cells #[.int .i64 0, .int .i64 0, .slice none 0 0, .int .i64 0, .int .i64 0, .bool false] 49)) w') => And.intro (HK.out w' (hB4.trans (h.mono (by omega)))) (And.intro (blk5 ((h.block w3.heap.size (by omega)).trans K34.out)).1 (blk6 ((h.block w4.heap.size (by omega)).trans K4.out)).1))
  have hsz4 : (w4.alloc (.cells #[.int .i64 0, .int .i64 0, .slice none 0 0, .int .i64 0, .int .i64 0, .bool false] 49)).heap.size = w4.heap.size + 1 := by simp
  have hcov := HB0.out
  clear hb4 HK K3 K4 K34 hB1 hB2 hB3
  have HSZ4 := run.hid hsz4
  clear hsz4
  go_wp2_with fail
  have hsz4 := HSZ4.out
  generalize hW4 : w4.alloc (.cells #[.int .i64 0, .int .i64 0, .slice none 0 0, .int .i64 0, .int .i64 0, .bool false] 49) = w5 at *
  clear HSZ4 hW4
  refine (HSZ.out _).mono ?_
  rintro e w6 ⟨rfl, hb6⟩
  have hs6 := hb6.size
  have hB6 := (Below.refl (w4.heap.size + 1) w5).trans (hb6.mono (by omega))
  clear hb6
  obtain ⟨⟨c0, c1, c2, c3, c4, c5, c6, c7, c8, c9, c10, c11, c12⟩, ⟨d0, d1, d2, d3, d4⟩, -⟩ := HKF.out w6 hB6
  go_wp2_with fail
  refine (HP.out _).mono ?_
  rintro e w7 ⟨rfl, hb7⟩
  have hs7 := hb7.size
  have hB7 := hB6.trans (hb7.mono (by omega))
  clear hb7 c0 c1 c2 c3 c4 c5 c6 c7 c8 c9 c10 c11 c12 d0 d1 d2 d3 d4
  obtain ⟨⟨c0, c1, c2, c3, c4, c5, c6, c7, c8, c9, c10, c11, c12⟩, -⟩ := HKF.out w7 hB7
  go_wp2_with fail
  refine (HPA.out _).mono ?_
  rintro e w8 ⟨rfl, hb8⟩
  have hs8 := hb8.size
  have hB8 := hB7.trans (hb8.mono (by omega))
  clear hb8 c0 c1 c2 c3 c4 c5 c6 c7 c8 c9 c10 c11 c12
  obtain ⟨-, -, d0, d1, d2, d3, d4, d5⟩ := HKF.out w8 hB8
  go_wp2_with fail
  refine (HW.out _).mono ?_
  rintro e w9 ⟨rfl, hb9⟩
  have hB9 := hB8.trans (hb9.mono (by omega))
  clear d0 d1 d2 d3 d4 d5
  go_wp2
  go_ret
  exact ⟨rfl, hcov.trans ((hB4.trans (hB9.mono (by omega))).mono (by omega))⟩
end Go.Proofs.Ytinnggiohalifaa.cel
