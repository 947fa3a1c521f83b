/-
  The walks of the document's rows of cells: which are right.
-/
import Derived.Test.YtinnggiohalifaaCelD
import Derived.Test.YtinnggiohalifaaCelC
import Derived.Test.YtinnggiohalifaaCluRefOne
import Derived.Test.YtinnggiohalifaaCelPut
namespace Go.Proofs.Ytinnggiohalifaa.cel
open Go Go.RowKit Go.Proofs
open Go.Proofs.Ytinnggiohalifaa.clu (oneOk OneIs refOne_any)
open Go.Proofs.Ytinnggiohalifaa.utf (bs runes)
set_option linter.unusedVariables false

set_option maxRecDepth 100000 in
set_option maxHeartbeats 2000000 in
theorem refplain_any (s : SV) (hs : s.wf) (w : World) : Calls Try.prog 70 #[s.val] w fun e w' => e = .returned (.bool (decide (overS s = s))) ∧ Below w.heap.size w w' := by
  have HC := run.hid (fun w => refcounts_any s hs w)
  clear hs
  obtain ⟨a, b, c⟩ := s
  obtain ⟨⟨a', b', c'⟩, ho⟩ : ∃ q, q = overS ⟨a, b, c⟩ := ⟨_, rfl⟩
  rw [← ho] at HC ⊢
  clear ho
  change Hid (∀ w, Calls _ _ #[.agg #[.int .i32 a, .int .i32 b, .int .u8 c]] _ fun e w' => e = .returned (.agg #[.int .i32 a', .int .i32 b', .int .u8 c']) ∧ _) at HC
  show Calls _ _ #[.agg #[.int .i32 a, .int .i32 b, .int .u8 c]] _ _
  have hD : decide (SV.mk a' b' c' = ⟨a, b, c⟩) = (decide (a' = a) && (decide (b' = b) && decide (c' = c))) := by rw [Bool.eq_iff_iff]; simp
  rw [hD]
  clear hD
  have hb1 := run.below_one w (.cells #[.int .i32 a, .int .i32 b, .int .u8 c] 24)
  have k1 := heap_alloc_new w (.cells #[.int .i32 a, .int .i32 b, .int .u8 c] 24)
  by_cases h1 : a' = a
  rotate_left
  · go_enter Try.func70, Try.ntmps70
    go_wp2_with fail
    refine (HC.out _).mono ?_
    rintro e w1 ⟨rfl, hb2⟩
    have hB := (hb1.trans (hb2.mono hb1.size)).alloc (hb1.trans (hb2.mono hb1.size)).size (.cells #[.int .i32 a', .int .i32 b', .int .u8 c'] 24)
    have hs2 := hb2.size
    simp only [World.size_alloc] at hs2
    obtain ⟨⟨d0, d1, d2⟩, -⟩ := blk3 ((blk_old (.cells #[.int .i32 a', .int .i32 b', .int .u8 c'] 24) (by omega)).trans ((hb2.block w.heap.size (by simp)).trans k1))
    clear hb2 k1 HC hb1
    go_wp2
    go_ret
    exact ⟨by simp [h1], hB⟩
  subst h1
  by_cases h2 : b' = b
  rotate_left
  · go_enter Try.func70, Try.ntmps70
    go_wp2_with fail
    refine (HC.out _).mono ?_
    rintro e w1 ⟨rfl, hb2⟩
    have hB := (hb1.trans (hb2.mono hb1.size)).alloc (hb1.trans (hb2.mono hb1.size)).size (.cells #[.int .i32 a', .int .i32 b', .int .u8 c'] 24)
    have hs2 := hb2.size
    simp only [World.size_alloc] at hs2
    obtain ⟨⟨d0, d1, d2⟩, -⟩ := blk3 ((blk_old (.cells #[.int .i32 a', .int .i32 b', .int .u8 c'] 24) (by omega)).trans ((hb2.block w.heap.size (by simp)).trans k1))
    clear hb2 k1 HC hb1
    go_wp2
    go_ret
    exact ⟨by simp [h2], hB⟩
  subst h2
  by_cases h3 : c' = c
  rotate_left
  · go_enter Try.func70, Try.ntmps70
    go_wp2_with fail
    refine (HC.out _).mono ?_
    rintro e w1 ⟨rfl, hb2⟩
    have hB := (hb1.trans (hb2.mono hb1.size)).alloc (hb1.trans (hb2.mono hb1.size)).size (.cells #[.int .i32 a', .int .i32 b', .int .u8 c'] 24)
    have hs2 := hb2.size
    simp only [World.size_alloc] at hs2
    obtain ⟨⟨d0, d1, d2⟩, -⟩ := blk3 ((blk_old (.cells #[.int .i32 a', .int .i32 b', .int .u8 c'] 24) (by omega)).trans ((hb2.block w.heap.size (by simp)).trans k1))
    clear hb2 k1 HC hb1
    go_wp2
    go_ret
    exact ⟨by simp [h3], hB⟩
  subst h3
  go_enter Try.func70, Try.ntmps70
  go_wp2_with fail
  refine (HC.out _).mono ?_
  rintro e w1 ⟨rfl, hb2⟩
  have hB := (hb1.trans (hb2.mono hb1.size)).alloc (hb1.trans (hb2.mono hb1.size)).size (.cells #[.int .i32 a', .int .i32 b', .int .u8 c'] 24)
  have hs2 := hb2.size
  simp only [World.size_alloc] at hs2
  obtain ⟨⟨d0, d1, d2⟩, -⟩ := blk3 ((blk_old (.cells #[.int .i32 a', .int .i32 b', .int .u8 c'] 24) (by omega)).trans ((hb2.block w.heap.size (by simp)).trans k1))
  clear hb2 k1 HC hb1
  go_wp2
  go_ret
  exact ⟨by simp, hB⟩

theorem single_iff (c : CV) : decide (unit1 c = 1) = (decide (c.wide = 1) && (decide (oneOk c.text) && (decide (((wdT c.text : Nat) : Int) = 1) && decide (overS c.sty = c.sty)))) := by
  unfold unit1
  rw [Bool.eq_iff_iff]
  simp only [decide_eq_true_eq, Bool.and_eq_true]
  split
  · rename_i h; exact ⟨fun e => ⟨by omega, h.1, by omega, h.2.2.2⟩, fun e => by omega⟩
  · rename_i h
    constructor
    · intro h2; omega
    · rintro ⟨h1, h2, h3, h4⟩
      exact absurd ⟨h2, by omega, by omega, h4⟩ h
theorem pair_iff2 (c d : CV) : decide (unit1 c = 2 ∧ d = restT c.sty) = (decide (c.wide = 2) && (decide (oneOk c.text) && (decide (((wdT c.text : Nat) : Int) = 2) && (decide (d.wide = 0) && (decide (d.text = ⟨#[]⟩) && (decide (c.sty = d.sty) && decide (overS c.sty = c.sty))))))) := by
  unfold unit1 restT
  rw [Bool.eq_iff_iff]
  simp only [decide_eq_true_eq, Bool.and_eq_true]
  obtain ⟨dt, dw, ds⟩ := d
  simp only [CV.mk.injEq]
  constructor
  · rintro ⟨h, h1, h2, h3⟩
    split at h
    · rename_i k; exact ⟨by omega, k.1, by omega, h2, h1, h3.symm, k.2.2.2⟩
    · omega
  · rintro ⟨h1, h2, h3, h4, h5, h6, h7⟩
    rw [if_pos ⟨h2, by omega, by omega, h7⟩]
    exact ⟨by omega, h5, h4, h6.symm⟩

set_option maxRecDepth 100000 in
set_option maxHeartbeats 4000000 in
theorem refsingle_any (c : CV) (hf : Fit c) (hs : c.sty.wf) (w : World) : Calls Try.prog 46 #[c.val] w fun e w' => e = .returned (.bool (decide (unit1 c = 1))) ∧ Below w.heap.size w w' := by
  have HONE := run.hid (fun w => refOne_any c.text w hf.1)
  have HPL := run.hid (fun w => refplain_any c.sty hs w)
  rw [single_iff]
  change Hid (∀ w, Calls _ _ _ w (fun e w' => Below w.heap.size w w' ∧ ((oneOk c.text ∧ e = .returned (.tuple #[.agg #[.string c.text, .int .i64 (wdT c.text : Nat)], .bool true])) ∨ (¬ oneOk c.text ∧ e = .returned (.tuple #[.agg #[.string ⟨#[]⟩, .int .i64 0], .bool false]))))) at HONE
  clear hf hs
  obtain ⟨ct, cw, ⟨cf, cb, ca⟩⟩ := c
  dsimp only at *
  generalize ((wdT ct : Nat) : Int) = wd at *
  generalize decide (overS ⟨cf, cb, ca⟩ = ⟨cf, cb, ca⟩) = pl at *
  change Hid (∀ w, Calls _ _ #[.agg #[.int .i32 cf, .int .i32 cb, .int .u8 ca]] _ _) at HPL
  show Calls _ _ #[.agg #[.string ct, .int .i8 cw, .int .i32 cf, .int .i32 cb, .int .u8 ca]] _ _
  have hb1 := run.below_one w (.cells #[.string ct, .int .i8 cw, .int .i32 cf, .int .i32 cb, .int .u8 ca] 44)
  have k1 := heap_alloc_new w (.cells #[.string ct, .int .i8 cw, .int .i32 cf, .int .i32 cb, .int .u8 ca] 44)
  have KK := run.hid (And.intro hb1 k1)
  obtain ⟨⟨c0, -⟩, -⟩ := blk5 k1
  clear hb1 k1
  by_cases h1 : cw = 1
  rotate_left
  · go_enter Try.func46, Try.ntmps46
    go_wp2_with fail
    refine (HONE.out _).mono ?_
    rintro e w1 ⟨hb2, hcase⟩
    rcases hcase with ⟨hok, rfl⟩ | ⟨hok, rfl⟩
    · have hB := (KK.out.1.trans (hb2.mono KK.out.1.size)).alloc (KK.out.1.trans (hb2.mono KK.out.1.size)).size (.cells #[.string ct, .int .i64 wd] 55)
      have hs2 := hb2.size
      simp only [World.size_alloc] at hs2
      obtain ⟨⟨d0, d1, d2, d3, d4⟩, -⟩ := blk5 ((blk_old (.cells #[.string ct, .int .i64 wd] 55) (by omega)).trans ((hb2.block w.heap.size (by simp)).trans KK.out.2))
      clear c0
      obtain ⟨e0, e1⟩ := blk2 (heap_alloc_new w1 (.cells #[.string ct, .int .i64 wd] 55))
      clear hb2
      go_wp2
      go_ret
      exact ⟨by simp [h1], hB⟩
    · have hB := (KK.out.1.trans (hb2.mono KK.out.1.size)).alloc (KK.out.1.trans (hb2.mono KK.out.1.size)).size (.cells #[.string ⟨#[]⟩, .int .i64 0] 55)
      have hs2 := hb2.size
      simp only [World.size_alloc] at hs2
      obtain ⟨⟨d0, d1, d2, d3, d4⟩, -⟩ := blk5 ((blk_old (.cells #[.string ⟨#[]⟩, .int .i64 0] 55) (by omega)).trans ((hb2.block w.heap.size (by simp)).trans KK.out.2))
      clear c0
      obtain ⟨e0, e1⟩ := blk2 (heap_alloc_new w1 (.cells #[.string ⟨#[]⟩, .int .i64 0] 55))
      clear hb2
      go_wp2
      go_ret
      exact ⟨by simp [h1], hB⟩
  subst h1
  by_cases h2 : wd = 1
  rotate_left
  · go_enter Try.func46, Try.ntmps46
    go_wp2_with fail
    refine (HONE.out _).mono ?_
    rintro e w1 ⟨hb2, hcase⟩
    rcases hcase with ⟨hok, rfl⟩ | ⟨hok, rfl⟩
    · have hB := (KK.out.1.trans (hb2.mono KK.out.1.size)).alloc (KK.out.1.trans (hb2.mono KK.out.1.size)).size (.cells #[.string ct, .int .i64 wd] 55)
      have hs2 := hb2.size
      simp only [World.size_alloc] at hs2
      obtain ⟨⟨d0, d1, d2, d3, d4⟩, -⟩ := blk5 ((blk_old (.cells #[.string ct, .int .i64 wd] 55) (by omega)).trans ((hb2.block w.heap.size (by simp)).trans KK.out.2))
      clear c0
      obtain ⟨e0, e1⟩ := blk2 (heap_alloc_new w1 (.cells #[.string ct, .int .i64 wd] 55))
      clear hb2
      go_wp2
      go_ret
      exact ⟨by simp [h2], hB⟩
    · have HOK := run.hid hok
      clear hok
      have hB := (KK.out.1.trans (hb2.mono KK.out.1.size)).alloc (KK.out.1.trans (hb2.mono KK.out.1.size)).size (.cells #[.string ⟨#[]⟩, .int .i64 0] 55)
      have hs2 := hb2.size
      simp only [World.size_alloc] at hs2
      obtain ⟨⟨d0, d1, d2, d3, d4⟩, -⟩ := blk5 ((blk_old (.cells #[.string ⟨#[]⟩, .int .i64 0] 55) (by omega)).trans ((hb2.block w.heap.size (by simp)).trans KK.out.2))
      clear c0
      obtain ⟨e0, e1⟩ := blk2 (heap_alloc_new w1 (.cells #[.string ⟨#[]⟩, .int .i64 0] 55))
      clear hb2
      go_wp2
      go_ret
      exact ⟨by simp [HOK.out], hB⟩
  subst h2
  go_enter Try.func46, Try.ntmps46
  go_wp2_with fail
  refine (HONE.out _).mono ?_
  rintro e w1 ⟨hb2, hcase⟩
  rcases hcase with ⟨hok, rfl⟩ | ⟨hok, rfl⟩
  · have HOK := run.hid hok
    clear hok
    have hB := (KK.out.1.trans (hb2.mono KK.out.1.size)).alloc (KK.out.1.trans (hb2.mono KK.out.1.size)).size (.cells #[.string ct, .int .i64 1] 55)
    have hs2 := hb2.size
    simp only [World.size_alloc] at hs2
    obtain ⟨⟨d0, d1, d2, d3, d4⟩, -⟩ := blk5 ((blk_old (.cells #[.string ct, .int .i64 1] 55) (by omega)).trans ((hb2.block w.heap.size (by simp)).trans KK.out.2))
    clear c0
    obtain ⟨e0, e1⟩ := blk2 (heap_alloc_new w1 (.cells #[.string ct, .int .i64 1] 55))
    clear hb2
    go_wp2_with fail
    refine (HPL.out _).mono ?_
    rintro e w2 ⟨rfl, hb3⟩
    have hB2 := hB.trans (hb3.mono hB.size)
    go_wp2
    go_ret
    exact ⟨by simp [HOK.out], hB2⟩
  · have HOK := run.hid hok
    clear hok
    have hB := (KK.out.1.trans (hb2.mono KK.out.1.size)).alloc (KK.out.1.trans (hb2.mono KK.out.1.size)).size (.cells #[.string ⟨#[]⟩, .int .i64 0] 55)
    have hs2 := hb2.size
    simp only [World.size_alloc] at hs2
    obtain ⟨⟨d0, d1, d2, d3, d4⟩, -⟩ := blk5 ((blk_old (.cells #[.string ⟨#[]⟩, .int .i64 0] 55) (by omega)).trans ((hb2.block w.heap.size (by simp)).trans KK.out.2))
    clear c0
    obtain ⟨e0, e1⟩ := blk2 (heap_alloc_new w1 (.cells #[.string ⟨#[]⟩, .int .i64 0] 55))
    clear hb2
    go_wp2
    go_ret
    exact ⟨by simp [HOK.out], hB⟩

set_option maxRecDepth 100000 in
set_option maxHeartbeats 8000000 in
theorem refpair_any (c d : CV) (hf : Fit c) (hs : c.sty.wf) (w : World) : Calls Try.prog 45 #[c.val, d.val] w fun e w' => e = .returned (.bool (decide (unit1 c = 2 ∧ d = restT c.sty))) ∧ Below w.heap.size w w' := by
  have HONE := run.hid (fun w => refOne_any c.text w hf.1)
  have HPL := run.hid (fun w => refplain_any c.sty hs w)
  rw [pair_iff2]
  change Hid (∀ w, Calls _ _ _ w (fun e w' => Below w.heap.size w w' ∧ ((oneOk c.text ∧ e = .returned (.tuple #[.agg #[.string c.text, .int .i64 (wdT c.text : Nat)], .bool true])) ∨ (¬ oneOk c.text ∧ e = .returned (.tuple #[.agg #[.string ⟨#[]⟩, .int .i64 0], .bool false]))))) at HONE
  clear hf hs
  obtain ⟨ct, cw, ⟨cf, cb, ca⟩⟩ := c
  obtain ⟨dt, dw, ⟨df, db, da⟩⟩ := d
  dsimp only at *
  generalize ((wdT ct : Nat) : Int) = wd at *
  generalize decide (overS ⟨cf, cb, ca⟩ = ⟨cf, cb, ca⟩) = pl at *
  have hD : decide (SV.mk cf cb ca = ⟨df, db, da⟩) = (decide (cf = df) && (decide (cb = db) && decide (ca = da))) := by rw [Bool.eq_iff_iff]; simp
  have hT : decide (dt = ⟨#[]⟩) = (dt.toList == []) := by
    have := utf.toList_eq_iff dt ⟨#[]⟩
    rw [← this]
    simp [ByteArray.toList_eq]
  rw [hD, hT]
  clear hD hT
  change Hid (∀ w, Calls _ _ #[.agg #[.int .i32 cf, .int .i32 cb, .int .u8 ca]] _ _) at HPL
  show Calls _ _ #[.agg #[.string ct, .int .i8 cw, .int .i32 cf, .int .i32 cb, .int .u8 ca], .agg #[.string dt, .int .i8 dw, .int .i32 df, .int .i32 db, .int .u8 da]] _ _
  have hb1 := run.below_two w (.cells #[.string ct, .int .i8 cw, .int .i32 cf, .int .i32 cb, .int .u8 ca] 44) (.cells #[.string dt, .int .i8 dw, .int .i32 df, .int .i32 db, .int .u8 da] 44)
  have k1 := heap_alloc2_old w (.cells #[.string ct, .int .i8 cw, .int .i32 cf, .int .i32 cb, .int .u8 ca] 44) (.cells #[.string dt, .int .i8 dw, .int .i32 df, .int .i32 db, .int .u8 da] 44)
  have k2 := heap_alloc2_new w (.cells #[.string ct, .int .i8 cw, .int .i32 cf, .int .i32 cb, .int .u8 ca] 44) (.cells #[.string dt, .int .i8 dw, .int .i32 df, .int .i32 db, .int .u8 da] 44)
  have KK := run.hid (And.intro hb1 (And.intro k1 k2))
  obtain ⟨⟨c0, -⟩, -⟩ := blk5 k1
  clear hb1 k1 k2
  have hempty : (ByteArray.toList ⟨#[]⟩ : List UInt8) = [] := by simp [ByteArray.toList_eq]
  by_cases h1 : cw = 2
  rotate_left
  · go_enter Try.func45, Try.ntmps45
    go_wp2_with fail
    refine (HONE.out _).mono ?_
    rintro e w1 ⟨hb2, hcase⟩
    rcases hcase with ⟨hok, rfl⟩ | ⟨hok, rfl⟩
    · have hB := (KK.out.1.trans (hb2.mono KK.out.1.size)).alloc (KK.out.1.trans (hb2.mono KK.out.1.size)).size (.cells #[.string ct, .int .i64 wd] 55)
      have hs2 := hb2.size
      simp only [World.size_alloc] at hs2
      obtain ⟨⟨d0, d1, d2, d3, d4⟩, -⟩ := blk5 ((blk_old (.cells #[.string ct, .int .i64 wd] 55) (by omega)).trans ((hb2.block w.heap.size (by simp <;> omega)).trans KK.out.2.1))
      obtain ⟨⟨g0, g1, g2, g3, g4⟩, -⟩ := blk5 ((blk_old (.cells #[.string ct, .int .i64 wd] 55) (by omega)).trans ((hb2.block (w.heap.size + 1) (by simp <;> omega)).trans KK.out.2.2))
      clear c0
      obtain ⟨e0, e1⟩ := blk2 (heap_alloc_new w1 (.cells #[.string ct, .int .i64 wd] 55))
      clear hb2
      go_wp2
      go_ret
      exact ⟨by simp [h1], hB⟩
    · have hB := (KK.out.1.trans (hb2.mono KK.out.1.size)).alloc (KK.out.1.trans (hb2.mono KK.out.1.size)).size (.cells #[.string ⟨#[]⟩, .int .i64 0] 55)
      have hs2 := hb2.size
      simp only [World.size_alloc] at hs2
      obtain ⟨⟨d0, d1, d2, d3, d4⟩, -⟩ := blk5 ((blk_old (.cells #[.string ⟨#[]⟩, .int .i64 0] 55) (by omega)).trans ((hb2.block w.heap.size (by simp <;> omega)).trans KK.out.2.1))
      obtain ⟨⟨g0, g1, g2, g3, g4⟩, -⟩ := blk5 ((blk_old (.cells #[.string ⟨#[]⟩, .int .i64 0] 55) (by omega)).trans ((hb2.block (w.heap.size + 1) (by simp <;> omega)).trans KK.out.2.2))
      clear c0
      obtain ⟨e0, e1⟩ := blk2 (heap_alloc_new w1 (.cells #[.string ⟨#[]⟩, .int .i64 0] 55))
      clear hb2
      go_wp2
      go_ret
      exact ⟨by simp [h1], hB⟩
  subst h1
  by_cases h2 : wd = 2
  rotate_left
  · go_enter Try.func45, Try.ntmps45
    go_wp2_with fail
    refine (HONE.out _).mono ?_
    rintro e w1 ⟨hb2, hcase⟩
    rcases hcase with ⟨hok, rfl⟩ | ⟨hok, rfl⟩
    · have HOK := run.hid hok
      clear hok
      have hB := (KK.out.1.trans (hb2.mono KK.out.1.size)).alloc (KK.out.1.trans (hb2.mono KK.out.1.size)).size (.cells #[.string ct, .int .i64 wd] 55)
      have hs2 := hb2.size
      simp only [World.size_alloc] at hs2
      obtain ⟨⟨d0, d1, d2, d3, d4⟩, -⟩ := blk5 ((blk_old (.cells #[.string ct, .int .i64 wd] 55) (by omega)).trans ((hb2.block w.heap.size (by simp <;> omega)).trans KK.out.2.1))
      obtain ⟨⟨g0, g1, g2, g3, g4⟩, -⟩ := blk5 ((blk_old (.cells #[.string ct, .int .i64 wd] 55) (by omega)).trans ((hb2.block (w.heap.size + 1) (by simp <;> omega)).trans KK.out.2.2))
      clear c0
      obtain ⟨e0, e1⟩ := blk2 (heap_alloc_new w1 (.cells #[.string ct, .int .i64 wd] 55))
      clear hb2
      go_wp2
      go_ret
      exact ⟨by simp [h2], hB⟩
    · have HOK := run.hid hok
      clear hok
      have hB := (KK.out.1.trans (hb2.mono KK.out.1.size)).alloc (KK.out.1.trans (hb2.mono KK.out.1.size)).size (.cells #[.string ⟨#[]⟩, .int .i64 0] 55)
      have hs2 := hb2.size
      simp only [World.size_alloc] at hs2
      obtain ⟨⟨d0, d1, d2, d3, d4⟩, -⟩ := blk5 ((blk_old (.cells #[.string ⟨#[]⟩, .int .i64 0] 55) (by omega)).trans ((hb2.block w.heap.size (by simp <;> omega)).trans KK.out.2.1))
      obtain ⟨⟨g0, g1, g2, g3, g4⟩, -⟩ := blk5 ((blk_old (.cells #[.string ⟨#[]⟩, .int .i64 0] 55) (by omega)).trans ((hb2.block (w.heap.size + 1) (by simp <;> omega)).trans KK.out.2.2))
      clear c0
      obtain ⟨e0, e1⟩ := blk2 (heap_alloc_new w1 (.cells #[.string ⟨#[]⟩, .int .i64 0] 55))
      clear hb2
      go_wp2
      go_ret
      exact ⟨by simp [HOK.out], hB⟩
  subst h2
  by_cases h4 : dw = 0
  rotate_left
  · go_enter Try.func45, Try.ntmps45
    go_wp2_with fail
    refine (HONE.out _).mono ?_
    rintro e w1 ⟨hb2, hcase⟩
    rcases hcase with ⟨hok, rfl⟩ | ⟨hok, rfl⟩
    · have HOK := run.hid hok
      clear hok
      have hB := (KK.out.1.trans (hb2.mono KK.out.1.size)).alloc (KK.out.1.trans (hb2.mono KK.out.1.size)).size (.cells #[.string ct, .int .i64 2] 55)
      have hs2 := hb2.size
      simp only [World.size_alloc] at hs2
      obtain ⟨⟨d0, d1, d2, d3, d4⟩, -⟩ := blk5 ((blk_old (.cells #[.string ct, .int .i64 2] 55) (by omega)).trans ((hb2.block w.heap.size (by simp <;> omega)).trans KK.out.2.1))
      obtain ⟨⟨g0, g1, g2, g3, g4⟩, -⟩ := blk5 ((blk_old (.cells #[.string ct, .int .i64 2] 55) (by omega)).trans ((hb2.block (w.heap.size + 1) (by simp <;> omega)).trans KK.out.2.2))
      clear c0
      obtain ⟨e0, e1⟩ := blk2 (heap_alloc_new w1 (.cells #[.string ct, .int .i64 2] 55))
      clear hb2
      go_wp2
      go_ret
      exact ⟨by simp [h4], hB⟩
    · have HOK := run.hid hok
      clear hok
      have hB := (KK.out.1.trans (hb2.mono KK.out.1.size)).alloc (KK.out.1.trans (hb2.mono KK.out.1.size)).size (.cells #[.string ⟨#[]⟩, .int .i64 0] 55)
      have hs2 := hb2.size
      simp only [World.size_alloc] at hs2
      obtain ⟨⟨d0, d1, d2, d3, d4⟩, -⟩ := blk5 ((blk_old (.cells #[.string ⟨#[]⟩, .int .i64 0] 55) (by omega)).trans ((hb2.block w.heap.size (by simp <;> omega)).trans KK.out.2.1))
      obtain ⟨⟨g0, g1, g2, g3, g4⟩, -⟩ := blk5 ((blk_old (.cells #[.string ⟨#[]⟩, .int .i64 0] 55) (by omega)).trans ((hb2.block (w.heap.size + 1) (by simp <;> omega)).trans KK.out.2.2))
      clear c0
      obtain ⟨e0, e1⟩ := blk2 (heap_alloc_new w1 (.cells #[.string ⟨#[]⟩, .int .i64 0] 55))
      clear hb2
      go_wp2
      go_ret
      exact ⟨by simp [HOK.out], hB⟩
  subst h4
  by_cases h5 : (dt.toList == []) = true
  rotate_left
  · replace h5 : (dt.toList == []) = false := by simpa using h5
    go_enter Try.func45, Try.ntmps45
    go_wp2_with fail
    refine (HONE.out _).mono ?_
    rintro e w1 ⟨hb2, hcase⟩
    rcases hcase with ⟨hok, rfl⟩ | ⟨hok, rfl⟩
    · have HOK := run.hid hok
      clear hok
      have hB := (KK.out.1.trans (hb2.mono KK.out.1.size)).alloc (KK.out.1.trans (hb2.mono KK.out.1.size)).size (.cells #[.string ct, .int .i64 2] 55)
      have hs2 := hb2.size
      simp only [World.size_alloc] at hs2
      obtain ⟨⟨d0, d1, d2, d3, d4⟩, -⟩ := blk5 ((blk_old (.cells #[.string ct, .int .i64 2] 55) (by omega)).trans ((hb2.block w.heap.size (by simp <;> omega)).trans KK.out.2.1))
      obtain ⟨⟨g0, g1, g2, g3, g4⟩, -⟩ := blk5 ((blk_old (.cells #[.string ct, .int .i64 2] 55) (by omega)).trans ((hb2.block (w.heap.size + 1) (by simp <;> omega)).trans KK.out.2.2))
      clear c0
      obtain ⟨e0, e1⟩ := blk2 (heap_alloc_new w1 (.cells #[.string ct, .int .i64 2] 55))
      clear hb2
      go_wp2
      go_ret
      exact ⟨by simp [h5], hB⟩
    · have HOK := run.hid hok
      clear hok
      have hB := (KK.out.1.trans (hb2.mono KK.out.1.size)).alloc (KK.out.1.trans (hb2.mono KK.out.1.size)).size (.cells #[.string ⟨#[]⟩, .int .i64 0] 55)
      have hs2 := hb2.size
      simp only [World.size_alloc] at hs2
      obtain ⟨⟨d0, d1, d2, d3, d4⟩, -⟩ := blk5 ((blk_old (.cells #[.string ⟨#[]⟩, .int .i64 0] 55) (by omega)).trans ((hb2.block w.heap.size (by simp <;> omega)).trans KK.out.2.1))
      obtain ⟨⟨g0, g1, g2, g3, g4⟩, -⟩ := blk5 ((blk_old (.cells #[.string ⟨#[]⟩, .int .i64 0] 55) (by omega)).trans ((hb2.block (w.heap.size + 1) (by simp <;> omega)).trans KK.out.2.2))
      clear c0
      obtain ⟨e0, e1⟩ := blk2 (heap_alloc_new w1 (.cells #[.string ⟨#[]⟩, .int .i64 0] 55))
      clear hb2
      go_wp2
      go_ret
      exact ⟨by simp [HOK.out], hB⟩
  by_cases h6 : cf = df
  rotate_left
  · go_enter Try.func45, Try.ntmps45
    go_wp2_with fail
    refine (HONE.out _).mono ?_
    rintro e w1 ⟨hb2, hcase⟩
    rcases hcase with ⟨hok, rfl⟩ | ⟨hok, rfl⟩
    · have HOK := run.hid hok
      clear hok
      have hB := (KK.out.1.trans (hb2.mono KK.out.1.size)).alloc (KK.out.1.trans (hb2.mono KK.out.1.size)).size (.cells #[.string ct, .int .i64 2] 55)
      have hs2 := hb2.size
      simp only [World.size_alloc] at hs2
      obtain ⟨⟨d0, d1, d2, d3, d4⟩, -⟩ := blk5 ((blk_old (.cells #[.string ct, .int .i64 2] 55) (by omega)).trans ((hb2.block w.heap.size (by simp <;> omega)).trans KK.out.2.1))
      obtain ⟨⟨g0, g1, g2, g3, g4⟩, -⟩ := blk5 ((blk_old (.cells #[.string ct, .int .i64 2] 55) (by omega)).trans ((hb2.block (w.heap.size + 1) (by simp <;> omega)).trans KK.out.2.2))
      clear c0
      obtain ⟨e0, e1⟩ := blk2 (heap_alloc_new w1 (.cells #[.string ct, .int .i64 2] 55))
      clear hb2
      go_wp2
      go_ret
      exact ⟨by simp [h6], hB⟩
    · have HOK := run.hid hok
      clear hok
      have hB := (KK.out.1.trans (hb2.mono KK.out.1.size)).alloc (KK.out.1.trans (hb2.mono KK.out.1.size)).size (.cells #[.string ⟨#[]⟩, .int .i64 0] 55)
      have hs2 := hb2.size
      simp only [World.size_alloc] at hs2
      obtain ⟨⟨d0, d1, d2, d3, d4⟩, -⟩ := blk5 ((blk_old (.cells #[.string ⟨#[]⟩, .int .i64 0] 55) (by omega)).trans ((hb2.block w.heap.size (by simp <;> omega)).trans KK.out.2.1))
      obtain ⟨⟨g0, g1, g2, g3, g4⟩, -⟩ := blk5 ((blk_old (.cells #[.string ⟨#[]⟩, .int .i64 0] 55) (by omega)).trans ((hb2.block (w.heap.size + 1) (by simp <;> omega)).trans KK.out.2.2))
      clear c0
      obtain ⟨e0, e1⟩ := blk2 (heap_alloc_new w1 (.cells #[.string ⟨#[]⟩, .int .i64 0] 55))
      clear hb2
      go_wp2
      go_ret
      exact ⟨by simp [HOK.out], hB⟩
  subst h6
  by_cases h7 : cb = db
  rotate_left
  · go_enter Try.func45, Try.ntmps45
    go_wp2_with fail
    refine (HONE.out _).mono ?_
    rintro e w1 ⟨hb2, hcase⟩
    rcases hcase with ⟨hok, rfl⟩ | ⟨hok, rfl⟩
    · have HOK := run.hid hok
      clear hok
      have hB := (KK.out.1.trans (hb2.mono KK.out.1.size)).alloc (KK.out.1.trans (hb2.mono KK.out.1.size)).size (.cells #[.string ct, .int .i64 2] 55)
      have hs2 := hb2.size
      simp only [World.size_alloc] at hs2
      obtain ⟨⟨d0, d1, d2, d3, d4⟩, -⟩ := blk5 ((blk_old (.cells #[.string ct, .int .i64 2] 55) (by omega)).trans ((hb2.block w.heap.size (by simp <;> omega)).trans KK.out.2.1))
      obtain ⟨⟨g0, g1, g2, g3, g4⟩, -⟩ := blk5 ((blk_old (.cells #[.string ct, .int .i64 2] 55) (by omega)).trans ((hb2.block (w.heap.size + 1) (by simp <;> omega)).trans KK.out.2.2))
      clear c0
      obtain ⟨e0, e1⟩ := blk2 (heap_alloc_new w1 (.cells #[.string ct, .int .i64 2] 55))
      clear hb2
      go_wp2
      go_ret
      exact ⟨by simp [h7], hB⟩
    · have HOK := run.hid hok
      clear hok
      have hB := (KK.out.1.trans (hb2.mono KK.out.1.size)).alloc (KK.out.1.trans (hb2.mono KK.out.1.size)).size (.cells #[.string ⟨#[]⟩, .int .i64 0] 55)
      have hs2 := hb2.size
      simp only [World.size_alloc] at hs2
      obtain ⟨⟨d0, d1, d2, d3, d4⟩, -⟩ := blk5 ((blk_old (.cells #[.string ⟨#[]⟩, .int .i64 0] 55) (by omega)).trans ((hb2.block w.heap.size (by simp <;> omega)).trans KK.out.2.1))
      obtain ⟨⟨g0, g1, g2, g3, g4⟩, -⟩ := blk5 ((blk_old (.cells #[.string ⟨#[]⟩, .int .i64 0] 55) (by omega)).trans ((hb2.block (w.heap.size + 1) (by simp <;> omega)).trans KK.out.2.2))
      clear c0
      obtain ⟨e0, e1⟩ := blk2 (heap_alloc_new w1 (.cells #[.string ⟨#[]⟩, .int .i64 0] 55))
      clear hb2
      go_wp2
      go_ret
      exact ⟨by simp [HOK.out], hB⟩
  subst h7
  by_cases h8 : ca = da
  rotate_left
  · go_enter Try.func45, Try.ntmps45
    go_wp2_with fail
    refine (HONE.out _).mono ?_
    rintro e w1 ⟨hb2, hcase⟩
    rcases hcase with ⟨hok, rfl⟩ | ⟨hok, rfl⟩
    · have HOK := run.hid hok
      clear hok
      have hB := (KK.out.1.trans (hb2.mono KK.out.1.size)).alloc (KK.out.1.trans (hb2.mono KK.out.1.size)).size (.cells #[.string ct, .int .i64 2] 55)
      have hs2 := hb2.size
      simp only [World.size_alloc] at hs2
      obtain ⟨⟨d0, d1, d2, d3, d4⟩, -⟩ := blk5 ((blk_old (.cells #[.string ct, .int .i64 2] 55) (by omega)).trans ((hb2.block w.heap.size (by simp <;> omega)).trans KK.out.2.1))
      obtain ⟨⟨g0, g1, g2, g3, g4⟩, -⟩ := blk5 ((blk_old (.cells #[.string ct, .int .i64 2] 55) (by omega)).trans ((hb2.block (w.heap.size + 1) (by simp <;> omega)).trans KK.out.2.2))
      clear c0
      obtain ⟨e0, e1⟩ := blk2 (heap_alloc_new w1 (.cells #[.string ct, .int .i64 2] 55))
      clear hb2
      go_wp2
      go_ret
      exact ⟨by simp [h8], hB⟩
    · have HOK := run.hid hok
      clear hok
      have hB := (KK.out.1.trans (hb2.mono KK.out.1.size)).alloc (KK.out.1.trans (hb2.mono KK.out.1.size)).size (.cells #[.string ⟨#[]⟩, .int .i64 0] 55)
      have hs2 := hb2.size
      simp only [World.size_alloc] at hs2
      obtain ⟨⟨d0, d1, d2, d3, d4⟩, -⟩ := blk5 ((blk_old (.cells #[.string ⟨#[]⟩, .int .i64 0] 55) (by omega)).trans ((hb2.block w.heap.size (by simp <;> omega)).trans KK.out.2.1))
      obtain ⟨⟨g0, g1, g2, g3, g4⟩, -⟩ := blk5 ((blk_old (.cells #[.string ⟨#[]⟩, .int .i64 0] 55) (by omega)).trans ((hb2.block (w.heap.size + 1) (by simp <;> omega)).trans KK.out.2.2))
      clear c0
      obtain ⟨e0, e1⟩ := blk2 (heap_alloc_new w1 (.cells #[.string ⟨#[]⟩, .int .i64 0] 55))
      clear hb2
      go_wp2
      go_ret
      exact ⟨by simp [HOK.out], hB⟩
  subst h8
  go_enter Try.func45, Try.ntmps45
  go_wp2_with fail
  refine (HONE.out _).mono ?_
  rintro e w1 ⟨hb2, hcase⟩
  rcases hcase with ⟨hok, rfl⟩ | ⟨hok, rfl⟩
  · have HOK := run.hid hok
    clear hok
    have hB := (KK.out.1.trans (hb2.mono KK.out.1.size)).alloc (KK.out.1.trans (hb2.mono KK.out.1.size)).size (.cells #[.string ct, .int .i64 2] 55)
    have hs2 := hb2.size
    simp only [World.size_alloc] at hs2
    obtain ⟨⟨d0, d1, d2, d3, d4⟩, -⟩ := blk5 ((blk_old (.cells #[.string ct, .int .i64 2] 55) (by omega)).trans ((hb2.block w.heap.size (by simp <;> omega)).trans KK.out.2.1))
    obtain ⟨⟨g0, g1, g2, g3, g4⟩, -⟩ := blk5 ((blk_old (.cells #[.string ct, .int .i64 2] 55) (by omega)).trans ((hb2.block (w.heap.size + 1) (by simp <;> omega)).trans KK.out.2.2))
    clear c0
    obtain ⟨e0, e1⟩ := blk2 (heap_alloc_new w1 (.cells #[.string ct, .int .i64 2] 55))
    clear hb2
    go_wp2_with fail
    refine (HPL.out _).mono ?_
    rintro e w2 ⟨rfl, hb3⟩
    have hB2 := hB.trans (hb3.mono hB.size)
    go_wp2
    go_ret
    exact ⟨by simp [HOK.out, h5], hB2⟩
  · have HOK := run.hid hok
    clear hok
    have hB := (KK.out.1.trans (hb2.mono KK.out.1.size)).alloc (KK.out.1.trans (hb2.mono KK.out.1.size)).size (.cells #[.string ⟨#[]⟩, .int .i64 0] 55)
    have hs2 := hb2.size
    simp only [World.size_alloc] at hs2
    obtain ⟨⟨d0, d1, d2, d3, d4⟩, -⟩ := blk5 ((blk_old (.cells #[.string ⟨#[]⟩, .int .i64 0] 55) (by omega)).trans ((hb2.block w.heap.size (by simp <;> omega)).trans KK.out.2.1))
    obtain ⟨⟨g0, g1, g2, g3, g4⟩, -⟩ := blk5 ((blk_old (.cells #[.string ⟨#[]⟩, .int .i64 0] 55) (by omega)).trans ((hb2.block (w.heap.size + 1) (by simp <;> omega)).trans KK.out.2.2))
    clear c0
    obtain ⟨e0, e1⟩ := blk2 (heap_alloc_new w1 (.cells #[.string ⟨#[]⟩, .int .i64 0] 55))
    clear hb2
    go_wp2
    go_ret
    exact ⟨by simp [HOK.out], hB⟩
end Go.Proofs.Ytinnggiohalifaa.cel
