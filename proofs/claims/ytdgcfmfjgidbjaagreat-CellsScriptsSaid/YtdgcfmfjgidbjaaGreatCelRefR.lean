/-
  The document's row (merged: CelRefRow, CelRefRow2)
-/
import Derived.Test.YtdgcfmfjgidbjaaGreatCelD
import Derived.Test.YtdgcfmfjgidbjaaGreatCelC
import Derived.Test.YtdgcfmfjgidbjaaGreatCluRefAll
import Derived.Test.YtdgcfmfjgidbjaaGreatCelPut
namespace Go.Proofs.YtdgcfmfjgidbjaaGreat.cel
open Go Go.RowKit Go.Proofs
open Go.Proofs.YtdgcfmfjgidbjaaGreat.clu (oneOk OneIs refOne_any)
open Go.Proofs.YtdgcfmfjgidbjaaGreat.utf (bs runes)
set_option linter.unusedVariables false

set_option maxRecDepth 100000 in
set_option maxHeartbeats 2000000 in
theorem refplain_any (s : SV) (hs : s.wf) (w : World) : Calls Tryz.prog 91 #[s.val] w fun e w' => e = .returned (.bool (decide (overS s = s))) ∧ Below w.heap.size w w' := by
  have HC := run.hid (fun w => refcounts_any s hs w)
  clear hs
  obtain ⟨a, b, c⟩ := s
  obtain ⟨⟨a', b', c'⟩, ho⟩ : ∃ q, q = overS ⟨a, b, c⟩ := ⟨_, rfl⟩
  rw [← ho] at HC ⊢
  clear ho
  change Hid (∀ w, Calls _ _ #[.agg #[.int .i32 a, .int .i32 b, .int .u8 c]] _ fun e w' => e = .returned (.agg #[.int .i32 a', .int .i32 b', .int .u8 c']) ∧ _) at HC
  show Calls _ _ #[.agg #[.int .i32 a, .int .i32 b, .int .u8 c]] _ _
  have hD : decide (SV.mk a' b' c' = ⟨a, b, c⟩) = (decide (a' = a) && (decide (b' = b) && decide (c' = c))) := by rw [Bool.eq_iff_iff]; simp
  rw [hD]
  clear hD
  have hb1 := run.below_one w (.cells #[.int .i32 a, .int .i32 b, .int .u8 c] 32)
  have k1 := heap_alloc_new w (.cells #[.int .i32 a, .int .i32 b, .int .u8 c] 32)
  by_cases h1 : a' = a
  rotate_left
  · go_enter Tryz.func91, Tryz.ntmps91
    go_wp2_with fail
    refine (HC.out _).mono ?_
    rintro e w1 ⟨rfl, hb2⟩
    have hB := (hb1.trans (hb2.mono hb1.size)).alloc (hb1.trans (hb2.mono hb1.size)).size (.cells #[.int .i32 a', .int .i32 b', .int .u8 c'] 32)
    have hs2 := hb2.size
    simp only [World.size_alloc] at hs2
    obtain ⟨⟨d0, d1, d2⟩, -⟩ := blk3 ((blk_old (.cells #[.int .i32 a', .int .i32 b', .int .u8 c'] 32) (by omega)).trans ((hb2.block w.heap.size (by simp)).trans k1))
    clear hb2 k1 HC hb1
    go_wp2
    go_ret
    exact ⟨by simp [h1], hB⟩
  subst h1
  by_cases h2 : b' = b
  rotate_left
  · go_enter Tryz.func91, Tryz.ntmps91
    go_wp2_with fail
    refine (HC.out _).mono ?_
    rintro e w1 ⟨rfl, hb2⟩
    have hB := (hb1.trans (hb2.mono hb1.size)).alloc (hb1.trans (hb2.mono hb1.size)).size (.cells #[.int .i32 a', .int .i32 b', .int .u8 c'] 32)
    have hs2 := hb2.size
    simp only [World.size_alloc] at hs2
    obtain ⟨⟨d0, d1, d2⟩, -⟩ := blk3 ((blk_old (.cells #[.int .i32 a', .int .i32 b', .int .u8 c'] 32) (by omega)).trans ((hb2.block w.heap.size (by simp)).trans k1))
    clear hb2 k1 HC hb1
    go_wp2
    go_ret
    exact ⟨by simp [h2], hB⟩
  subst h2
  by_cases h3 : c' = c
  rotate_left
  · go_enter Tryz.func91, Tryz.ntmps91
    go_wp2_with fail
    refine (HC.out _).mono ?_
    rintro e w1 ⟨rfl, hb2⟩
    have hB := (hb1.trans (hb2.mono hb1.size)).alloc (hb1.trans (hb2.mono hb1.size)).size (.cells #[.int .i32 a', .int .i32 b', .int .u8 c'] 32)
    have hs2 := hb2.size
    simp only [World.size_alloc] at hs2
    obtain ⟨⟨d0, d1, d2⟩, -⟩ := blk3 ((blk_old (.cells #[.int .i32 a', .int .i32 b', .int .u8 c'] 32) (by omega)).trans ((hb2.block w.heap.size (by simp)).trans k1))
    clear hb2 k1 HC hb1
    go_wp2
    go_ret
    exact ⟨by simp [h3], hB⟩
  subst h3
  go_enter Tryz.func91, Tryz.ntmps91
  go_wp2_with fail
  refine (HC.out _).mono ?_
  rintro e w1 ⟨rfl, hb2⟩
  have hB := (hb1.trans (hb2.mono hb1.size)).alloc (hb1.trans (hb2.mono hb1.size)).size (.cells #[.int .i32 a', .int .i32 b', .int .u8 c'] 32)
  have hs2 := hb2.size
  simp only [World.size_alloc] at hs2
  obtain ⟨⟨d0, d1, d2⟩, -⟩ := blk3 ((blk_old (.cells #[.int .i32 a', .int .i32 b', .int .u8 c'] 32) (by omega)).trans ((hb2.block w.heap.size (by simp)).trans k1))
  clear hb2 k1 HC hb1
  go_wp2
  go_ret
  exact ⟨by simp, hB⟩

theorem single_iff (c : CV) : decide (unit1 c = 1) = (decide (c.wide = 1) && (decide (oneOk c.text) && (decide (((wdT c.text : Nat) : Int) = 1) && decide (overS c.sty = c.sty)))) := by
  unfold unit1
  rw [Bool.eq_iff_iff]
  simp only [decide_eq_true_eq, Bool.and_eq_true]
  split
  · rename_i h; exact ⟨fun e => ⟨by omega, h.1, by omega, h.2.2.2⟩, fun e => by omega⟩
  · rename_i h
    constructor
    · intro h2; omega
    · rintro ⟨h1, h2, h3, h4⟩
      exact absurd ⟨h2, by omega, by omega, h4⟩ h
theorem pair_iff2 (c d : CV) : decide (unit1 c = 2 ∧ d = restT c.sty) = (decide (c.wide = 2) && (decide (oneOk c.text) && (decide (((wdT c.text : Nat) : Int) = 2) && (decide (d.wide = 0) && (decide (d.text = ⟨#[]⟩) && (decide (c.sty = d.sty) && decide (overS c.sty = c.sty))))))) := by
  unfold unit1 restT
  rw [Bool.eq_iff_iff]
  simp only [decide_eq_true_eq, Bool.and_eq_true]
  obtain ⟨dt, dw, ds⟩ := d
  simp only [CV.mk.injEq]
  constructor
  · rintro ⟨h, h1, h2, h3⟩
    split at h
    · rename_i k; exact ⟨by omega, k.1, by omega, h2, h1, h3.symm, k.2.2.2⟩
    · omega
  · rintro ⟨h1, h2, h3, h4, h5, h6, h7⟩
    rw [if_pos ⟨h2, by omega, by omega, h7⟩]
    exact ⟨by omega, h5, h4, h6.symm⟩

set_option maxRecDepth 100000 in
set_option maxHeartbeats 4000000 in
theorem refsingle_any (c : CV) (hf : Fit c) (hs : c.sty.wf) (w : World) : Calls Tryz.prog 72 #[c.val] w fun e w' => e = .returned (.bool (decide (unit1 c = 1))) ∧ Below w.heap.size w w' := by
  have HONE := run.hid (fun w => refOne_any c.text w hf.1)
  have HPL := run.hid (fun w => refplain_any c.sty hs w)
  rw [single_iff]
  change Hid (∀ w, Calls _ _ _ w (fun e w' => Below w.heap.size w w' ∧ ((oneOk c.text ∧ e = .returned (.tuple #[.agg #[.string c.text, .int .i64 (wdT c.text : Nat)], .bool true])) ∨ (¬ oneOk c.text ∧ e = .returned (.tuple #[.agg #[.string ⟨#[]⟩, .int .i64 0], .bool false]))))) at HONE
  clear hf hs
  obtain ⟨ct, cw, ⟨cf, cb, ca⟩⟩ := c
  dsimp only at *
  generalize ((wdT ct : Nat) : Int) = wd at *
  generalize decide (overS ⟨cf, cb, ca⟩ = ⟨cf, cb, ca⟩) = pl at *
  change Hid (∀ w, Calls _ _ #[.agg #[.int .i32 cf, .int .i32 cb, .int .u8 ca]] _ _) at HPL
  show Calls _ _ #[.agg #[.string ct, .int .i8 cw, .int .i32 cf, .int .i32 cb, .int .u8 ca]] _ _
  have hb1 := run.below_one w (.cells #[.string ct, .int .i8 cw, .int .i32 cf, .int .i32 cb, .int .u8 ca] 59)
  have k1 := heap_alloc_new w (.cells #[.string ct, .int .i8 cw, .int .i32 cf, .int .i32 cb, .int .u8 ca] 59)
  have KK := run.hid (And.intro hb1 k1)
  obtain ⟨⟨c0, -⟩, -⟩ := blk5 k1
  clear hb1 k1
  by_cases h1 : cw = 1
  rotate_left
  · go_enter Tryz.func72, Tryz.ntmps72
    go_wp2_with fail
    refine (HONE.out _).mono ?_
    rintro e w1 ⟨hb2, hcase⟩
    rcases hcase with ⟨hok, rfl⟩ | ⟨hok, rfl⟩
    · have hB := (KK.out.1.trans (hb2.mono KK.out.1.size)).alloc (KK.out.1.trans (hb2.mono KK.out.1.size)).size (.cells #[.string ct, .int .i64 wd] 83)
      have hs2 := hb2.size
      simp only [World.size_alloc] at hs2
      obtain ⟨⟨d0, d1, d2, d3, d4⟩, -⟩ := blk5 ((blk_old (.cells #[.string ct, .int .i64 wd] 83) (by omega)).trans ((hb2.block w.heap.size (by simp)).trans KK.out.2))
      clear c0
      obtain ⟨e0, e1⟩ := blk2 (heap_alloc_new w1 (.cells #[.string ct, .int .i64 wd] 83))
      clear hb2
      go_wp2
      go_ret
      exact ⟨by simp [h1], hB⟩
    · have hB := (KK.out.1.trans (hb2.mono KK.out.1.size)).alloc (KK.out.1.trans (hb2.mono KK.out.1.size)).size (.cells #[.string ⟨#[]⟩, .int .i64 0] 83)
      have hs2 := hb2.size
      simp only [World.size_alloc] at hs2
      obtain ⟨⟨d0, d1, d2, d3, d4⟩, -⟩ := blk5 ((blk_old (.cells #[.string ⟨#[]⟩, .int .i64 0] 83) (by omega)).trans ((hb2.block w.heap.size (by simp)).trans KK.out.2))
      clear c0
      obtain ⟨e0, e1⟩ := blk2 (heap_alloc_new w1 (.cells #[.string ⟨#[]⟩, .int .i64 0] 83))
      clear hb2
      go_wp2
      go_ret
      exact ⟨by simp [h1], hB⟩
  subst h1
  by_cases h2 : wd = 1
  rotate_left
  · go_enter Tryz.func72, Tryz.ntmps72
    go_wp2_with fail
    refine (HONE.out _).mono ?_
    rintro e w1 ⟨hb2, hcase⟩
    rcases hcase with ⟨hok, rfl⟩ | ⟨hok, rfl⟩
    · have hB := (KK.out.1.trans (hb2.mono KK.out.1.size)).alloc (KK.out.1.trans (hb2.mono KK.out.1.size)).size (.cells #[.string ct, .int .i64 wd] 83)
      have hs2 := hb2.size
      simp only [World.size_alloc] at hs2
      obtain ⟨⟨d0, d1, d2, d3, d4⟩, -⟩ := blk5 ((blk_old (.cells #[.string ct, .int .i64 wd] 83) (by omega)).trans ((hb2.block w.heap.size (by simp)).trans KK.out.2))
      clear c0
      obtain ⟨e0, e1⟩ := blk2 (heap_alloc_new w1 (.cells #[.string ct, .int .i64 wd] 83))
      clear hb2
      go_wp2
      go_ret
      exact ⟨by simp [h2], hB⟩
    · have HOK := run.hid hok
      clear hok
      have hB := (KK.out.1.trans (hb2.mono KK.out.1.size)).alloc (KK.out.1.trans (hb2.mono KK.out.1.size)).size (.cells #[.string ⟨#[]⟩, .int .i64 0] 83)
      have hs2 := hb2.size
      simp only [World.size_alloc] at hs2
      obtain ⟨⟨d0, d1, d2, d3, d4⟩, -⟩ := blk5 ((blk_old (.cells #[.string ⟨#[]⟩, .int .i64 0] 83) (by omega)).trans ((hb2.block w.heap.size (by simp)).trans KK.out.2))
      clear c0
      obtain ⟨e0, e1⟩ := blk2 (heap_alloc_new w1 (.cells #[.string ⟨#[]⟩, .int .i64 0] 83))
      clear hb2
      go_wp2
      go_ret
      exact ⟨by simp [HOK.out], hB⟩
  subst h2
  go_enter Tryz.func72, Tryz.ntmps72
  go_wp2_with fail
  refine (HONE.out _).mono ?_
  rintro e w1 ⟨hb2, hcase⟩
  rcases hcase with ⟨hok, rfl⟩ | ⟨hok, rfl⟩
  · have HOK := run.hid hok
    clear hok
    have hB := (KK.out.1.trans (hb2.mono KK.out.1.size)).alloc (KK.out.1.trans (hb2.mono KK.out.1.size)).size (.cells #[.string ct, .int .i64 1] 83)
    have hs2 := hb2.size
    simp only [World.size_alloc] at hs2
    obtain ⟨⟨d0, d1, d2, d3, d4⟩, -⟩ := blk5 ((blk_old (.cells #[.string ct, .int .i64 1] 83) (by omega)).trans ((hb2.block w.heap.size (by simp)).trans KK.out.2))
    clear c0
    obtain ⟨e0, e1⟩ := blk2 (heap_alloc_new w1 (.cells #[.string ct, .int .i64 1] 83))
    clear hb2
    go_wp2_with fail
    refine (HPL.out _).mono ?_
    rintro e w2 ⟨rfl, hb3⟩
    have hB2 := hB.trans (hb3.mono hB.size)
    go_wp2
    go_ret
    exact ⟨by simp [HOK.out], hB2⟩
  · have HOK := run.hid hok
    clear hok
    have hB := (KK.out.1.trans (hb2.mono KK.out.1.size)).alloc (KK.out.1.trans (hb2.mono KK.out.1.size)).size (.cells #[.string ⟨#[]⟩, .int .i64 0] 83)
    have hs2 := hb2.size
    simp only [World.size_alloc] at hs2
    obtain ⟨⟨d0, d1, d2, d3, d4⟩, -⟩ := blk5 ((blk_old (.cells #[.string ⟨#[]⟩, .int .i64 0] 83) (by omega)).trans ((hb2.block w.heap.size (by simp)).trans KK.out.2))
    clear c0
    obtain ⟨e0, e1⟩ := blk2 (heap_alloc_new w1 (.cells #[.string ⟨#[]⟩, .int .i64 0] 83))
    clear hb2
    go_wp2
    go_ret
    exact ⟨by simp [HOK.out], hB⟩

set_option maxRecDepth 100000 in
set_option maxHeartbeats 8000000 in
theorem refpair_any (c d : CV) (hf : Fit c) (hs : c.sty.wf) (w : World) : Calls Tryz.prog 71 #[c.val, d.val] w fun e w' => e = .returned (.bool (decide (unit1 c = 2 ∧ d = restT c.sty))) ∧ Below w.heap.size w w' := by
  have HONE := run.hid (fun w => refOne_any c.text w hf.1)
  have HPL := run.hid (fun w => refplain_any c.sty hs w)
  rw [pair_iff2]
  change Hid (∀ w, Calls _ _ _ w (fun e w' => Below w.heap.size w w' ∧ ((oneOk c.text ∧ e = .returned (.tuple #[.agg #[.string c.text, .int .i64 (wdT c.text : Nat)], .bool true])) ∨ (¬ oneOk c.text ∧ e = .returned (.tuple #[.agg #[.string ⟨#[]⟩, .int .i64 0], .bool false]))))) at HONE
  clear hf hs
  obtain ⟨ct, cw, ⟨cf, cb, ca⟩⟩ := c
  obtain ⟨dt, dw, ⟨df, db, da⟩⟩ := d
  dsimp only at *
  generalize ((wdT ct : Nat) : Int) = wd at *
  generalize decide (overS ⟨cf, cb, ca⟩ = ⟨cf, cb, ca⟩) = pl at *
  have hD : decide (SV.mk cf cb ca = ⟨df, db, da⟩) = (decide (cf = df) && (decide (cb = db) && decide (ca = da))) := by rw [Bool.eq_iff_iff]; simp
  have hT : decide (dt = ⟨#[]⟩) = (dt.toList == []) := by
    have := utf.toList_eq_iff dt ⟨#[]⟩
    rw [← this]
    simp [ByteArray.toList_eq]
  rw [hD, hT]
  clear hD hT
  change Hid (∀ w, Calls _ _ #[.agg #[.int .i32 cf, .int .i32 cb, .int .u8 ca]] _ _) at HPL
  show Calls _ _ #[.agg #[.string ct, .int .i8 cw, .int .i32 cf, .int .i32 cb, .int .u8 ca], .agg #[.string dt, .int .i8 dw, .int .i32 df, .int .i32 db, .int .u8 da]] _ _
  have hb1 := run.below_two w (.cells #[.string ct, .int .i8 cw, .int .i32 cf, .int .i32 cb, .int .u8 ca] 59) (.cells #[.string dt, .int .i8 dw, .int .i32 df, .int .i32 db, .int .u8 da] 59)
  have k1 := heap_alloc2_old w (.cells #[.string ct, .int .i8 cw, .int .i32 cf, .int .i32 cb, .int .u8 ca] 59) (.cells #[.string dt, .int .i8 dw, .int .i32 df, .int .i32 db, .int .u8 da] 59)
  have k2 := heap_alloc2_new w (.cells #[.string ct, .int .i8 cw, .int .i32 cf, .int .i32 cb, .int .u8 ca] 59) (.cells #[.string dt, .int .i8 dw, .int .i32 df, .int .i32 db, .int .u8 da] 59)
  have KK := run.hid (And.intro hb1 (And.intro k1 k2))
  obtain ⟨⟨c0, -⟩, -⟩ := blk5 k1
  clear hb1 k1 k2
  have hempty : (ByteArray.toList ⟨#[]⟩ : List UInt8) = [] := by simp [ByteArray.toList_eq]
  by_cases h1 : cw = 2
  rotate_left
  · go_enter Tryz.func71, Tryz.ntmps71
    go_wp2_with fail
    refine (HONE.out _).mono ?_
    rintro e w1 ⟨hb2, hcase⟩
    rcases hcase with ⟨hok, rfl⟩ | ⟨hok, rfl⟩
    · have hB := (KK.out.1.trans (hb2.mono KK.out.1.size)).alloc (KK.out.1.trans (hb2.mono KK.out.1.size)).size (.cells #[.string ct, .int .i64 wd] 83)
      have hs2 := hb2.size
      simp only [World.size_alloc] at hs2
      obtain ⟨⟨d0, d1, d2, d3, d4⟩, -⟩ := blk5 ((blk_old (.cells #[.string ct, .int .i64 wd] 83) (by omega)).trans ((hb2.block w.heap.size (by simp <;> omega)).trans KK.out.2.1))
      obtain ⟨⟨g0, g1, g2, g3, g4⟩, -⟩ := blk5 ((blk_old (.cells #[.string ct, .int .i64 wd] 83) (by omega)).trans ((hb2.block (w.heap.size + 1) (by simp <;> omega)).trans KK.out.2.2))
      clear c0
      obtain ⟨e0, e1⟩ := blk2 (heap_alloc_new w1 (.cells #[.string ct, .int .i64 wd] 83))
      clear hb2
      go_wp2
      go_ret
      exact ⟨by simp [h1], hB⟩
    · have hB := (KK.out.1.trans (hb2.mono KK.out.1.size)).alloc (KK.out.1.trans (hb2.mono KK.out.1.size)).size (.cells #[.string ⟨#[]⟩, .int .i64 0] 83)
      have hs2 := hb2.size
      simp only [World.size_alloc] at hs2
      obtain ⟨⟨d0, d1, d2, d3, d4⟩, -⟩ := blk5 ((blk_old (.cells #[.string ⟨#[]⟩, .int .i64 0] 83) (by omega)).trans ((hb2.block w.heap.size (by simp <;> omega)).trans KK.out.2.1))
      obtain ⟨⟨g0, g1, g2, g3, g4⟩, -⟩ := blk5 ((blk_old (.cells #[.string ⟨#[]⟩, .int .i64 0] 83) (by omega)).trans ((hb2.block (w.heap.size + 1) (by simp <;> omega)).trans KK.out.2.2))
      clear c0
      obtain ⟨e0, e1⟩ := blk2 (heap_alloc_new w1 (.cells #[.string ⟨#[]⟩, .int .i64 0] 83))
      clear hb2
      go_wp2
      go_ret
      exact ⟨by simp [h1], hB⟩
  subst h1
  by_cases h2 : wd = 2
  rotate_left
  · go_enter Tryz.func71, Tryz.ntmps71
    go_wp2_with fail
    refine (HONE.out _).mono ?_
    rintro e w1 ⟨hb2, hcase⟩
    rcases hcase with ⟨hok, rfl⟩ | ⟨hok, rfl⟩
    · have HOK := run.hid hok
      clear hok
      have hB := (KK.out.1.trans (hb2.mono KK.out.1.size)).alloc (KK.out.1.trans (hb2.mono KK.out.1.size)).size (.cells #[.string ct, .int .i64 wd] 83)
      have hs2 := hb2.size
      simp only [World.size_alloc] at hs2
      obtain ⟨⟨d0, d1, d2, d3, d4⟩, -⟩ := blk5 ((blk_old (.cells #[.string ct, .int .i64 wd] 83) (by omega)).trans ((hb2.block w.heap.size (by simp <;> omega)).trans KK.out.2.1))
      obtain ⟨⟨g0, g1, g2, g3, g4⟩, -⟩ := blk5 ((blk_old (.cells #[.string ct, .int .i64 wd] 83) (by omega)).trans ((hb2.block (w.heap.size + 1) (by simp <;> omega)).trans KK.out.2.2))
      clear c0
      obtain ⟨e0, e1⟩ := blk2 (heap_alloc_new w1 (.cells #[.string ct, .int .i64 wd] 83))
      clear hb2
      go_wp2
      go_ret
      exact ⟨by simp [h2], hB⟩
    · have HOK := run.hid hok
      clear hok
      have hB := (KK.out.1.trans (hb2.mono KK.out.1.size)).alloc (KK.out.1.trans (hb2.mono KK.out.1.size)).size (.cells #[.string ⟨#[]⟩, .int .i64 0] 83)
      have hs2 := hb2.size
      simp only [World.size_alloc] at hs2
      obtain ⟨⟨d0, d1, d2, d3, d4⟩, -⟩ := blk5 ((blk_old (.cells #[.string ⟨#[]⟩, .int .i64 0] 83) (by omega)).trans ((hb2.block w.heap.size (by simp <;> omega)).trans KK.out.2.1))
      obtain ⟨⟨g0, g1, g2, g3, g4⟩, -⟩ := blk5 ((blk_old (.cells #[.string ⟨#[]⟩, .int .i64 0] 83) (by omega)).trans ((hb2.block (w.heap.size + 1) (by simp <;> omega)).trans KK.out.2.2))
      clear c0
      obtain ⟨e0, e1⟩ := blk2 (heap_alloc_new w1 (.cells #[.string ⟨#[]⟩, .int .i64 0] 83))
      clear hb2
      go_wp2
      go_ret
      exact ⟨by simp [HOK.out], hB⟩
  subst h2
  by_cases h4 : dw = 0
  rotate_left
  · go_enter Tryz.func71, Tryz.ntmps71
    go_wp2_with fail
    refine (HONE.out _).mono ?_
    rintro e w1 ⟨hb2, hcase⟩
    rcases hcase with ⟨hok, rfl⟩ | ⟨hok, rfl⟩
    · have HOK := run.hid hok
      clear hok
      have hB := (KK.out.1.trans (hb2.mono KK.out.1.size)).alloc (KK.out.1.trans (hb2.mono KK.out.1.size)).size (.cells #[.string ct, .int .i64 2] 83)
      have hs2 := hb2.size
      simp only [World.size_alloc] at hs2
      obtain ⟨⟨d0, d1, d2, d3, d4⟩, -⟩ := blk5 ((blk_old (.cells #[.string ct, .int .i64 2] 83) (by omega)).trans ((hb2.block w.heap.size (by simp <;> omega)).trans KK.out.2.1))
      obtain ⟨⟨g0, g1, g2, g3, g4⟩, -⟩ := blk5 ((blk_old (.cells #[.string ct, .int .i64 2] 83) (by omega)).trans ((hb2.block (w.heap.size + 1) (by simp <;> omega)).trans KK.out.2.2))
      clear c0
      obtain ⟨e0, e1⟩ := blk2 (heap_alloc_new w1 (.cells #[.string ct, .int .i64 2] 83))
      clear hb2
      go_wp2
      go_ret
      exact ⟨by simp [h4], hB⟩
    · have HOK := run.hid hok
      clear hok
      have hB := (KK.out.1.trans (hb2.mono KK.out.1.size)).alloc (KK.out.1.trans (hb2.mono KK.out.1.size)).size (.cells #[.string ⟨#[]⟩, .int .i64 0] 83)
      have hs2 := hb2.size
      simp only [World.size_alloc] at hs2
      obtain ⟨⟨d0, d1, d2, d3, d4⟩, -⟩ := blk5 ((blk_old (.cells #[.string ⟨#[]⟩, .int .i64 0] 83) (by omega)).trans ((hb2.block w.heap.size (by simp <;> omega)).trans KK.out.2.1))
      obtain ⟨⟨g0, g1, g2, g3, g4⟩, -⟩ := blk5 ((blk_old (.cells #[.string ⟨#[]⟩, .int .i64 0] 83) (by omega)).trans ((hb2.block (w.heap.size + 1) (by simp <;> omega)).trans KK.out.2.2))
      clear c0
      obtain ⟨e0, e1⟩ := blk2 (heap_alloc_new w1 (.cells #[.string ⟨#[]⟩, .int .i64 0] 83))
      clear hb2
      go_wp2
      go_ret
      exact ⟨by simp [HOK.out], hB⟩
  subst h4
  by_cases h5 : (dt.toList == []) = true
  rotate_left
  · replace h5 : (dt.toList == []) = false := by simpa using h5
    go_enter Tryz.func71, Tryz.ntmps71
    go_wp2_with fail
    refine (HONE.out _).mono ?_
    rintro e w1 ⟨hb2, hcase⟩
    rcases hcase with ⟨hok, rfl⟩ | ⟨hok, rfl⟩
    · have HOK := run.hid hok
      clear hok
      have hB := (KK.out.1.trans (hb2.mono KK.out.1.size)).alloc (KK.out.1.trans (hb2.mono KK.out.1.size)).size (.cells #[.string ct, .int .i64 2] 83)
      have hs2 := hb2.size
      simp only [World.size_alloc] at hs2
      obtain ⟨⟨d0, d1, d2, d3, d4⟩, -⟩ := blk5 ((blk_old (.cells #[.string ct, .int .i64 2] 83) (by omega)).trans ((hb2.block w.heap.size (by simp <;> omega)).trans KK.out.2.1))
      obtain ⟨⟨g0, g1, g2, g3, g4⟩, -⟩ := blk5 ((blk_old (.cells #[.string ct, .int .i64 2] 83) (by omega)).trans ((hb2.block (w.heap.size + 1) (by simp <;> omega)).trans KK.out.2.2))
      clear c0
      obtain ⟨e0, e1⟩ := blk2 (heap_alloc_new w1 (.cells #[.string ct, .int .i64 2] 83))
      clear hb2
      go_wp2
      go_ret
      exact ⟨by simp [h5], hB⟩
    · have HOK := run.hid hok
      clear hok
      have hB := (KK.out.1.trans (hb2.mono KK.out.1.size)).alloc (KK.out.1.trans (hb2.mono KK.out.1.size)).size (.cells #[.string ⟨#[]⟩, .int .i64 0] 83)
      have hs2 := hb2.size
      simp only [World.size_alloc] at hs2
      obtain ⟨⟨d0, d1, d2, d3, d4⟩, -⟩ := blk5 ((blk_old (.cells #[.string ⟨#[]⟩, .int .i64 0] 83) (by omega)).trans ((hb2.block w.heap.size (by simp <;> omega)).trans KK.out.2.1))
      obtain ⟨⟨g0, g1, g2, g3, g4⟩, -⟩ := blk5 ((blk_old (.cells #[.string ⟨#[]⟩, .int .i64 0] 83) (by omega)).trans ((hb2.block (w.heap.size + 1) (by simp <;> omega)).trans KK.out.2.2))
      clear c0
      obtain ⟨e0, e1⟩ := blk2 (heap_alloc_new w1 (.cells #[.string ⟨#[]⟩, .int .i64 0] 83))
      clear hb2
      go_wp2
      go_ret
      exact ⟨by simp [HOK.out], hB⟩
  by_cases h6 : cf = df
  rotate_left
  · go_enter Tryz.func71, Tryz.ntmps71
    go_wp2_with fail
    refine (HONE.out _).mono ?_
    rintro e w1 ⟨hb2, hcase⟩
    rcases hcase with ⟨hok, rfl⟩ | ⟨hok, rfl⟩
    · have HOK := run.hid hok
      clear hok
      have hB := (KK.out.1.trans (hb2.mono KK.out.1.size)).alloc (KK.out.1.trans (hb2.mono KK.out.1.size)).size (.cells #[.string ct, .int .i64 2] 83)
      have hs2 := hb2.size
      simp only [World.size_alloc] at hs2
      obtain ⟨⟨d0, d1, d2, d3, d4⟩, -⟩ := blk5 ((blk_old (.cells #[.string ct, .int .i64 2] 83) (by omega)).trans ((hb2.block w.heap.size (by simp <;> omega)).trans KK.out.2.1))
      obtain ⟨⟨g0, g1, g2, g3, g4⟩, -⟩ := blk5 ((blk_old (.cells #[.string ct, .int .i64 2] 83) (by omega)).trans ((hb2.block (w.heap.size + 1) (by simp <;> omega)).trans KK.out.2.2))
      clear c0
      obtain ⟨e0, e1⟩ := blk2 (heap_alloc_new w1 (.cells #[.string ct, .int .i64 2] 83))
      clear hb2
      go_wp2
      go_ret
      exact ⟨by simp [h6], hB⟩
    · have HOK := run.hid hok
      clear hok
      have hB := (KK.out.1.trans (hb2.mono KK.out.1.size)).alloc (KK.out.1.trans (hb2.mono KK.out.1.size)).size (.cells #[.string ⟨#[]⟩, .int .i64 0] 83)
      have hs2 := hb2.size
      simp only [World.size_alloc] at hs2
      obtain ⟨⟨d0, d1, d2, d3, d4⟩, -⟩ := blk5 ((blk_old (.cells #[.string ⟨#[]⟩, .int .i64 0] 83) (by omega)).trans ((hb2.block w.heap.size (by simp <;> omega)).trans KK.out.2.1))
      obtain ⟨⟨g0, g1, g2, g3, g4⟩, -⟩ := blk5 ((blk_old (.cells #[.string ⟨#[]⟩, .int .i64 0] 83) (by omega)).trans ((hb2.block (w.heap.size + 1) (by simp <;> omega)).trans KK.out.2.2))
      clear c0
      obtain ⟨e0, e1⟩ := blk2 (heap_alloc_new w1 (.cells #[.string ⟨#[]⟩, .int .i64 0] 83))
      clear hb2
      go_wp2
      go_ret
      exact ⟨by simp [HOK.out], hB⟩
  subst h6
  by_cases h7 : cb = db
  rotate_left
  · go_enter Tryz.func71, Tryz.ntmps71
    go_wp2_with fail
    refine (HONE.out _).mono ?_
    rintro e w1 ⟨hb2, hcase⟩
    rcases hcase with ⟨hok, rfl⟩ | ⟨hok, rfl⟩
    · have HOK := run.hid hok
      clear hok
      have hB := (KK.out.1.trans (hb2.mono KK.out.1.size)).alloc (KK.out.1.trans (hb2.mono KK.out.1.size)).size (.cells #[.string ct, .int .i64 2] 83)
      have hs2 := hb2.size
      simp only [World.size_alloc] at hs2
      obtain ⟨⟨d0, d1, d2, d3, d4⟩, -⟩ := blk5 ((blk_old (.cells #[.string ct, .int .i64 2] 83) (by omega)).trans ((hb2.block w.heap.size (by simp <;> omega)).trans KK.out.2.1))
      obtain ⟨⟨g0, g1, g2, g3, g4⟩, -⟩ := blk5 ((blk_old (.cells #[.string ct, .int .i64 2] 83) (by omega)).trans ((hb2.block (w.heap.size + 1) (by simp <;> omega)).trans KK.out.2.2))
      clear c0
      obtain ⟨e0, e1⟩ := blk2 (heap_alloc_new w1 (.cells #[.string ct, .int .i64 2] 83))
      clear hb2
      go_wp2
      go_ret
      exact ⟨by simp [h7], hB⟩
    · have HOK := run.hid hok
      clear hok
      have hB := (KK.out.1.trans (hb2.mono KK.out.1.size)).alloc (KK.out.1.trans (hb2.mono KK.out.1.size)).size (.cells #[.string ⟨#[]⟩, .int .i64 0] 83)
      have hs2 := hb2.size
      simp only [World.size_alloc] at hs2
      obtain ⟨⟨d0, d1, d2, d3, d4⟩, -⟩ := blk5 ((blk_old (.cells #[.string ⟨#[]⟩, .int .i64 0] 83) (by omega)).trans ((hb2.block w.heap.size (by simp <;> omega)).trans KK.out.2.1))
      obtain ⟨⟨g0, g1, g2, g3, g4⟩, -⟩ := blk5 ((blk_old (.cells #[.string ⟨#[]⟩, .int .i64 0] 83) (by omega)).trans ((hb2.block (w.heap.size + 1) (by simp <;> omega)).trans KK.out.2.2))
      clear c0
      obtain ⟨e0, e1⟩ := blk2 (heap_alloc_new w1 (.cells #[.string ⟨#[]⟩, .int .i64 0] 83))
      clear hb2
      go_wp2
      go_ret
      exact ⟨by simp [HOK.out], hB⟩
  subst h7
  by_cases h8 : ca = da
  rotate_left
  · go_enter Tryz.func71, Tryz.ntmps71
    go_wp2_with fail
    refine (HONE.out _).mono ?_
    rintro e w1 ⟨hb2, hcase⟩
    rcases hcase with ⟨hok, rfl⟩ | ⟨hok, rfl⟩
    · have HOK := run.hid hok
      clear hok
      have hB := (KK.out.1.trans (hb2.mono KK.out.1.size)).alloc (KK.out.1.trans (hb2.mono KK.out.1.size)).size (.cells #[.string ct, .int .i64 2] 83)
      have hs2 := hb2.size
      simp only [World.size_alloc] at hs2
      obtain ⟨⟨d0, d1, d2, d3, d4⟩, -⟩ := blk5 ((blk_old (.cells #[.string ct, .int .i64 2] 83) (by omega)).trans ((hb2.block w.heap.size (by simp <;> omega)).trans KK.out.2.1))
      obtain ⟨⟨g0, g1, g2, g3, g4⟩, -⟩ := blk5 ((blk_old (.cells #[.string ct, .int .i64 2] 83) (by omega)).trans ((hb2.block (w.heap.size + 1) (by simp <;> omega)).trans KK.out.2.2))
      clear c0
      obtain ⟨e0, e1⟩ := blk2 (heap_alloc_new w1 (.cells #[.string ct, .int .i64 2] 83))
      clear hb2
      go_wp2
      go_ret
      exact ⟨by simp [h8], hB⟩
    · have HOK := run.hid hok
      clear hok
      have hB := (KK.out.1.trans (hb2.mono KK.out.1.size)).alloc (KK.out.1.trans (hb2.mono KK.out.1.size)).size (.cells #[.string ⟨#[]⟩, .int .i64 0] 83)
      have hs2 := hb2.size
      simp only [World.size_alloc] at hs2
      obtain ⟨⟨d0, d1, d2, d3, d4⟩, -⟩ := blk5 ((blk_old (.cells #[.string ⟨#[]⟩, .int .i64 0] 83) (by omega)).trans ((hb2.block w.heap.size (by simp <;> omega)).trans KK.out.2.1))
      obtain ⟨⟨g0, g1, g2, g3, g4⟩, -⟩ := blk5 ((blk_old (.cells #[.string ⟨#[]⟩, .int .i64 0] 83) (by omega)).trans ((hb2.block (w.heap.size + 1) (by simp <;> omega)).trans KK.out.2.2))
      clear c0
      obtain ⟨e0, e1⟩ := blk2 (heap_alloc_new w1 (.cells #[.string ⟨#[]⟩, .int .i64 0] 83))
      clear hb2
      go_wp2
      go_ret
      exact ⟨by simp [HOK.out], hB⟩
  subst h8
  go_enter Tryz.func71, Tryz.ntmps71
  go_wp2_with fail
  refine (HONE.out _).mono ?_
  rintro e w1 ⟨hb2, hcase⟩
  rcases hcase with ⟨hok, rfl⟩ | ⟨hok, rfl⟩
  · have HOK := run.hid hok
    clear hok
    have hB := (KK.out.1.trans (hb2.mono KK.out.1.size)).alloc (KK.out.1.trans (hb2.mono KK.out.1.size)).size (.cells #[.string ct, .int .i64 2] 83)
    have hs2 := hb2.size
    simp only [World.size_alloc] at hs2
    obtain ⟨⟨d0, d1, d2, d3, d4⟩, -⟩ := blk5 ((blk_old (.cells #[.string ct, .int .i64 2] 83) (by omega)).trans ((hb2.block w.heap.size (by simp <;> omega)).trans KK.out.2.1))
    obtain ⟨⟨g0, g1, g2, g3, g4⟩, -⟩ := blk5 ((blk_old (.cells #[.string ct, .int .i64 2] 83) (by omega)).trans ((hb2.block (w.heap.size + 1) (by simp <;> omega)).trans KK.out.2.2))
    clear c0
    obtain ⟨e0, e1⟩ := blk2 (heap_alloc_new w1 (.cells #[.string ct, .int .i64 2] 83))
    clear hb2
    go_wp2_with fail
    refine (HPL.out _).mono ?_
    rintro e w2 ⟨rfl, hb3⟩
    have hB2 := hB.trans (hb3.mono hB.size)
    go_wp2
    go_ret
    exact ⟨by simp [HOK.out, h5], hB2⟩
  · have HOK := run.hid hok
    clear hok
    have hB := (KK.out.1.trans (hb2.mono KK.out.1.size)).alloc (KK.out.1.trans (hb2.mono KK.out.1.size)).size (.cells #[.string ⟨#[]⟩, .int .i64 0] 83)
    have hs2 := hb2.size
    simp only [World.size_alloc] at hs2
    obtain ⟨⟨d0, d1, d2, d3, d4⟩, -⟩ := blk5 ((blk_old (.cells #[.string ⟨#[]⟩, .int .i64 0] 83) (by omega)).trans ((hb2.block w.heap.size (by simp <;> omega)).trans KK.out.2.1))
    obtain ⟨⟨g0, g1, g2, g3, g4⟩, -⟩ := blk5 ((blk_old (.cells #[.string ⟨#[]⟩, .int .i64 0] 83) (by omega)).trans ((hb2.block (w.heap.size + 1) (by simp <;> omega)).trans KK.out.2.2))
    clear c0
    obtain ⟨e0, e1⟩ := blk2 (heap_alloc_new w1 (.cells #[.string ⟨#[]⟩, .int .i64 0] 83))
    clear hb2
    go_wp2
    go_ret
    exact ⟨by simp [HOK.out], hB⟩
end Go.Proofs.YtdgcfmfjgidbjaaGreat.cel
namespace Go.Proofs.YtdgcfmfjgidbjaaGreat.cel
open Go Go.RowKit Go.Proofs
set_option linter.unusedVariables false

theorem unitT_at {L : List CV} {i : Nat} (h : i < L.length) : unitT (L.drop i) = if unit1 (L.getD i z0) = 2 ∧ ¬ (i + 1 < L.length ∧ L.getD (i + 1) z0 = restT (L.getD i z0).sty) then 0 else unit1 (L.getD i z0) := by
  have hd : L.drop i = L.getD i z0 :: L.drop (i + 1) := by
    rw [List.drop_eq_getElem_cons h]
    simp [List.getD_eq_getElem?_getD, h]
  rw [hd]
  have hU : ∀ (c : CV) (t : List CV), unitT (c :: t) = if unit1 c = 2 ∧ t.head? ≠ some (restT c.sty) then 0 else unit1 c := fun _ _ => rfl
  rw [hU]
  have hh : (L.drop (i + 1)).head? = some (restT (L.getD i z0).sty) ↔ i + 1 < L.length ∧ L.getD (i + 1) z0 = restT (L.getD i z0).sty := by
    rw [List.head?_drop]
    by_cases h2 : i + 1 < L.length
    · rw [List.getElem?_eq_getElem h2]
      simp [List.getD_eq_getElem?_getD, h2]
    · rw [List.getElem?_eq_none (by omega)]
      simp [h2]
  by_cases h3 : i + 1 < L.length ∧ L.getD (i + 1) z0 = restT (L.getD i z0).sty
  · rw [if_neg (fun k => k.2 (hh.2 h3)), if_neg (fun k => k.2 h3)]
  · by_cases h4 : unit1 (L.getD i z0) = 2
    · rw [if_pos ⟨h4, fun k => h3 (hh.1 k)⟩, if_pos ⟨h4, h3⟩]
    · rw [if_neg (fun k => h4 k.1), if_neg (fun k => h4 k.1)]

set_option maxRecDepth 100000 in
set_option maxHeartbeats 4000000 in
theorem refrow_any (a : Option Addr) (cap : Nat) (L : List CV) (w : World) (hR : Reads5 w (.slice a L.length cap) L) (hN : L.length ≤ 140737488355328) (hL : ∀ c ∈ L, Fit c ∧ c.sty.wf) :
    Calls Tryz.prog 49 #[.slice a L.length cap] w fun e w' => e = .returned (.bool (wholeT L)) ∧ Below w.heap.size w w' := by
  obtain ⟨it, hinf, -, hsz, -⟩ := info_parts info_cell
  have HA := run.hid (fun i (hi : i < L.length) => reads_cell hR hi)
  have HP := run.hid (fun i (hi : i < L.length) w => refpair_any (L.getD i z0) (L.getD (i + 1) z0) (hL _ (by rw [List.getD_eq_getElem?_getD, List.getElem?_eq_getElem hi]; exact List.getElem_mem _)).1 (hL _ (by rw [List.getD_eq_getElem?_getD, List.getElem?_eq_getElem hi]; exact List.getElem_mem _)).2 w)
  have HS := run.hid (fun i (hi : i < L.length) w => refsingle_any (L.getD i z0) (hL _ (by rw [List.getD_eq_getElem?_getD, List.getElem?_eq_getElem hi]; exact List.getElem_mem _)).1 (hL _ (by rw [List.getD_eq_getElem?_getD, List.getElem?_eq_getElem hi]; exact List.getElem_mem _)).2 w)
  have HU := run.hid (fun i (hi : i < L.length) => And.intro (@unitT_at L i hi) (@wholeT_step L i hi))
  have HE := run.hid (wholeT_end L)
  have H0 := run.hid (show wholeT L = wholeT (L.drop 0) from rfl)
  clear hR hL
  generalize L.length = N at *
  obtain ⟨r, hr⟩ : ∃ r, r = wholeT L := ⟨_, rfl⟩
  rw [← hr] at H0 ⊢
  clear hr
  go_enter Tryz.func49, Tryz.ntmps49
  go_wp2
  go_loopw [3] (fun vi wr => ∃ i : Nat, i ≤ N ∧ vi = .int .i64 i ∧ Hid (r = wholeT (L.drop i)) ∧ Below w.heap.size w wr) (fun vi _ => ((N : Int) - intOf vi).toNat)
  case atStart => exact ⟨0, Nat.zero_le _, rfl, H0, Below.refl _ _⟩
  case round =>
    obtain ⟨i, hi, rfl, HI, hbel⟩ := hrel
    by_cases hlt : i < N
    · obtain ⟨b1, o1, rfl, hb1, hc1⟩ := HA.out i hlt
      have HC1 := run.hid (fun (X : World) (h : Below w.heap.size w X) => hc1.below h hb1)
      have HPi := run.hid (HP.out i hlt)
      have HSi := run.hid (HS.out i hlt)
      obtain ⟨hu, hst⟩ := HU.out i hlt
      have HUi := run.hid hu
      have HST := run.hid (HI.out.trans hst)
      have HBL := run.hid hbel
      clear hbel hu hst hc1
      by_cases hlt2 : i + 1 < N
      · obtain ⟨b2, o2, e2, hb2, hc2⟩ := HA.out (i + 1) hlt2
        simp only [Option.some.injEq, Addr.mk.injEq, and_true] at e2
        obtain ⟨rfl, rfl⟩ := e2
        have HC2 := run.hid (fun (X : World) (h : Below w.heap.size w X) => hc2.below h hb2)
        clear HA HP HS HU H0 hc2 hb2
        generalize L.getD i z0 = x at *
        generalize L.getD (i + 1) z0 = y at *
        by_cases hpr : unit1 x = 2 ∧ y = restT x.sty
        · have hu2 : unitT (L.drop i) = 2 := by rw [HUi.out, if_neg (fun k => k.2 ⟨hlt2, hpr.2⟩)]; exact hpr.1
          have HK : Hid (r = wholeT (L.drop (i + 2))) := by show r = _; rw [HST.out, hu2]; rfl
          rw [decide_eq_true hpr] at HPi
          clear hu2 hpr HST HUi HI HSi
          go_upto_region 3 with fail
          refine lx.region (fun D X => Below wr.heap.size wr X) (by kernel_rfl) (by kernel_rfl) (by kernel_rfl) (drewB (Below.refl _ _)) ?_
          refine lx.begin 34 rfl ?_
          refine lx.o_pure (.int .i64 (i : Nat)) (fun _ _ h => by first | rfl | kernel_rfl) ?_
          refine lx.o_pure (.int .i64 ((i + 1 : Nat) : Int)) (fun _ _ _ => lx.run_add rfl rfl rfl (by omega) (by push_cast; rfl)) ?_
          refine lx.o_pure (.slice (some ⟨b1, o1, none⟩) N cap) (fun _ _ h => by first | rfl | kernel_rfl) ?_
          refine lx.o_pure (.int .i64 (N : Nat)) (fun _ _ h => by first | rfl | kernel_rfl) ?_
          refine lx.o_pure (.bool true) (fun _ _ _ => run_lss rfl rfl rfl (decide_eq_true (by omega))) ?_
          refine lx.o_pure (.bool true) (fun _ _ h => by first | rfl | kernel_rfl) ?_
          refine lx.o_pure (.slice (some ⟨b1, o1, none⟩) N cap) (fun _ _ h => by first | rfl | kernel_rfl) ?_
          refine lx.o_pure (.int .i64 (i : Nat)) (fun _ _ h => by first | rfl | kernel_rfl) ?_
          refine lx.o_pure (.pointer (some ⟨b1, o1 + i * 5, none⟩)) (fun D X hC => lx.run_at rfl rfl rfl hlt Tryz.underlying35 hinf hsz) ?_
          refine lx.o_pure x.val (fun D X hC => run_load5 rfl rfl (HC1.out _ (HBL.out.trans (hC.mono HBL.out.size)))) ?_
          refine lx.o_pure (.slice (some ⟨b1, o1, none⟩) N cap) (fun _ _ h => by first | rfl | kernel_rfl) ?_
          refine lx.o_pure (.int .i64 (i : Nat)) (fun _ _ h => by first | rfl | kernel_rfl) ?_
          refine lx.o_pure (.int .i64 ((i + 1 : Nat) : Int)) (fun _ _ _ => lx.run_add rfl rfl rfl (by omega) (by push_cast; rfl)) ?_
          refine lx.o_pure (.pointer (some ⟨b1, o1 + (i + 1) * 5, none⟩)) (fun D X hC => lx.run_at rfl rfl rfl hlt2 Tryz.underlying35 hinf hsz) ?_
          refine lx.o_pure y.val (fun D X hC => run_load5 rfl rfl (HC2.out _ (HBL.out.trans (hC.mono HBL.out.size)))) ?_
          refine lx.o_call (.bool true) 71 #[x.val, y.val] (fun _ _ _ => lx.run_fn rfl rfl rfl (enters_of Tryz.func71 (by kernel_rfl) rfl)) (fun D X hC => (HPi.out X).mono fun e w2 ⟨he, hw⟩ => ⟨he, hC.trans (hw.mono hC.size)⟩) ?_
          refine lx.o_pure (.bool true) (fun _ _ h => by first | rfl | kernel_rfl) ?_
          refine lx.o_end ?_
          simp only [lx.ov]
          rintro X d hd hC
          have HF := run.hid (HBL.out.trans (hC.mono HBL.out.size))
          clear hC hd HBL HC1 HC2 HPi
          go_simp
          go_wp2
          go_roundw
          case rel => exact ⟨i + 2, by omega, by go_num, HK, HF.out⟩
          case measure => simp [intOf]; omega
        · rw [decide_eq_false hpr] at HPi
          have HUj : Hid (unitT (L.drop i) = if unit1 x = 1 then 1 else 0) := by
            show _ = _
            rw [HUi.out]
            have := unit1_le x
            by_cases h2 : unit1 x = 2
            · rw [if_pos ⟨h2, fun k => hpr ⟨h2, k.2⟩⟩, if_neg (by omega)]
            · rw [if_neg (fun k => h2 k.1)]; split <;> omega
          clear hpr HUi HI
          go_upto_region 3 with fail
          go_cut [24] (fun c X => c = .bool false ∧ Below wr.heap.size wr X)
          case first =>
            refine lx.region (fun D X => Below wr.heap.size wr X) (by kernel_rfl) (by kernel_rfl) (by kernel_rfl) (drewB (Below.refl _ _)) ?_
            refine lx.begin 34 rfl ?_
            refine lx.o_pure (.int .i64 (i : Nat)) (fun _ _ h => by first | rfl | kernel_rfl) ?_
            refine lx.o_pure (.int .i64 ((i + 1 : Nat) : Int)) (fun _ _ _ => lx.run_add rfl rfl rfl (by omega) (by push_cast; rfl)) ?_
            refine lx.o_pure (.slice (some ⟨b1, o1, none⟩) N cap) (fun _ _ h => by first | rfl | kernel_rfl) ?_
            refine lx.o_pure (.int .i64 (N : Nat)) (fun _ _ h => by first | rfl | kernel_rfl) ?_
            refine lx.o_pure (.bool true) (fun _ _ _ => run_lss rfl rfl rfl (decide_eq_true (by omega))) ?_
            refine lx.o_pure (.bool true) (fun _ _ h => by first | rfl | kernel_rfl) ?_
            refine lx.o_pure (.slice (some ⟨b1, o1, none⟩) N cap) (fun _ _ h => by first | rfl | kernel_rfl) ?_
            refine lx.o_pure (.int .i64 (i : Nat)) (fun _ _ h => by first | rfl | kernel_rfl) ?_
            refine lx.o_pure (.pointer (some ⟨b1, o1 + i * 5, none⟩)) (fun D X hC => lx.run_at rfl rfl rfl hlt Tryz.underlying35 hinf hsz) ?_
            refine lx.o_pure x.val (fun D X hC => run_load5 rfl rfl (HC1.out _ (HBL.out.trans (hC.mono HBL.out.size)))) ?_
            refine lx.o_pure (.slice (some ⟨b1, o1, none⟩) N cap) (fun _ _ h => by first | rfl | kernel_rfl) ?_
            refine lx.o_pure (.int .i64 (i : Nat)) (fun _ _ h => by first | rfl | kernel_rfl) ?_
            refine lx.o_pure (.int .i64 ((i + 1 : Nat) : Int)) (fun _ _ _ => lx.run_add rfl rfl rfl (by omega) (by push_cast; rfl)) ?_
            refine lx.o_pure (.pointer (some ⟨b1, o1 + (i + 1) * 5, none⟩)) (fun D X hC => lx.run_at rfl rfl rfl hlt2 Tryz.underlying35 hinf hsz) ?_
            refine lx.o_pure y.val (fun D X hC => run_load5 rfl rfl (HC2.out _ (HBL.out.trans (hC.mono HBL.out.size)))) ?_
            refine lx.o_call (.bool false) 71 #[x.val, y.val] (fun _ _ _ => lx.run_fn rfl rfl rfl (enters_of Tryz.func71 (by kernel_rfl) rfl)) (fun D X hC => (HPi.out X).mono fun e w2 ⟨he, hw⟩ => ⟨he, hC.trans (hw.mono hC.size)⟩) ?_
            refine lx.o_pure (.bool false) (fun _ _ h => by first | rfl | kernel_rfl) ?_
            refine lx.o_end ?_
            simp only [lx.ov]
            rintro X d hd hC
            have HF := run.hid hC
            clear hC hd HC1 HC2 HPi
            go_simp
            go_wp2
            go_meet
            case rel => exact ⟨rfl, HF.out⟩
          obtain ⟨rfl, hX⟩ := hcut
          have HB3 := run.hid (HBL.out.trans (hX.mono HBL.out.size))
          obtain ⟨d0, d1, d2, d3, d4⟩ := HC1.out _ HB3.out
          clear HBL hX HC1 HC2 HPi
          by_cases h1 : unit1 x = 1
          · rw [decide_eq_true h1] at HSi
            have HK : Hid (r = wholeT (L.drop (i + 1))) := by show r = _; rw [HST.out, HUj.out, if_pos h1]; rfl
            clear h1 HST HUj
            obtain ⟨xt, xw, ⟨xf, xb, xa⟩⟩ := x
            change Hid (∀ w, Calls _ _ #[.agg #[.string xt, .int .i8 xw, .int .i32 xf, .int .i32 xb, .int .u8 xa]] _ _) at HSi
            go_wp2_with fail
            refine (HSi.out _).mono ?_
            rintro e w4 ⟨rfl, hb4⟩
            have HF := run.hid (HB3.out.trans (hb4.mono HB3.out.size))
            clear hb4 HSi d0 d1 d2 d3 d4 HB3
            go_wp2
            go_roundw
            case rel => exact ⟨i + 1, by omega, by go_num, HK, HF.out⟩
            case measure => simp [intOf]; omega
          · rw [decide_eq_false h1] at HSi
            have HK : Hid (r = false) := by show r = _; rw [HST.out, HUj.out, if_neg h1]; rfl
            clear h1 HST HUj
            obtain ⟨xt, xw, ⟨xf, xb, xa⟩⟩ := x
            change Hid (∀ w, Calls _ _ #[.agg #[.string xt, .int .i8 xw, .int .i32 xf, .int .i32 xb, .int .u8 xa]] _ _) at HSi
            go_wp2_with fail
            refine (HSi.out _).mono ?_
            rintro e w4 ⟨rfl, hb4⟩
            have HF := run.hid (HB3.out.trans (hb4.mono HB3.out.size))
            clear hb4 HSi d0 d1 d2 d3 d4 HB3
            go_wp2
            go_ret
            exact ⟨by rw [HK.out]; try rfl, HF.out⟩
      · clear HA HP HS HU H0
        generalize L.getD i z0 = x at *
        have HUj : Hid (unitT (L.drop i) = if unit1 x = 1 then 1 else 0) := by
          show _ = _
          rw [HUi.out]
          have := unit1_le x
          by_cases h2 : unit1 x = 2
          · rw [if_pos ⟨h2, fun k => hlt2 k.1⟩, if_neg (by omega)]
          · rw [if_neg (fun k => h2 k.1)]; split <;> omega
        clear HUi HI
        go_upto_region 3 with fail
        go_cut [24] (fun c X => c = .bool false ∧ Below wr.heap.size wr X)
        case first =>
          refine lx.region (fun D X => Below wr.heap.size wr X) (by kernel_rfl) (by kernel_rfl) (by kernel_rfl) (drewB (Below.refl _ _)) ?_
          refine lx.begin 34 rfl ?_
          refine lx.o_pure (.int .i64 (i : Nat)) (fun _ _ h => by first | rfl | kernel_rfl) ?_
          refine lx.o_pure (.int .i64 ((i + 1 : Nat) : Int)) (fun _ _ _ => lx.run_add rfl rfl rfl (by omega) (by push_cast; rfl)) ?_
          refine lx.o_pure (.slice (some ⟨b1, o1, none⟩) N cap) (fun _ _ h => by first | rfl | kernel_rfl) ?_
          refine lx.o_pure (.int .i64 (N : Nat)) (fun _ _ h => by first | rfl | kernel_rfl) ?_
          refine lx.o_pure (.bool false) (fun _ _ _ => run_lss rfl rfl rfl (decide_eq_false (by omega))) ?_
          refine lx.o_pure (.bool false) (fun _ _ h => by first | rfl | kernel_rfl) ?_
          refine lx.o_skip ?_
          refine lx.o_skip ?_
          refine lx.o_skip ?_
          refine lx.o_skip ?_
          refine lx.o_skip ?_
          refine lx.o_skip ?_
          refine lx.o_skip ?_
          refine lx.o_skip ?_
          refine lx.o_skip ?_
          refine lx.o_skip ?_
          refine lx.o_pure (.bool false) (fun _ _ h => by first | rfl | kernel_rfl) ?_
          refine lx.o_end ?_
          simp only [lx.ov]
          rintro X d hd hC
          have HF := run.hid hC
          clear hC hd HC1 HPi
          go_simp
          go_wp2
          go_meet
          case rel => exact ⟨rfl, HF.out⟩
        obtain ⟨rfl, hX⟩ := hcut
        have HB3 := run.hid (HBL.out.trans (hX.mono HBL.out.size))
        obtain ⟨d0, d1, d2, d3, d4⟩ := HC1.out _ HB3.out
        clear HBL hX HC1 HPi
        by_cases h1 : unit1 x = 1
        · rw [decide_eq_true h1] at HSi
          have HK : Hid (r = wholeT (L.drop (i + 1))) := by show r = _; rw [HST.out, HUj.out, if_pos h1]; rfl
          clear h1 HST HUj
          obtain ⟨xt, xw, ⟨xf, xb, xa⟩⟩ := x
          change Hid (∀ w, Calls _ _ #[.agg #[.string xt, .int .i8 xw, .int .i32 xf, .int .i32 xb, .int .u8 xa]] _ _) at HSi
          go_wp2_with fail
          refine (HSi.out _).mono ?_
          rintro e w4 ⟨rfl, hb4⟩
          have HF := run.hid (HB3.out.trans (hb4.mono HB3.out.size))
          clear hb4 HSi d0 d1 d2 d3 d4 HB3
          go_wp2
          go_roundw
          case rel => exact ⟨i + 1, by omega, by go_num, HK, HF.out⟩
          case measure => simp [intOf]; omega
        · rw [decide_eq_false h1] at HSi
          have HK : Hid (r = false) := by show r = _; rw [HST.out, HUj.out, if_neg h1]; rfl
          clear h1 HST HUj
          obtain ⟨xt, xw, ⟨xf, xb, xa⟩⟩ := x
          change Hid (∀ w, Calls _ _ #[.agg #[.string xt, .int .i8 xw, .int .i32 xf, .int .i32 xb, .int .u8 xa]] _ _) at HSi
          go_wp2_with fail
          refine (HSi.out _).mono ?_
          rintro e w4 ⟨rfl, hb4⟩
          have HF := run.hid (HB3.out.trans (hb4.mono HB3.out.size))
          clear hb4 HSi d0 d1 d2 d3 d4 HB3
          go_wp2
          go_ret
          exact ⟨by rw [HK.out]; try rfl, HF.out⟩
    · obtain rfl : i = N := by omega
      have HK : Hid (r = true) := by show r = _; rw [HI.out, HE.out]
      clear HA HP HS HU H0 HI
      go_wp2
      go_ret
      exact ⟨by rw [HK.out]; try rfl, hbel⟩
end Go.Proofs.YtdgcfmfjgidbjaaGreat.cel
