/-
  The law EditKnown: the chapter's examples. (Printed by gen_edknown.py.)
-/
import Derived.Test.YtgfjaegjkklcpaaEdKnownA
import Derived.Test.YtgfjaegjkklcpaaEdLawForgets
namespace Go.Proofs.Ytgfjaegjkklcpaa.ed
open Go Go.RowKit Go.Proofs
set_option linter.unusedVariables false
def kt0 : ByteArray := ⟨#[97, 98, 10, 9, 99]⟩
theorem kt0_l : kt0.toList = [97, 98, 10, 9, 99] := by decide +kernel
def kt1 : ByteArray := ⟨#[101]⟩
theorem kt1_l : kt1.toList = [101] := by decide +kernel
def kt2 : ByteArray := ⟨#[97, 98]⟩
theorem kt2_l : kt2.toList = [97, 98] := by decide +kernel
def kt3 : ByteArray := ⟨#[]⟩
theorem kt3_l : kt3.toList = [] := by decide +kernel
def kt4 : ByteArray := ⟨#[97, 32, 98]⟩
theorem kt4_l : kt4.toList = [97, 32, 98] := by decide +kernel
def kt5 : ByteArray := ⟨#[97, 98, 99, 100, 101, 102]⟩
theorem kt5_l : kt5.toList = [97, 98, 99, 100, 101, 102] := by decide +kernel
def kt6 : ByteArray := ⟨#[228, 184, 150, 228, 184, 150]⟩
theorem kt6_l : kt6.toList = [228, 184, 150, 228, 184, 150] := by decide +kernel
def kt7 : ByteArray := ⟨#[97, 98, 32, 32, 99]⟩
theorem kt7_l : kt7.toList = [97, 98, 32, 32, 99] := by decide +kernel
def kt8 : ByteArray := ⟨#[120]⟩
theorem kt8_l : kt8.toList = [120] := by decide +kernel
def kt9 : ByteArray := ⟨#[120, 99]⟩
theorem kt9_l : kt9.toList = [120, 99] := by decide +kernel
def kt10 : ByteArray := ⟨#[204, 129]⟩
theorem kt10_l : kt10.toList = [204, 129] := by decide +kernel
def kt11 : ByteArray := ⟨#[101, 204, 129]⟩
theorem kt11_l : kt11.toList = [101, 204, 129] := by decide +kernel
def kt12 : ByteArray := ⟨#[120, 204, 129]⟩
theorem kt12_l : kt12.toList = [120, 204, 129] := by decide +kernel
def kt13 : ByteArray := ⟨#[120, 204, 129, 97, 98]⟩
theorem kt13_l : kt13.toList = [120, 204, 129, 97, 98] := by decide +kernel
def kt14 : ByteArray := ⟨#[27]⟩
theorem kt14_l : kt14.toList = [27] := by decide +kernel
def kt15 : ByteArray := ⟨#[97, 32]⟩
theorem kt15_l : kt15.toList = [97, 32] := by decide +kernel
def kt16 : ByteArray := ⟨#[97]⟩
theorem kt16_l : kt16.toList = [97] := by decide +kernel
def kt17 : ByteArray := ⟨#[100, 101, 102]⟩
theorem kt17_l : kt17.toList = [100, 101, 102] := by decide +kernel
def kt18 : ByteArray := ⟨#[97, 98, 99, 100]⟩
theorem kt18_l : kt18.toList = [97, 98, 99, 100] := by decide +kernel
def kt19 : ByteArray := ⟨#[228, 184, 150]⟩
theorem kt19_l : kt19.toList = [228, 184, 150] := by decide +kernel
def kA0 : Sta := newE kt0
theorem ok_kA0 : EdOk kA0 := ok_new _
def kB0 : Sta := newE kt1
theorem ok_kB0 : EdOk kB0 := ok_new _
def kC0 : Sta := newE kt2
theorem ok_kC0 : EdOk kC0 := ok_new _
def kD0 : Sta := newE kt3
theorem ok_kD0 : EdOk kD0 := ok_new _
def kF0 : Sta := newE kt4
theorem ok_kF0 : EdOk kF0 := ok_new _
def kH0 : Sta := newE kt5
theorem ok_kH0 : EdOk kH0 := ok_new _
def kK0 : Sta := newE kt6
theorem ok_kK0 : EdOk kK0 := ok_new _
def kM0 : Sta := newE kt2
theorem ok_kM0 : EdOk kM0 := ok_new _
/-- the largest text -/
def kt_big : ByteArray := utf.str (List.replicate 65536 120)
def kG0 : Sta := newE kt_big
theorem ok_kG0 : EdOk kG0 := ok_new _
theorem rep_text (n : Nat) : textB (rep n) = utf.str (List.replicate n 120) := by
  apply utf.bs_inj
  rw [bs_textB, utf.bs_str (by intro c hc; rw [List.eq_of_mem_replicate hc]; decide)]
  induction n with
  | zero => rfl
  | succ n ih =>
    have e : wrp.bytesT (rep (n + 1)) = [120] ++ wrp.bytesT (rep n) := by
      unfold rep wrp.bytesT
      rw [List.replicate_succ, List.flatMap_cons]
      congr 1
    rw [e, ih, List.replicate_succ]
    rfl
theorem big_st (n : Nat) (hn : n ≤ 65536) : newE (utf.str (List.replicate n 120)) = ⟨rep n, n, -1, [], 0⟩ := by
  have h : Held (rep n) n := ⟨lin_rep n, by rw [rep_size]; exact hn, by rw [rep_len]; exact Nat.le_refl _⟩
  have h1 : newT (utf.str (List.replicate n 120)) = rep n := by rw [← rep_text]; exact new_self h
  unfold newE
  rw [h1, rep_len]
theorem big_ins (n : Nat) (hn : n = 65536) : insT ⟨rep n, n, -1, [], 0⟩ tX = (false, ⟨rep n, n, -1, [], 0⟩) := by
  have hm : mkT (-1) n = (n, n) := by unfold mkT; rw [if_pos (by omega)]
  have htk : (rep n).take n = rep n := by rw [List.take_of_length_le (by rw [rep_len]; exact Nat.le_refl _)]
  have hdr : (rep n).drop n = [] := by rw [List.drop_of_length_le (by rw [rep_len]; exact Nat.le_refl _)]
  have ha : aheadI ⟨rep n, n, -1, [], 0⟩ tX = textB (rep (n + 1)) := by
    show textB ((rep n).take (mkT (-1) n).1) ++ typedB tX = _
    rw [hm]
    dsimp only
    rw [htk, typed_x, rep_snoc, ← textB_snoc]
  have hE : ∀ s : ByteArray, s ++ textB [] = s := fun s => by apply utf.bs_inj; rw [bs_app, bs_textB]; show _ ++ [] = _; rw [List.append_nil]
  have hL : lineT (textB (rep (n + 1))) = rep (n + 1) := (lin_rep (n + 1)).line (bs_textB _)
  have hi2 : insL ⟨rep n, n, -1, [], 0⟩ tX = rep (n + 1) := by
    show lineT (aheadI ⟨rep n, n, -1, [], 0⟩ tX ++ textB ((rep n).drop (mkT (-1) n).2)) = _
    rw [ha, hm]
    dsimp only
    rw [hdr, hE, hL]
  unfold insT
  rw [hi2, rep_size, if_pos (by omega)]
theorem kG0_e : ∃ s, insT kG0 tX = (false, s) ∧ s = kG0 := by
  have h1 : kG0 = ⟨rep 65536, 65536, -1, [], 0⟩ := big_st 65536 (Nat.le_refl _)
  rw [h1]
  obtain ⟨n, hn⟩ : ∃ n : Nat, n = 65536 := ⟨_, rfl⟩
  rw [← hn]
  exact ⟨_, big_ins n hn, rfl⟩
theorem kG0_t : (textB kG0.F).size = 65536 := by
  have h1 : kG0 = ⟨rep 65536, 65536, -1, [], 0⟩ := big_st 65536 (Nat.le_refl _)
  rw [h1]
  exact rep_size 65536
def kA1 : Sta := (goT kA0 2 false).2
theorem ok_kA1 : EdOk kA1 := ok_go ok_kA0 _ _
def kA2 : Sta := (goT kA1 2 true).2
theorem ok_kA2 : EdOk kA2 := ok_go ok_kA1 _ _
def kA3 : Sta := (insT kA2 kt8).2
theorem ok_kA3 : EdOk kA3 := ok_ins ok_kA2 _
def kA4 : Sta := (undoT kA3).2
theorem ok_kA4 : EdOk kA4 := ok_undo ok_kA3
def kA5 : Sta := (undoT kA4).2
theorem ok_kA5 : EdOk kA5 := ok_undo ok_kA4
def kB1 : Sta := (insT kB0 kt10).2
theorem ok_kB1 : EdOk kB1 := ok_ins ok_kB0 _
def kC1 : Sta := (goT kC0 4 false).2
theorem ok_kC1 : EdOk kC1 := ok_go ok_kC0 _ _
def kC2 : Sta := (insT kC1 kt10).2
theorem ok_kC2 : EdOk kC2 := ok_ins ok_kC1 _
def kC3 : Sta := (insT kC2 kt12).2
theorem ok_kC3 : EdOk kC3 := ok_ins ok_kC2 _
def kD1 : Sta := (goT kD0 0 false).2
theorem ok_kD1 : EdOk kD1 := ok_go ok_kD0 _ _
def kD2 : Sta := (goT kD1 9 true).2
theorem ok_kD2 : EdOk kD2 := ok_go ok_kD1 _ _
def kD3 : Sta := (delT kD2 0).2
theorem ok_kD3 : EdOk kD3 := ok_del ok_kD2 _
def kD4 : Sta := (insT kD3 kt3).2
theorem ok_kD4 : EdOk kD4 := ok_ins ok_kD3 _
def kD5 : Sta := (insT kD4 kt14).2
theorem ok_kD5 : EdOk kD5 := ok_ins ok_kD4 _
def kF1 : Sta := (delT kF0 2).2
theorem ok_kF1 : EdOk kF1 := ok_del ok_kF0 _
def kF2 : Sta := (delT kF1 0).2
theorem ok_kF2 : EdOk kF2 := ok_del ok_kF1 _
def kF3 : Sta := (redoT kF2).2
theorem ok_kF3 : EdOk kF3 := ok_redo ok_kF2
def kM1 : Sta := (goT kM0 4 false).2
theorem ok_kM1 : EdOk kM1 := ok_go ok_kM0 _ _
def kM2 : Sta := (goT kM1 5 true).2
theorem ok_kM2 : EdOk kM2 := ok_go ok_kM1 _ _
def kM3 : Sta := (goT kM2 5 false).2
theorem ok_kM3 : EdOk kM3 := ok_go ok_kM2 _ _
def kM4 : Sta := (goT kM3 4 true).2
theorem ok_kM4 : EdOk kM4 := ok_go ok_kM3 _ _
def kM5 : Sta := (delT kM4 9).2
theorem ok_kM5 : EdOk kM5 := ok_del ok_kM4 _
def kH1 : Sta := (goT kH0 4 false).2
theorem ok_kH1 : EdOk kH1 := ok_go ok_kH0 _ _
theorem kA0_t : textB kA0.F = kt7 := by decide +kernel
theorem kA0_c : kA0.ca = 5 := by decide +kernel
theorem kA1_d : kA1 = (goT kA0 2 false).2 := by delta kA1; with_reducible rfl
theorem kA1_e : goT kA0 2 false = (true, kA1) := by
  have h1 : (goT kA0 2 false).1 = true := by decide +kernel
  have h2 := kA1_d
  generalize goT kA0 2 false = q at *
  obtain ⟨a, c⟩ := q
  dsimp only at h1 h2
  rw [h1, h2]
theorem kA1_c : kA1.ca = 4 := by decide +kernel
theorem kA2_d : kA2 = (goT kA1 2 true).2 := by delta kA2; with_reducible rfl
theorem kA2_e : goT kA1 2 true = (true, kA2) := by
  have h1 : (goT kA1 2 true).1 = true := by decide +kernel
  have h2 := kA2_d
  generalize goT kA1 2 true = q at *
  obtain ⟨a, c⟩ := q
  dsimp only at h1 h2
  rw [h1, h2]
theorem kA2_m : mkT kA2.an kA2.ca = (0, 4) := by decide +kernel
theorem kA3_d : kA3 = (insT kA2 kt8).2 := by delta kA3; with_reducible rfl
theorem kA3_e : insT kA2 kt8 = (true, kA3) := by
  have h1 : (insT kA2 kt8).1 = true := by decide +kernel
  have h2 := kA3_d
  generalize insT kA2 kt8 = q at *
  obtain ⟨a, c⟩ := q
  dsimp only at h1 h2
  rw [h1, h2]
theorem kA3_t : textB kA3.F = kt9 := by decide +kernel
theorem kA3_c : kA3.ca = 1 := by decide +kernel
theorem kA4_d : kA4 = (undoT kA3).2 := by delta kA4; with_reducible rfl
theorem kA4_e : undoT kA3 = (true, kA4) := by
  have h1 : (undoT kA3).1 = true := by decide +kernel
  have h2 := kA4_d
  generalize undoT kA3 = q at *
  obtain ⟨a, c⟩ := q
  dsimp only at h1 h2
  rw [h1, h2]
theorem kA4_m : mkT kA4.an kA4.ca = (0, 0) := by decide +kernel
theorem kA4_t : textB kA4.F = kt7 := by decide +kernel
theorem kA4_c : kA4.ca = 0 := by decide +kernel
theorem kA5_d : kA5 = (undoT kA4).2 := by delta kA5; with_reducible rfl
theorem kA5_e : undoT kA4 = (false, kA5) := by
  have h1 : (undoT kA4).1 = false := by decide +kernel
  have h2 := kA5_d
  generalize undoT kA4 = q at *
  obtain ⟨a, c⟩ := q
  dsimp only at h1 h2
  rw [h1, h2]
theorem kB1_d : kB1 = (insT kB0 kt10).2 := by delta kB1; with_reducible rfl
theorem kB1_e : insT kB0 kt10 = (true, kB1) := by
  have h1 : (insT kB0 kt10).1 = true := by decide +kernel
  have h2 := kB1_d
  generalize insT kB0 kt10 = q at *
  obtain ⟨a, c⟩ := q
  dsimp only at h1 h2
  rw [h1, h2]
theorem kB1_t : textB kB1.F = kt11 := by decide +kernel
theorem kB1_c : kB1.ca = 1 := by decide +kernel
theorem kC1_d : kC1 = (goT kC0 4 false).2 := by delta kC1; with_reducible rfl
theorem kC1_e : goT kC0 4 false = (true, kC1) := by
  have h1 : (goT kC0 4 false).1 = true := by decide +kernel
  have h2 := kC1_d
  generalize goT kC0 4 false = q at *
  obtain ⟨a, c⟩ := q
  dsimp only at h1 h2
  rw [h1, h2]
theorem kC2_d : kC2 = (insT kC1 kt10).2 := by delta kC2; with_reducible rfl
theorem kC2_e : insT kC1 kt10 = (false, kC2) := by
  have h1 : (insT kC1 kt10).1 = false := by decide +kernel
  have h2 := kC2_d
  generalize insT kC1 kt10 = q at *
  obtain ⟨a, c⟩ := q
  dsimp only at h1 h2
  rw [h1, h2]
theorem kC3_d : kC3 = (insT kC2 kt12).2 := by delta kC3; with_reducible rfl
theorem kC3_e : insT kC2 kt12 = (true, kC3) := by
  have h1 : (insT kC2 kt12).1 = true := by decide +kernel
  have h2 := kC3_d
  generalize insT kC2 kt12 = q at *
  obtain ⟨a, c⟩ := q
  dsimp only at h1 h2
  rw [h1, h2]
theorem kC3_t : textB kC3.F = kt13 := by decide +kernel
theorem kC3_c : kC3.ca = 1 := by decide +kernel
theorem kD1_d : kD1 = (goT kD0 0 false).2 := by delta kD1; with_reducible rfl
theorem kD1_e : goT kD0 0 false = (false, kD1) := by
  have h1 : (goT kD0 0 false).1 = false := by decide +kernel
  have h2 := kD1_d
  generalize goT kD0 0 false = q at *
  obtain ⟨a, c⟩ := q
  dsimp only at h1 h2
  rw [h1, h2]
theorem kD2_d : kD2 = (goT kD1 9 true).2 := by delta kD2; with_reducible rfl
theorem kD2_e : goT kD1 9 true = (false, kD2) := by
  have h1 : (goT kD1 9 true).1 = false := by decide +kernel
  have h2 := kD2_d
  generalize goT kD1 9 true = q at *
  obtain ⟨a, c⟩ := q
  dsimp only at h1 h2
  rw [h1, h2]
theorem kD3_d : kD3 = (delT kD2 0).2 := by delta kD3; with_reducible rfl
theorem kD3_e : delT kD2 0 = (false, kD3) := by
  have h1 : (delT kD2 0).1 = false := by decide +kernel
  have h2 := kD3_d
  generalize delT kD2 0 = q at *
  obtain ⟨a, c⟩ := q
  dsimp only at h1 h2
  rw [h1, h2]
theorem kD4_d : kD4 = (insT kD3 kt3).2 := by delta kD4; with_reducible rfl
theorem kD4_e : insT kD3 kt3 = (false, kD4) := by
  have h1 : (insT kD3 kt3).1 = false := by decide +kernel
  have h2 := kD4_d
  generalize insT kD3 kt3 = q at *
  obtain ⟨a, c⟩ := q
  dsimp only at h1 h2
  rw [h1, h2]
theorem kD5_d : kD5 = (insT kD4 kt14).2 := by delta kD5; with_reducible rfl
theorem kD5_e : insT kD4 kt14 = (false, kD5) := by
  have h1 : (insT kD4 kt14).1 = false := by decide +kernel
  have h2 := kD5_d
  generalize insT kD4 kt14 = q at *
  obtain ⟨a, c⟩ := q
  dsimp only at h1 h2
  rw [h1, h2]
theorem kF1_d : kF1 = (delT kF0 2).2 := by delta kF1; with_reducible rfl
theorem kF1_e : delT kF0 2 = (true, kF1) := by
  have h1 : (delT kF0 2).1 = true := by decide +kernel
  have h2 := kF1_d
  generalize delT kF0 2 = q at *
  obtain ⟨a, c⟩ := q
  dsimp only at h1 h2
  rw [h1, h2]
theorem kF1_t : textB kF1.F = kt15 := by decide +kernel
theorem kF2_d : kF2 = (delT kF1 0).2 := by delta kF2; with_reducible rfl
theorem kF2_e : delT kF1 0 = (true, kF2) := by
  have h1 : (delT kF1 0).1 = true := by decide +kernel
  have h2 := kF2_d
  generalize delT kF1 0 = q at *
  obtain ⟨a, c⟩ := q
  dsimp only at h1 h2
  rw [h1, h2]
theorem kF3_d : kF3 = (redoT kF2).2 := by delta kF3; with_reducible rfl
theorem kF3_e : redoT kF2 = (false, kF3) := by
  have h1 : (redoT kF2).1 = false := by decide +kernel
  have h2 := kF3_d
  generalize redoT kF2 = q at *
  obtain ⟨a, c⟩ := q
  dsimp only at h1 h2
  rw [h1, h2]
theorem kF3_t : textB kF3.F = kt16 := by decide +kernel
theorem kH0_v4 : viewT kH0.F kH0.ca 4 = (kt17, 3) := by decide +kernel
theorem kH0_v1 : viewT kH0.F kH0.ca 1 = (kt3, 0) := by decide +kernel
theorem kM1_d : kM1 = (goT kM0 4 false).2 := by delta kM1; with_reducible rfl
theorem kM1_e : goT kM0 4 false = (true, kM1) := by
  have h1 : (goT kM0 4 false).1 = true := by decide +kernel
  have h2 := kM1_d
  generalize goT kM0 4 false = q at *
  obtain ⟨a, c⟩ := q
  dsimp only at h1 h2
  rw [h1, h2]
theorem kM2_d : kM2 = (goT kM1 5 true).2 := by delta kM2; with_reducible rfl
theorem kM2_e : goT kM1 5 true = (true, kM2) := by
  have h1 : (goT kM1 5 true).1 = true := by decide +kernel
  have h2 := kM2_d
  generalize goT kM1 5 true = q at *
  obtain ⟨a, c⟩ := q
  dsimp only at h1 h2
  rw [h1, h2]
theorem kM3_d : kM3 = (goT kM2 5 false).2 := by delta kM3; with_reducible rfl
theorem kM3_e : goT kM2 5 false = (true, kM3) := by
  have h1 : (goT kM2 5 false).1 = true := by decide +kernel
  have h2 := kM3_d
  generalize goT kM2 5 false = q at *
  obtain ⟨a, c⟩ := q
  dsimp only at h1 h2
  rw [h1, h2]
theorem kM3_m : mkT kM3.an kM3.ca = (2, 2) := by decide +kernel
theorem kM4_d : kM4 = (goT kM3 4 true).2 := by delta kM4; with_reducible rfl
theorem kM4_e : goT kM3 4 true = (true, kM4) := by
  have h1 : (goT kM3 4 true).1 = true := by decide +kernel
  have h2 := kM4_d
  generalize goT kM3 4 true = q at *
  obtain ⟨a, c⟩ := q
  dsimp only at h1 h2
  rw [h1, h2]
theorem kM5_d : kM5 = (delT kM4 9).2 := by delta kM5; with_reducible rfl
theorem kM5_e : delT kM4 9 = (true, kM5) := by
  have h1 : (delT kM4 9).1 = true := by decide +kernel
  have h2 := kM5_d
  generalize delT kM4 9 = q at *
  obtain ⟨a, c⟩ := q
  dsimp only at h1 h2
  rw [h1, h2]
theorem kM5_t : textB kM5.F = kt3 := by decide +kernel
theorem kH1_d : kH1 = (goT kH0 4 false).2 := by delta kH1; with_reducible rfl
theorem kH1_e : goT kH0 4 false = (true, kH1) := by
  have h1 : (goT kH0 4 false).1 = true := by decide +kernel
  have h2 := kH1_d
  generalize goT kH0 4 false = q at *
  obtain ⟨a, c⟩ := q
  dsimp only at h1 h2
  rw [h1, h2]
theorem kH1_v4 : viewT kH1.F kH1.ca 4 = (kt18, 0) := by decide +kernel
theorem kK0_v3 : viewT kK0.F kK0.ca 3 = (kt19, 2) := by decide +kernel
theorem kK0_v2 : viewT kK0.F kK0.ca 2 = (kt3, 0) := by decide +kernel
set_option maxRecDepth 100000 in
set_option maxHeartbeats 64000000 in
theorem lawKnown_any (w : World) : Calls Try.prog 7 #[] w fun e w' => e = .returned (.bool true) ∧ Below w.heap.size w w' := by
  have x0 := kt0_l
  have x1 := kt1_l
  have x2 := kt2_l
  have x3 := kt3_l
  have x4 := kt4_l
  have x5 := kt5_l
  have x6 := kt6_l
  have x7 := kt7_l
  have x8 := kt8_l
  have x9 := kt9_l
  have x10 := kt10_l
  have x11 := kt11_l
  have x12 := kt12_l
  have x13 := kt13_l
  have x14 := kt14_l
  have x15 := kt15_l
  have x16 := kt16_l
  have x17 := kt17_l
  have x18 := kt18_l
  have x19 := kt19_l
  have HNG := run.hid (gi_new (some ⟨w.heap.size, 0, none⟩) 3 [1, 2, 3] (w.alloc (.cells #[.int .i64 1, .int .i64 2, .int .i64 3] 3)) (src_new (cs := #[.int .i64 1, .int .i64 2, .int .i64 3]) (by decide) rfl) (by decide))
  go_enter Try.func7, Try.ntmps7
  go_wp2_with fail
  refine HNG.out.mono ?_
  rintro e w1 ⟨gg, gl, rfl, hGI, hgg, hgl, hb1⟩
  have hb01 := (run.below_one w (.cells #[.int .i64 1, .int .i64 2, .int .i64 3] 3)).trans (hb1.mono (by rw [World.size_alloc]; omega))
  obtain ⟨B, hB⟩ : ∃ B, B = w1.heap.size := ⟨_, rfl⟩
  have hwB : w.heap.size ≤ B := by rw [hB]; exact hb01.size
  have hgs : w.heap.size ≤ gg ∧ w.heap.size ≤ gl := by
    rw [World.size_alloc] at hgg hgl
    omega
  have hgB : gg < B ∧ gl < B ∧ gg ≠ gl := by rw [hB]; exact hGI.lt
  have HE := run.hid (show Eds B [] w1 ∧ Below w.heap.size w w1 ∧ B ≤ w1.heap.size from ⟨by rw [hB]; exact Eds.nil w1, hb01, by rw [hB]; exact Nat.le_refl _⟩)
  have HG := run.hid hGI
  clear HNG hb1 hb01 hB hGI hgg hgl
  have HH := run.hid (HE.out.1.more HE.out.2.2 kt0 (by decide))
  go_wp2_with fail
  refine HH.out.mono ?_
  rintro e w2 ⟨bA, rfl, hE, hb⟩
  have HE2 := run.hid (show Eds B [(bA, kA0)] w2 ∧ Below w.heap.size w w2 ∧ B ≤ w2.heap.size from ⟨hE, HE.out.2.1.trans (hb.mono HE.out.2.1.size), Nat.le_trans HE.out.2.2 hb.size⟩)
  have HG2 := run.hid (HG.out.kept (Kept.of_below (S := fun _ => False) hb) (fun h => h) (fun h => h))
  clear HE HH HG hE hb
  have HE := HE2
  have HG := HG2
  clear HE2 HG2
  have HH := run.hid (HE.out.1.more HE.out.2.2 kt1 (by decide))
  go_wp2_with fail
  refine HH.out.mono ?_
  rintro e w3 ⟨bB, rfl, hE, hb⟩
  have HE2 := run.hid (show Eds B [(bA, kA0), (bB, kB0)] w3 ∧ Below w.heap.size w w3 ∧ B ≤ w3.heap.size from ⟨hE, HE.out.2.1.trans (hb.mono HE.out.2.1.size), Nat.le_trans HE.out.2.2 hb.size⟩)
  have HG2 := run.hid (HG.out.kept (Kept.of_below (S := fun _ => False) hb) (fun h => h) (fun h => h))
  clear HE HH HG hE hb
  have HE := HE2
  have HG := HG2
  clear HE2 HG2
  have HH := run.hid (HE.out.1.more HE.out.2.2 kt2 (by decide))
  go_wp2_with fail
  refine HH.out.mono ?_
  rintro e w4 ⟨bC, rfl, hE, hb⟩
  have HE2 := run.hid (show Eds B [(bA, kA0), (bB, kB0), (bC, kC0)] w4 ∧ Below w.heap.size w w4 ∧ B ≤ w4.heap.size from ⟨hE, HE.out.2.1.trans (hb.mono HE.out.2.1.size), Nat.le_trans HE.out.2.2 hb.size⟩)
  have HG2 := run.hid (HG.out.kept (Kept.of_below (S := fun _ => False) hb) (fun h => h) (fun h => h))
  clear HE HH HG hE hb
  have HE := HE2
  have HG := HG2
  clear HE2 HG2
  have HH := run.hid (HE.out.1.more HE.out.2.2 kt3 (by decide))
  go_wp2_with fail
  refine HH.out.mono ?_
  rintro e w5 ⟨bD, rfl, hE, hb⟩
  have HE2 := run.hid (show Eds B [(bA, kA0), (bB, kB0), (bC, kC0), (bD, kD0)] w5 ∧ Below w.heap.size w w5 ∧ B ≤ w5.heap.size from ⟨hE, HE.out.2.1.trans (hb.mono HE.out.2.1.size), Nat.le_trans HE.out.2.2 hb.size⟩)
  have HG2 := run.hid (HG.out.kept (Kept.of_below (S := fun _ => False) hb) (fun h => h) (fun h => h))
  clear HE HH HG hE hb
  have HE := HE2
  have HG := HG2
  clear HE2 HG2
  have HH := run.hid (HE.out.1.more HE.out.2.2 kt4 (by decide))
  go_wp2_with fail
  refine HH.out.mono ?_
  rintro e w6 ⟨bF, rfl, hE, hb⟩
  have HE2 := run.hid (show Eds B [(bA, kA0), (bB, kB0), (bC, kC0), (bD, kD0), (bF, kF0)] w6 ∧ Below w.heap.size w w6 ∧ B ≤ w6.heap.size from ⟨hE, HE.out.2.1.trans (hb.mono HE.out.2.1.size), Nat.le_trans HE.out.2.2 hb.size⟩)
  have HG2 := run.hid (HG.out.kept (Kept.of_below (S := fun _ => False) hb) (fun h => h) (fun h => h))
  clear HE HH HG hE hb
  have HE := HE2
  have HG := HG2
  clear HE2 HG2
  have HH := run.hid (HE.out.1.more HE.out.2.2 kt5 (by decide))
  go_wp2_with fail
  refine HH.out.mono ?_
  rintro e w7 ⟨bH, rfl, hE, hb⟩
  have HE2 := run.hid (show Eds B [(bA, kA0), (bB, kB0), (bC, kC0), (bD, kD0), (bF, kF0), (bH, kH0)] w7 ∧ Below w.heap.size w w7 ∧ B ≤ w7.heap.size from ⟨hE, HE.out.2.1.trans (hb.mono HE.out.2.1.size), Nat.le_trans HE.out.2.2 hb.size⟩)
  have HG2 := run.hid (HG.out.kept (Kept.of_below (S := fun _ => False) hb) (fun h => h) (fun h => h))
  clear HE HH HG hE hb
  have HE := HE2
  have HG := HG2
  clear HE2 HG2
  have HH := run.hid (HE.out.1.more HE.out.2.2 kt6 (by decide))
  go_wp2_with fail
  refine HH.out.mono ?_
  rintro e w8 ⟨bK, rfl, hE, hb⟩
  have HE2 := run.hid (show Eds B [(bA, kA0), (bB, kB0), (bC, kC0), (bD, kD0), (bF, kF0), (bH, kH0), (bK, kK0)] w8 ∧ Below w.heap.size w w8 ∧ B ≤ w8.heap.size from ⟨hE, HE.out.2.1.trans (hb.mono HE.out.2.1.size), Nat.le_trans HE.out.2.2 hb.size⟩)
  have HG2 := run.hid (HG.out.kept (Kept.of_below (S := fun _ => False) hb) (fun h => h) (fun h => h))
  clear HE HH HG hE hb
  have HE := HE2
  have HG := HG2
  clear HE2 HG2
  have HFR := run.hid (fun (X : World) (hk : Kept (fun k => k < B ∨ w8.heap.size ≤ k) w8 X) => HE.out.1.fresh (fun i q h => by
    match i, h with
    | 0, h => cases h; rfl
    | 1, h => cases h; rfl
    | 2, h => cases h; rfl
    | 3, h => cases h; rfl
    | 4, h => cases h; rfl
    | 5, h => cases h; rfl
    | 6, h => cases h; rfl
    | n + 7, h => simp at h) hk)
  have HBE := run.hid (And.intro HE.out.2.1 HE.out.2.2)
  clear HE
  have HI := run.hid (gi_insert (HG.out.kept ((Kept.refl (fun _ => False) w8).alloc (.cells #[.int .i64 8, .int .i64 9] 3)) (fun h => h) (fun h => h)) 1 (some ⟨w8.heap.size, 0, none⟩) 2 [8, 9] (src_new (cs := #[.int .i64 8, .int .i64 9]) (by decide) rfl) (by decide) (by decide) (by decide) (fun b off e => by simp only [Option.some.injEq, Addr.mk.injEq] at e; have := HG.out.lt; omega))
  clear HG
  go_wp2_with fail
  refine HI.out.mono ?_
  rintro e v1 ⟨rfl, l1, hG1, hl1, hk1⟩
  change GapI gg l1 [1, 8, 9, 2, 3] v1 at hG1
  have hK1 : Kept (fun k => k < B ∨ w8.heap.size ≤ k) w8 v1 := (((Kept.refl (fun k => k < B ∨ w8.heap.size ≤ k) w8).alloc (.cells #[.int .i64 8, .int .i64 9] 3))).trans hk1 (fun k hk h => by omega)
  have hB1 : Below w.heap.size w v1 := HBE.out.1.trans ((((Kept.refl (fun k => w.heap.size ≤ k) w8).alloc (.cells #[.int .i64 8, .int .i64 9] 3)).trans hk1 (fun k hk h => by omega)).below HBE.out.1.size (fun k hk h => h))
  have hl1' : l1 < B ∨ w8.heap.size ≤ l1 := by rw [World.size_alloc] at hl1; omega
  have hl1w : w.heap.size ≤ l1 := by rw [World.size_alloc] at hl1; have := HBE.out.1.size; omega
  have HG := run.hid hG1
  have HK := run.hid (And.intro hK1 hB1)
  clear HI hG1 hl1 hk1 hK1 hB1
  have HI := run.hid (gi_insert_out (HG.out.kept ((Kept.refl (fun _ => False) v1).alloc (.cells #[.int .i64 7] 3)) (fun h => h) (fun h => h)) 6 (some ⟨v1.heap.size, 0, none⟩) 1 1 (.inr (by decide)))
  go_wp2_with fail
  refine HI.out.mono ?_
  rintro e v2 ⟨rfl, hs2⟩
  have hk2 : Kept (fun _ => False) v1 v2 := Same.kept ((Kept.refl (fun _ => False) v1).alloc (.cells #[.int .i64 7] 3)) hs2
  have HG2 := run.hid (HG.out.kept hk2 (fun h => h) (fun h => h))
  have HK2 := run.hid (show Kept (fun k => k < B ∨ w8.heap.size ≤ k) w8 v2 ∧ Below w.heap.size w v2 from ⟨HK.out.1.trans hk2 (fun _ _ h => h.elim), HK.out.2.trans (hk2.below HK.out.2.size (fun _ _ h => h.elim))⟩)
  clear HI HG HK hs2 hk2
  have HI := run.hid (gi_delete HG2.out 3 9 (by decide) (by decide) (by decide) (by decide))
  go_wp2_with fail
  refine HI.out.mono ?_
  rintro e v3 ⟨z3, l3, rfl, hown3, hG3, hl3, -, hk3⟩
  change GapI gg l3 [1, 8, 9] v3 at hG3
  change v3.ownsRow _ _ _ z3 2 [.int .i64 2, .int .i64 3] at hown3
  have hK3 : Kept (fun k => k < B ∨ w8.heap.size ≤ k) w8 v3 := HK2.out.1.trans hk3 (fun k hk h => by omega)
  have hB3 : Below w.heap.size w v3 := HK2.out.2.trans (hk3.below HK2.out.2.size (fun k hk h => by omega))
  have HG := run.hid hG3
  have HK := run.hid (And.intro hK3 hB3)
  have HZ := run.hid hown3
  clear HI HG2 HK2 hG3 hk3 hK3 hB3 hown3 hl3
  have HI := run.hid (gi_at HG.out 3)
  rw [show atI [1, 8, 9] 3 = (0, false) from by decide] at HI
  go_wp2_with fail
  refine HI.out.mono ?_
  rintro e v4 ⟨rfl, hs4⟩
  have hk4 : Kept (fun _ => False) v3 v4 := Same.kept (Kept.refl (fun _ => False) v3) hs4
  have HG2 := run.hid (HG.out.kept hk4 (fun h => h) (fun h => h))
  have HK2 := run.hid (show Kept (fun k => k < B ∨ w8.heap.size ≤ k) w8 v4 ∧ Below w.heap.size w v4 from ⟨HK.out.1.trans hk4 (fun _ _ h => h.elim), HK.out.2.trans (hk4.below HK.out.2.size (fun _ _ h => h.elim))⟩)
  have HZ2 := run.hid (run.own_below HZ.out hs4.below)
  clear HI HG HK HZ hs4 hk4
  have HI := run.hid (gi_all HG2.out)
  go_wp2_with fail
  refine HI.out.mono ?_
  rintro e v5 ⟨z5, rfl, hown5, hb5⟩
  change v5.ownsRow _ _ _ z5 3 [.int .i64 1, .int .i64 8, .int .i64 9] at hown5
  have hown3 := run.own_below HZ2.out hb5
  have HE := run.hid (show Eds B [(bA, kA0), (bB, kB0), (bC, kC0), (bD, kD0), (bF, kF0), (bH, kH0), (bK, kK0)] v5 ∧ Below w.heap.size w v5 ∧ B ≤ v5.heap.size from ⟨HFR.out v5 (HK2.out.1.trans (Kept.of_below (S := fun _ => False) hb5) (fun _ _ h => h.elim)), HK2.out.2.trans (hb5.mono HK2.out.2.size), Nat.le_trans HBE.out.2 (Nat.le_trans HK2.out.1.size hb5.size)⟩)
  obtain ⟨p3, q3, rfl⟩ := run.own_value hown3
  obtain ⟨p5, q5, rfl⟩ := run.own_value hown5
  obtain ⟨r3, rfl⟩ : ∃ r3, p3 = some ⟨r3, 0, none⟩ := by
    rcases hown3.2 with ⟨e, h0⟩ | ⟨g3, c, cu, e, -⟩
    · omega
    · simp only [Value.slice.injEq] at e; exact ⟨g3, e.1⟩
  obtain ⟨r5, rfl⟩ : ∃ r5, p5 = some ⟨r5, 0, none⟩ := by
    rcases hown5.2 with ⟨e, h0⟩ | ⟨g3, c, cu, e, -⟩
    · omega
    · simp only [Value.slice.injEq] at e; exact ⟨g3, e.1⟩
  have y0 := hown3.cellAt 0 (by decide)
  have y1 := hown3.cellAt 1 (by decide)
  have y2 := hown5.cellAt 0 (by decide)
  have y3 := hown5.cellAt 1 (by decide)
  have y4 := hown5.cellAt 2 (by decide)
  change v5.cell? _ = some (.int .i64 2) at y0
  change v5.cell? _ = some (.int .i64 3) at y1
  change v5.cell? _ = some (.int .i64 1) at y2
  change v5.cell? _ = some (.int .i64 8) at y3
  change v5.cell? _ = some (.int .i64 9) at y4
  clear HI HG2 HK2 HZ2 hown3 hown5 hb5 HFR HBE
  have H := text_l (HE.out.1.one (i := 0) rfl) ok_kA0
  rw [kA0_t] at H
  have HH := run.hid H
  clear H
  go_wp2_with fail
  refine HH.out.mono ?_
  rintro e w9 ⟨rfl, hb⟩
  have HE2 := run.hid (And.intro (HE.out.1.below hb) (And.intro (HE.out.2.1.trans (hb.mono HE.out.2.1.size)) (Nat.le_trans HE.out.2.2 hb.size)))
  clear HE HH hb
  have HE := HE2
  clear HE2
  have H := caret_l (HE.out.1.one (i := 0) rfl)
  rw [kA0_c] at H
  have HH := run.hid H
  clear H
  go_wp2_with fail
  refine HH.out.mono ?_
  rintro e w10 ⟨rfl, hb⟩
  have HE2 := run.hid (And.intro (HE.out.1.below hb) (And.intro (HE.out.2.1.trans (hb.mono HE.out.2.1.size)) (Nat.le_trans HE.out.2.2 hb.size)))
  clear HE HH hb
  have HE := HE2
  clear HE2
  have H := HE.out.1.go HE.out.2.2 (i := 0) rfl ok_kA0 2 false
  rw [kA1_e] at H
  have HH := run.hid H
  clear H
  go_wp2_with fail
  refine HH.out.mono ?_
  rintro e w11 ⟨rfl, hE, hb⟩
  have HE2 := run.hid (show Eds B [(bA, kA1), (bB, kB0), (bC, kC0), (bD, kD0), (bF, kF0), (bH, kH0), (bK, kK0)] w11 ∧ Below w.heap.size w w11 ∧ B ≤ w11.heap.size from ⟨hE, HE.out.2.1.trans (hb.mono hwB), Nat.le_trans HE.out.2.2 hb.size⟩)
  clear HE HH hE hb
  have HE := HE2
  clear HE2
  have H := caret_l (HE.out.1.one (i := 0) rfl)
  rw [kA1_c] at H
  have HH := run.hid H
  clear H
  go_wp2_with fail
  refine HH.out.mono ?_
  rintro e w12 ⟨rfl, hb⟩
  have HE2 := run.hid (And.intro (HE.out.1.below hb) (And.intro (HE.out.2.1.trans (hb.mono HE.out.2.1.size)) (Nat.le_trans HE.out.2.2 hb.size)))
  clear HE HH hb
  have HE := HE2
  clear HE2
  have H := HE.out.1.go HE.out.2.2 (i := 0) rfl ok_kA1 2 true
  rw [kA2_e] at H
  have HH := run.hid H
  clear H
  go_wp2_with fail
  refine HH.out.mono ?_
  rintro e w13 ⟨rfl, hE, hb⟩
  have HE2 := run.hid (show Eds B [(bA, kA2), (bB, kB0), (bC, kC0), (bD, kD0), (bF, kF0), (bH, kH0), (bK, kK0)] w13 ∧ Below w.heap.size w w13 ∧ B ≤ w13.heap.size from ⟨hE, HE.out.2.1.trans (hb.mono hwB), Nat.le_trans HE.out.2.2 hb.size⟩)
  clear HE HH hE hb
  have HE := HE2
  clear HE2
  have H := marked_l (HE.out.1.one (i := 0) rfl)
  rw [kA2_m] at H
  have HH := run.hid H
  clear H
  go_wp2_with fail
  refine HH.out.mono ?_
  rintro e w14 ⟨rfl, hb⟩
  have HE2 := run.hid (And.intro (HE.out.1.below hb) (And.intro (HE.out.2.1.trans (hb.mono HE.out.2.1.size)) (Nat.le_trans HE.out.2.2 hb.size)))
  clear HE HH hb
  have HE := HE2
  clear HE2
  have H := HE.out.1.ins HE.out.2.2 (i := 0) rfl ok_kA2 kt8 (by decide)
  rw [kA3_e] at H
  have HH := run.hid H
  clear H
  go_wp2_with fail
  refine HH.out.mono ?_
  rintro e w15 ⟨rfl, hE, hb⟩
  have HE2 := run.hid (show Eds B [(bA, kA3), (bB, kB0), (bC, kC0), (bD, kD0), (bF, kF0), (bH, kH0), (bK, kK0)] w15 ∧ Below w.heap.size w w15 ∧ B ≤ w15.heap.size from ⟨hE, HE.out.2.1.trans (hb.mono hwB), Nat.le_trans HE.out.2.2 hb.size⟩)
  clear HE HH hE hb
  have HE := HE2
  clear HE2
  have H := text_l (HE.out.1.one (i := 0) rfl) ok_kA3
  rw [kA3_t] at H
  have HH := run.hid H
  clear H
  go_wp2_with fail
  refine HH.out.mono ?_
  rintro e w16 ⟨rfl, hb⟩
  have HE2 := run.hid (And.intro (HE.out.1.below hb) (And.intro (HE.out.2.1.trans (hb.mono HE.out.2.1.size)) (Nat.le_trans HE.out.2.2 hb.size)))
  clear HE HH hb
  have HE := HE2
  clear HE2
  have H := caret_l (HE.out.1.one (i := 0) rfl)
  rw [kA3_c] at H
  have HH := run.hid H
  clear H
  go_wp2_with fail
  refine HH.out.mono ?_
  rintro e w17 ⟨rfl, hb⟩
  have HE2 := run.hid (And.intro (HE.out.1.below hb) (And.intro (HE.out.2.1.trans (hb.mono HE.out.2.1.size)) (Nat.le_trans HE.out.2.2 hb.size)))
  clear HE HH hb
  have HE := HE2
  clear HE2
  have H := HE.out.1.undo HE.out.2.2 (i := 0) rfl ok_kA3
  rw [kA4_e] at H
  have HH := run.hid H
  clear H
  go_wp2_with fail
  refine HH.out.mono ?_
  rintro e w18 ⟨rfl, hE, hb⟩
  have HE2 := run.hid (show Eds B [(bA, kA4), (bB, kB0), (bC, kC0), (bD, kD0), (bF, kF0), (bH, kH0), (bK, kK0)] w18 ∧ Below w.heap.size w w18 ∧ B ≤ w18.heap.size from ⟨hE, HE.out.2.1.trans (hb.mono hwB), Nat.le_trans HE.out.2.2 hb.size⟩)
  clear HE HH hE hb
  have HE := HE2
  clear HE2
  have H := marked_l (HE.out.1.one (i := 0) rfl)
  rw [kA4_m] at H
  have HH := run.hid H
  clear H
  go_wp2_with fail
  refine HH.out.mono ?_
  rintro e w19 ⟨rfl, hb⟩
  have HE2 := run.hid (And.intro (HE.out.1.below hb) (And.intro (HE.out.2.1.trans (hb.mono HE.out.2.1.size)) (Nat.le_trans HE.out.2.2 hb.size)))
  clear HE HH hb
  have HE := HE2
  clear HE2
  have H := text_l (HE.out.1.one (i := 0) rfl) ok_kA4
  rw [kA4_t] at H
  have HH := run.hid H
  clear H
  go_wp2_with fail
  refine HH.out.mono ?_
  rintro e w20 ⟨rfl, hb⟩
  have HE2 := run.hid (And.intro (HE.out.1.below hb) (And.intro (HE.out.2.1.trans (hb.mono HE.out.2.1.size)) (Nat.le_trans HE.out.2.2 hb.size)))
  clear HE HH hb
  have HE := HE2
  clear HE2
  have H := caret_l (HE.out.1.one (i := 0) rfl)
  rw [kA4_c] at H
  have HH := run.hid H
  clear H
  go_wp2_with fail
  refine HH.out.mono ?_
  rintro e w21 ⟨rfl, hb⟩
  have HE2 := run.hid (And.intro (HE.out.1.below hb) (And.intro (HE.out.2.1.trans (hb.mono HE.out.2.1.size)) (Nat.le_trans HE.out.2.2 hb.size)))
  clear HE HH hb
  have HE := HE2
  clear HE2
  have H := HE.out.1.undo HE.out.2.2 (i := 0) rfl ok_kA4
  rw [kA5_e] at H
  have HH := run.hid H
  clear H
  go_wp2_with fail
  refine HH.out.mono ?_
  rintro e w22 ⟨rfl, hE, hb⟩
  have HE2 := run.hid (show Eds B [(bA, kA5), (bB, kB0), (bC, kC0), (bD, kD0), (bF, kF0), (bH, kH0), (bK, kK0)] w22 ∧ Below w.heap.size w w22 ∧ B ≤ w22.heap.size from ⟨hE, HE.out.2.1.trans (hb.mono hwB), Nat.le_trans HE.out.2.2 hb.size⟩)
  clear HE HH hE hb
  have HE := HE2
  clear HE2
  have H := HE.out.1.ins HE.out.2.2 (i := 1) rfl ok_kB0 kt10 (by decide)
  rw [kB1_e] at H
  have HH := run.hid H
  clear H
  go_wp2_with fail
  refine HH.out.mono ?_
  rintro e w23 ⟨rfl, hE, hb⟩
  have HE2 := run.hid (show Eds B [(bA, kA5), (bB, kB1), (bC, kC0), (bD, kD0), (bF, kF0), (bH, kH0), (bK, kK0)] w23 ∧ Below w.heap.size w w23 ∧ B ≤ w23.heap.size from ⟨hE, HE.out.2.1.trans (hb.mono hwB), Nat.le_trans HE.out.2.2 hb.size⟩)
  clear HE HH hE hb
  have HE := HE2
  clear HE2
  have H := text_l (HE.out.1.one (i := 1) rfl) ok_kB1
  rw [kB1_t] at H
  have HH := run.hid H
  clear H
  go_wp2_with fail
  refine HH.out.mono ?_
  rintro e w24 ⟨rfl, hb⟩
  have HE2 := run.hid (And.intro (HE.out.1.below hb) (And.intro (HE.out.2.1.trans (hb.mono HE.out.2.1.size)) (Nat.le_trans HE.out.2.2 hb.size)))
  clear HE HH hb
  have HE := HE2
  clear HE2
  have H := caret_l (HE.out.1.one (i := 1) rfl)
  rw [kB1_c] at H
  have HH := run.hid H
  clear H
  go_wp2_with fail
  refine HH.out.mono ?_
  rintro e w25 ⟨rfl, hb⟩
  have HE2 := run.hid (And.intro (HE.out.1.below hb) (And.intro (HE.out.2.1.trans (hb.mono HE.out.2.1.size)) (Nat.le_trans HE.out.2.2 hb.size)))
  clear HE HH hb
  have HE := HE2
  clear HE2
  have H := HE.out.1.go HE.out.2.2 (i := 2) rfl ok_kC0 4 false
  rw [kC1_e] at H
  have HH := run.hid H
  clear H
  go_wp2_with fail
  refine HH.out.mono ?_
  rintro e w26 ⟨rfl, hE, hb⟩
  have HE2 := run.hid (show Eds B [(bA, kA5), (bB, kB1), (bC, kC1), (bD, kD0), (bF, kF0), (bH, kH0), (bK, kK0)] w26 ∧ Below w.heap.size w w26 ∧ B ≤ w26.heap.size from ⟨hE, HE.out.2.1.trans (hb.mono hwB), Nat.le_trans HE.out.2.2 hb.size⟩)
  clear HE HH hE hb
  have HE := HE2
  clear HE2
  have H := HE.out.1.ins HE.out.2.2 (i := 2) rfl ok_kC1 kt10 (by decide)
  rw [kC2_e] at H
  have HH := run.hid H
  clear H
  go_wp2_with fail
  refine HH.out.mono ?_
  rintro e w27 ⟨rfl, hE, hb⟩
  have HE2 := run.hid (show Eds B [(bA, kA5), (bB, kB1), (bC, kC2), (bD, kD0), (bF, kF0), (bH, kH0), (bK, kK0)] w27 ∧ Below w.heap.size w w27 ∧ B ≤ w27.heap.size from ⟨hE, HE.out.2.1.trans (hb.mono hwB), Nat.le_trans HE.out.2.2 hb.size⟩)
  clear HE HH hE hb
  have HE := HE2
  clear HE2
  have H := HE.out.1.ins HE.out.2.2 (i := 2) rfl ok_kC2 kt12 (by decide)
  rw [kC3_e] at H
  have HH := run.hid H
  clear H
  go_wp2_with fail
  refine HH.out.mono ?_
  rintro e w28 ⟨rfl, hE, hb⟩
  have HE2 := run.hid (show Eds B [(bA, kA5), (bB, kB1), (bC, kC3), (bD, kD0), (bF, kF0), (bH, kH0), (bK, kK0)] w28 ∧ Below w.heap.size w w28 ∧ B ≤ w28.heap.size from ⟨hE, HE.out.2.1.trans (hb.mono hwB), Nat.le_trans HE.out.2.2 hb.size⟩)
  clear HE HH hE hb
  have HE := HE2
  clear HE2
  have H := text_l (HE.out.1.one (i := 2) rfl) ok_kC3
  rw [kC3_t] at H
  have HH := run.hid H
  clear H
  go_wp2_with fail
  refine HH.out.mono ?_
  rintro e w29 ⟨rfl, hb⟩
  have HE2 := run.hid (And.intro (HE.out.1.below hb) (And.intro (HE.out.2.1.trans (hb.mono HE.out.2.1.size)) (Nat.le_trans HE.out.2.2 hb.size)))
  clear HE HH hb
  have HE := HE2
  clear HE2
  have H := caret_l (HE.out.1.one (i := 2) rfl)
  rw [kC3_c] at H
  have HH := run.hid H
  clear H
  go_wp2_with fail
  refine HH.out.mono ?_
  rintro e w30 ⟨rfl, hb⟩
  have HE2 := run.hid (And.intro (HE.out.1.below hb) (And.intro (HE.out.2.1.trans (hb.mono HE.out.2.1.size)) (Nat.le_trans HE.out.2.2 hb.size)))
  clear HE HH hb
  have HE := HE2
  clear HE2
  have H := HE.out.1.go HE.out.2.2 (i := 3) rfl ok_kD0 0 false
  rw [kD1_e] at H
  have HH := run.hid H
  clear H
  go_wp2_with fail
  refine HH.out.mono ?_
  rintro e w31 ⟨rfl, hE, hb⟩
  have HE2 := run.hid (show Eds B [(bA, kA5), (bB, kB1), (bC, kC3), (bD, kD1), (bF, kF0), (bH, kH0), (bK, kK0)] w31 ∧ Below w.heap.size w w31 ∧ B ≤ w31.heap.size from ⟨hE, HE.out.2.1.trans (hb.mono hwB), Nat.le_trans HE.out.2.2 hb.size⟩)
  clear HE HH hE hb
  have HE := HE2
  clear HE2
  have H := HE.out.1.go HE.out.2.2 (i := 3) rfl ok_kD1 9 true
  rw [kD2_e] at H
  have HH := run.hid H
  clear H
  go_wp2_with fail
  refine HH.out.mono ?_
  rintro e w32 ⟨rfl, hE, hb⟩
  have HE2 := run.hid (show Eds B [(bA, kA5), (bB, kB1), (bC, kC3), (bD, kD2), (bF, kF0), (bH, kH0), (bK, kK0)] w32 ∧ Below w.heap.size w w32 ∧ B ≤ w32.heap.size from ⟨hE, HE.out.2.1.trans (hb.mono hwB), Nat.le_trans HE.out.2.2 hb.size⟩)
  clear HE HH hE hb
  have HE := HE2
  clear HE2
  have H := HE.out.1.del HE.out.2.2 (i := 3) rfl ok_kD2 0
  rw [kD3_e] at H
  have HH := run.hid H
  clear H
  go_wp2_with fail
  refine HH.out.mono ?_
  rintro e w33 ⟨rfl, hE, hb⟩
  have HE2 := run.hid (show Eds B [(bA, kA5), (bB, kB1), (bC, kC3), (bD, kD3), (bF, kF0), (bH, kH0), (bK, kK0)] w33 ∧ Below w.heap.size w w33 ∧ B ≤ w33.heap.size from ⟨hE, HE.out.2.1.trans (hb.mono hwB), Nat.le_trans HE.out.2.2 hb.size⟩)
  clear HE HH hE hb
  have HE := HE2
  clear HE2
  have H := HE.out.1.ins HE.out.2.2 (i := 3) rfl ok_kD3 kt3 (by decide)
  rw [kD4_e] at H
  have HH := run.hid H
  clear H
  go_wp2_with fail
  refine HH.out.mono ?_
  rintro e w34 ⟨rfl, hE, hb⟩
  have HE2 := run.hid (show Eds B [(bA, kA5), (bB, kB1), (bC, kC3), (bD, kD4), (bF, kF0), (bH, kH0), (bK, kK0)] w34 ∧ Below w.heap.size w w34 ∧ B ≤ w34.heap.size from ⟨hE, HE.out.2.1.trans (hb.mono hwB), Nat.le_trans HE.out.2.2 hb.size⟩)
  clear HE HH hE hb
  have HE := HE2
  clear HE2
  have H := HE.out.1.ins HE.out.2.2 (i := 3) rfl ok_kD4 kt14 (by decide)
  rw [kD5_e] at H
  have HH := run.hid H
  clear H
  go_wp2_with fail
  refine HH.out.mono ?_
  rintro e w35 ⟨rfl, hE, hb⟩
  have HE2 := run.hid (show Eds B [(bA, kA5), (bB, kB1), (bC, kC3), (bD, kD5), (bF, kF0), (bH, kH0), (bK, kK0)] w35 ∧ Below w.heap.size w w35 ∧ B ≤ w35.heap.size from ⟨hE, HE.out.2.1.trans (hb.mono hwB), Nat.le_trans HE.out.2.2 hb.size⟩)
  clear HE HH hE hb
  have HE := HE2
  clear HE2
  have H := HE.out.1.del HE.out.2.2 (i := 4) rfl ok_kF0 2
  rw [kF1_e] at H
  have HH := run.hid H
  clear H
  go_wp2_with fail
  refine HH.out.mono ?_
  rintro e w36 ⟨rfl, hE, hb⟩
  have HE2 := run.hid (show Eds B [(bA, kA5), (bB, kB1), (bC, kC3), (bD, kD5), (bF, kF1), (bH, kH0), (bK, kK0)] w36 ∧ Below w.heap.size w w36 ∧ B ≤ w36.heap.size from ⟨hE, HE.out.2.1.trans (hb.mono hwB), Nat.le_trans HE.out.2.2 hb.size⟩)
  clear HE HH hE hb
  have HE := HE2
  clear HE2
  have H := text_l (HE.out.1.one (i := 4) rfl) ok_kF1
  rw [kF1_t] at H
  have HH := run.hid H
  clear H
  go_wp2_with fail
  refine HH.out.mono ?_
  rintro e w37 ⟨rfl, hb⟩
  have HE2 := run.hid (And.intro (HE.out.1.below hb) (And.intro (HE.out.2.1.trans (hb.mono HE.out.2.1.size)) (Nat.le_trans HE.out.2.2 hb.size)))
  clear HE HH hb
  have HE := HE2
  clear HE2
  have H := HE.out.1.del HE.out.2.2 (i := 4) rfl ok_kF1 0
  rw [kF2_e] at H
  have HH := run.hid H
  clear H
  go_wp2_with fail
  refine HH.out.mono ?_
  rintro e w38 ⟨rfl, hE, hb⟩
  have HE2 := run.hid (show Eds B [(bA, kA5), (bB, kB1), (bC, kC3), (bD, kD5), (bF, kF2), (bH, kH0), (bK, kK0)] w38 ∧ Below w.heap.size w w38 ∧ B ≤ w38.heap.size from ⟨hE, HE.out.2.1.trans (hb.mono hwB), Nat.le_trans HE.out.2.2 hb.size⟩)
  clear HE HH hE hb
  have HE := HE2
  clear HE2
  have H := HE.out.1.redo HE.out.2.2 (i := 4) rfl ok_kF2
  rw [kF3_e] at H
  have HH := run.hid H
  clear H
  go_wp2_with fail
  refine HH.out.mono ?_
  rintro e w39 ⟨rfl, hE, hb⟩
  have HE2 := run.hid (show Eds B [(bA, kA5), (bB, kB1), (bC, kC3), (bD, kD5), (bF, kF3), (bH, kH0), (bK, kK0)] w39 ∧ Below w.heap.size w w39 ∧ B ≤ w39.heap.size from ⟨hE, HE.out.2.1.trans (hb.mono hwB), Nat.le_trans HE.out.2.2 hb.size⟩)
  clear HE HH hE hb
  have HE := HE2
  clear HE2
  have H := text_l (HE.out.1.one (i := 4) rfl) ok_kF3
  rw [kF3_t] at H
  have HH := run.hid H
  clear H
  go_wp2_with fail
  refine HH.out.mono ?_
  rintro e w40 ⟨rfl, hb⟩
  have HE2 := run.hid (And.intro (HE.out.1.below hb) (And.intro (HE.out.2.1.trans (hb.mono HE.out.2.1.size)) (Nat.le_trans HE.out.2.2 hb.size)))
  clear HE HH hb
  have HE := HE2
  clear HE2
  have H := view_l (HE.out.1.one (i := 5) rfl) ok_kH0 4
  rw [kH0_v4] at H
  have HH := run.hid H
  clear H
  go_wp2_with fail
  refine HH.out.mono ?_
  rintro e w41 ⟨rfl, hb⟩
  have HE2 := run.hid (And.intro (HE.out.1.below hb) (And.intro (HE.out.2.1.trans (hb.mono HE.out.2.1.size)) (Nat.le_trans HE.out.2.2 hb.size)))
  clear HE HH hb
  have HE := HE2
  clear HE2
  have H := view_l (HE.out.1.one (i := 5) rfl) ok_kH0 1
  rw [kH0_v1] at H
  have HH := run.hid H
  clear H
  go_wp2_with fail
  refine HH.out.mono ?_
  rintro e w42 ⟨rfl, hb⟩
  have HE2 := run.hid (And.intro (HE.out.1.below hb) (And.intro (HE.out.2.1.trans (hb.mono HE.out.2.1.size)) (Nat.le_trans HE.out.2.2 hb.size)))
  clear HE HH hb
  have HE := HE2
  clear HE2
  have H := make20_any 65536 (Nat.le_refl _) w42
  have HH := run.hid H
  clear H
  go_wp2_with fail
  refine HH.out.mono ?_
  rintro e w43 ⟨v20, rfl, hown, hb⟩
  have hcv := utf.conv_own (l := List.replicate 65536 120) (v := v20) (w := w43) (B := w42.heap.size) (by rw [List.length_replicate]; exact hown)
  have hkb : utf.str (List.replicate 65536 120) = kt_big := rfl
  rw [hkb] at hcv
  have HE2 := run.hid (And.intro (HE.out.1.below hb) (And.intro (HE.out.2.1.trans (hb.mono HE.out.2.1.size)) (Nat.le_trans HE.out.2.2 hb.size)))
  clear HE HH hb hown hkb
  have HE := HE2
  clear HE2
  have HH := run.hid (HE.out.1.more HE.out.2.2 kt_big (by unfold kt_big; rw [utf.str_size, List.length_replicate]; omega))
  go_wp2_with fail
  refine HH.out.mono ?_
  rintro e w44 ⟨bG, rfl, hE, hb⟩
  clear hcv
  have HE2 := run.hid (show Eds B [(bA, kA5), (bB, kB1), (bC, kC3), (bD, kD5), (bF, kF3), (bH, kH0), (bK, kK0), (bG, kG0)] w44 ∧ Below w.heap.size w w44 ∧ B ≤ w44.heap.size from ⟨hE, HE.out.2.1.trans (hb.mono HE.out.2.1.size), Nat.le_trans HE.out.2.2 hb.size⟩)
  clear HE HH hE hb
  have HE := HE2
  clear HE2
  have HH := run.hid (HE.out.1.more HE.out.2.2 kt2 (by decide))
  go_wp2_with fail
  refine HH.out.mono ?_
  rintro e w45 ⟨bM, rfl, hE, hb⟩
  have HE2 := run.hid (show Eds B [(bA, kA5), (bB, kB1), (bC, kC3), (bD, kD5), (bF, kF3), (bH, kH0), (bK, kK0), (bG, kG0), (bM, kM0)] w45 ∧ Below w.heap.size w w45 ∧ B ≤ w45.heap.size from ⟨hE, HE.out.2.1.trans (hb.mono HE.out.2.1.size), Nat.le_trans HE.out.2.2 hb.size⟩)
  clear HE HH hE hb
  have HE := HE2
  clear HE2
  have H := HE.out.1.ins HE.out.2.2 (i := 7) rfl ok_kG0 tX (by decide)
  obtain ⟨sG, hG1, hG2⟩ := kG0_e
  rw [hG2] at hG1
  rw [hG1] at H
  have HH := run.hid H
  clear H hG1 hG2
  go_wp2_with fail
  refine HH.out.mono ?_
  rintro e w46 ⟨rfl, hE, hb⟩
  have HE2 := run.hid (show Eds B [(bA, kA5), (bB, kB1), (bC, kC3), (bD, kD5), (bF, kF3), (bH, kH0), (bK, kK0), (bG, kG0), (bM, kM0)] w46 ∧ Below w.heap.size w w46 ∧ B ≤ w46.heap.size from ⟨hE, HE.out.2.1.trans (hb.mono hwB), Nat.le_trans HE.out.2.2 hb.size⟩)
  clear HE HH hE hb
  have HE := HE2
  clear HE2
  have H := text_l (HE.out.1.one (i := 7) rfl) ok_kG0
  have hgs := kG0_t
  generalize textB kG0.F = TG at *
  have HH := run.hid H
  clear H
  go_wp2_with fail
  refine HH.out.mono ?_
  rintro e w47 ⟨rfl, hb⟩
  have HE2 := run.hid (And.intro (HE.out.1.below hb) (And.intro (HE.out.2.1.trans (hb.mono HE.out.2.1.size)) (Nat.le_trans HE.out.2.2 hb.size)))
  clear HE HH hb
  have HE := HE2
  clear HE2
  have H := HE.out.1.go HE.out.2.2 (i := 8) rfl ok_kM0 4 false
  rw [kM1_e] at H
  have HH := run.hid H
  clear H
  go_wp2_with fail
  refine HH.out.mono ?_
  rintro e w48 ⟨rfl, hE, hb⟩
  have HE2 := run.hid (show Eds B [(bA, kA5), (bB, kB1), (bC, kC3), (bD, kD5), (bF, kF3), (bH, kH0), (bK, kK0), (bG, kG0), (bM, kM1)] w48 ∧ Below w.heap.size w w48 ∧ B ≤ w48.heap.size from ⟨hE, HE.out.2.1.trans (hb.mono hwB), Nat.le_trans HE.out.2.2 hb.size⟩)
  clear HE HH hE hb
  have HE := HE2
  clear HE2
  have H := HE.out.1.go HE.out.2.2 (i := 8) rfl ok_kM1 5 true
  rw [kM2_e] at H
  have HH := run.hid H
  clear H
  go_wp2_with fail
  refine HH.out.mono ?_
  rintro e w49 ⟨rfl, hE, hb⟩
  have HE2 := run.hid (show Eds B [(bA, kA5), (bB, kB1), (bC, kC3), (bD, kD5), (bF, kF3), (bH, kH0), (bK, kK0), (bG, kG0), (bM, kM2)] w49 ∧ Below w.heap.size w w49 ∧ B ≤ w49.heap.size from ⟨hE, HE.out.2.1.trans (hb.mono hwB), Nat.le_trans HE.out.2.2 hb.size⟩)
  clear HE HH hE hb
  have HE := HE2
  clear HE2
  have H := HE.out.1.go HE.out.2.2 (i := 8) rfl ok_kM2 5 false
  rw [kM3_e] at H
  have HH := run.hid H
  clear H
  go_wp2_with fail
  refine HH.out.mono ?_
  rintro e w50 ⟨rfl, hE, hb⟩
  have HE2 := run.hid (show Eds B [(bA, kA5), (bB, kB1), (bC, kC3), (bD, kD5), (bF, kF3), (bH, kH0), (bK, kK0), (bG, kG0), (bM, kM3)] w50 ∧ Below w.heap.size w w50 ∧ B ≤ w50.heap.size from ⟨hE, HE.out.2.1.trans (hb.mono hwB), Nat.le_trans HE.out.2.2 hb.size⟩)
  clear HE HH hE hb
  have HE := HE2
  clear HE2
  have H := marked_l (HE.out.1.one (i := 8) rfl)
  rw [kM3_m] at H
  have HH := run.hid H
  clear H
  go_wp2_with fail
  refine HH.out.mono ?_
  rintro e w51 ⟨rfl, hb⟩
  have HE2 := run.hid (And.intro (HE.out.1.below hb) (And.intro (HE.out.2.1.trans (hb.mono HE.out.2.1.size)) (Nat.le_trans HE.out.2.2 hb.size)))
  clear HE HH hb
  have HE := HE2
  clear HE2
  have H := HE.out.1.go HE.out.2.2 (i := 8) rfl ok_kM3 4 true
  rw [kM4_e] at H
  have HH := run.hid H
  clear H
  go_wp2_with fail
  refine HH.out.mono ?_
  rintro e w52 ⟨rfl, hE, hb⟩
  have HE2 := run.hid (show Eds B [(bA, kA5), (bB, kB1), (bC, kC3), (bD, kD5), (bF, kF3), (bH, kH0), (bK, kK0), (bG, kG0), (bM, kM4)] w52 ∧ Below w.heap.size w w52 ∧ B ≤ w52.heap.size from ⟨hE, HE.out.2.1.trans (hb.mono hwB), Nat.le_trans HE.out.2.2 hb.size⟩)
  clear HE HH hE hb
  have HE := HE2
  clear HE2
  have H := HE.out.1.del HE.out.2.2 (i := 8) rfl ok_kM4 9
  rw [kM5_e] at H
  have HH := run.hid H
  clear H
  go_wp2_with fail
  refine HH.out.mono ?_
  rintro e w53 ⟨rfl, hE, hb⟩
  have HE2 := run.hid (show Eds B [(bA, kA5), (bB, kB1), (bC, kC3), (bD, kD5), (bF, kF3), (bH, kH0), (bK, kK0), (bG, kG0), (bM, kM5)] w53 ∧ Below w.heap.size w w53 ∧ B ≤ w53.heap.size from ⟨hE, HE.out.2.1.trans (hb.mono hwB), Nat.le_trans HE.out.2.2 hb.size⟩)
  clear HE HH hE hb
  have HE := HE2
  clear HE2
  have H := text_l (HE.out.1.one (i := 8) rfl) ok_kM5
  rw [kM5_t] at H
  have HH := run.hid H
  clear H
  go_wp2_with fail
  refine HH.out.mono ?_
  rintro e w54 ⟨rfl, hb⟩
  have HE2 := run.hid (And.intro (HE.out.1.below hb) (And.intro (HE.out.2.1.trans (hb.mono HE.out.2.1.size)) (Nat.le_trans HE.out.2.2 hb.size)))
  clear HE HH hb
  have HE := HE2
  clear HE2
  have H := HE.out.1.go HE.out.2.2 (i := 5) rfl ok_kH0 4 false
  rw [kH1_e] at H
  have HH := run.hid H
  clear H
  go_wp2_with fail
  refine HH.out.mono ?_
  rintro e w55 ⟨rfl, hE, hb⟩
  have HE2 := run.hid (show Eds B [(bA, kA5), (bB, kB1), (bC, kC3), (bD, kD5), (bF, kF3), (bH, kH1), (bK, kK0), (bG, kG0), (bM, kM5)] w55 ∧ Below w.heap.size w w55 ∧ B ≤ w55.heap.size from ⟨hE, HE.out.2.1.trans (hb.mono hwB), Nat.le_trans HE.out.2.2 hb.size⟩)
  clear HE HH hE hb
  have HE := HE2
  clear HE2
  have H := view_l (HE.out.1.one (i := 5) rfl) ok_kH1 4
  rw [kH1_v4] at H
  have HH := run.hid H
  clear H
  go_wp2_with fail
  refine HH.out.mono ?_
  rintro e w56 ⟨rfl, hb⟩
  have HE2 := run.hid (And.intro (HE.out.1.below hb) (And.intro (HE.out.2.1.trans (hb.mono HE.out.2.1.size)) (Nat.le_trans HE.out.2.2 hb.size)))
  clear HE HH hb
  have HE := HE2
  clear HE2
  have H := view_l (HE.out.1.one (i := 6) rfl) ok_kK0 3
  rw [kK0_v3] at H
  have HH := run.hid H
  clear H
  go_wp2_with fail
  refine HH.out.mono ?_
  rintro e w57 ⟨rfl, hb⟩
  have HE2 := run.hid (And.intro (HE.out.1.below hb) (And.intro (HE.out.2.1.trans (hb.mono HE.out.2.1.size)) (Nat.le_trans HE.out.2.2 hb.size)))
  clear HE HH hb
  have HE := HE2
  clear HE2
  have H := view_l (HE.out.1.one (i := 6) rfl) ok_kK0 2
  rw [kK0_v2] at H
  have HH := run.hid H
  clear H
  go_wp2_with fail
  refine HH.out.mono ?_
  rintro e w58 ⟨rfl, hb⟩
  have HE2 := run.hid (And.intro (HE.out.1.below hb) (And.intro (HE.out.2.1.trans (hb.mono HE.out.2.1.size)) (Nat.le_trans HE.out.2.2 hb.size)))
  clear HE HH hb
  have HE := HE2
  clear HE2
  have HF := run.hid HE.out.2.1
  clear HE
  go_wp2
  go_ret
  exact ⟨rfl, HF.out⟩
end Go.Proofs.Ytgfjaegjkklcpaa.ed
