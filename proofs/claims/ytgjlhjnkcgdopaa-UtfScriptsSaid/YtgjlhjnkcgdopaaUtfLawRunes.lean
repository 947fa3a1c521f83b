/-
  The law UtfRunes: all characters of any bytes, the clean text of them, whether they were clean; new memory.
-/
import Derived.Test.YtgjlhjnkcgdopaaUtfHelp
namespace Go.Proofs.Ytgjlhjnkcgdopaa.utf
open Go.RowKit Go.Proofs
set_option linter.unusedVariables false

theorem apart_of {u v : Value} {lo mid hi : Nat} (hu : ∀ k, u.ownBlock = some k → lo ≤ k ∧ k < mid) (hv : ∀ k, v.ownBlock = some k → mid ≤ k ∧ k < hi) : (u.ownBlock = none ∨ u.ownBlock ≠ v.ownBlock) ∧ (v.ownBlock = none ∨ v.ownBlock ≠ u.ownBlock) := by
  refine ⟨?_, ?_⟩
  · cases e : u.ownBlock with
    | none => exact .inl rfl
    | some k => right; intro h; have a := hu k e; have b := hv k h.symm; omega
  · cases e : v.ownBlock with
    | none => exact .inl rfl
    | some k => right; intro h; have a := hv k e; have b := hu k h.symm; omega

/-- the tail of a grown row reads as what was appended -/
theorem grow_tail {B n cap : Nat} {w w' : World} {v : Value} {xs : List Value} {g : Nat} {x : Int} (h : w'.ownsRow B 21 1 (.slice (some ⟨g, 0, none⟩) (n + 70) cap) (n + 70) (xs ++ reps 70 x)) (hx : xs.length = n) :
    run.Reads w' (.slice (some ⟨g, n, none⟩) 70 (cap - n)) (reps 70 x) := by
  refine ⟨_, _, rfl, fun _ => ⟨g, n, rfl, (h.lt g rfl).2, ?_⟩, fun h => by cases h⟩
  intro i u hi
  have hi2 : i < 70 := by
    rcases Nat.lt_or_ge i 70 with h1 | h1
    · exact h1
    · rw [List.getElem?_eq_none (by simp [reps]; omega)] at hi; cases hi
  rw [h.cellAt (n + i) (by omega), List.getElem?_append_right (by omega), ← hi]
  congr 1; omega

theorem grow_shape {B n m : Nat} {w : World} {v : Value} {xs : List Value} (h : w.ownsRow B 21 1 v (n + m) xs) (hm : 0 < m) : ∃ g cap, v = .slice (some ⟨g, 0, none⟩) (n + m) cap ∧ n + m ≤ cap ∧ cap ≤ 9223372036854775807 ∧ B ≤ g := by
  obtain ⟨_, h⟩ := h
  rcases h with ⟨_, h0⟩ | ⟨g, cap, cur, rfl, hb, _, h1, h2, _⟩
  · omega
  · exact ⟨g, cap, rfl, h1, h2, hb⟩

theorem str_toList_eq (s : ByteArray) : (s.toList == s.toList) = true := by simp

set_option maxRecDepth 100000 in
set_option maxHeartbeats 8000000 in
theorem lawRunes_any (s : ByteArray) (w : World) (hs : s.size ≤ 1048576) : Calls Try.prog 4 #[.string s] w fun e w' => e = .returned (.bool true) ∧ Below w.heap.size w w' := by
  have hl := runes_len s
  have hs2 : s.size < 4611686018427387904 := by omega
  have hl2 : (runes (bs s)).length ≤ 35184372088832 := by omega
  have hl3 : (runes (bs s)).length < 35184372088700 := by omega
  have hl4 : (runes (bs s)).length < 4611686018427387904 := by omega
  have HRR := run.hid (fun w => refRunes_any s w hs2 hl2)
  have HRU := run.hid (fun w => runes_any s w hs2 hl2)
  have HCL := run.hid (fun w => clean_any s w hs2 hl2)
  have HRC := run.hid (fun w => refClean_any s w hs2 hl2)
  have HVA := run.hid (fun w => valid_any s w hs2 hl2)
  have HVD := run.hid (show valid s = ((str (clean (bs s))).toList == s.toList) from rfl)
  unfold Runes at HRR HRU
  have HN := run.hid (rv_length (runes (bs s)))
  generalize str (clean (bs s)) = cl at *
  generalize runes (bs s) = R at *
  obtain ⟨n, hn⟩ : ∃ n, n = R.length := ⟨_, rfl⟩
  rw [← hn] at HRR HRU HN hl hl2 hl3 hl4
  have HNR := run.hid hn
  clear hn hl2
  go_enter Try.func4, Try.ntmps4
  go_wp2_with fail
  refine (HRR.out w).mono ?_
  rintro e w1 ⟨u, rfl, hu1, hb1, _⟩
  have hul := run.hid (fun k hk => hu1.lt k hk)
  go_wp2_with fail
  refine (HRU.out w1).mono ?_
  rintro e w2 ⟨a, rfl, ha2, hb2, _⟩
  have hal := run.hid (fun k hk => ha2.lt k hk)
  have hu2 := run.own_below hu1 hb2
  have hB2 := hb1.trans (hb2.mono hb1.size)
  go_wp2_with fail
  refine (HRU.out w2).mono ?_
  rintro e w3 ⟨b, rfl, hb3', hb3, _⟩
  have hbl := run.hid (fun k hk => hb3'.lt k hk)
  have hu3 := run.own_below hu2 hb3
  have ha3 := run.own_below ha2 hb3
  have hB3 := hB2.trans (hb3.mono hB2.size)
  have z1 := hb1.size
  have z2 := hb2.size
  have z3 := hb3.size
  obtain ⟨au, capu, rfl⟩ := run.own_value hu3
  obtain ⟨aa, capa, rfl⟩ := run.own_value ha3
  obtain ⟨ab, capb, rfl⟩ := run.own_value hb3'
  have U3 := run.hid hu3
  have A3 := run.hid ha3
  have C3 := run.hid hb3'
  clear hu1 hu2 hu3 ha2 ha3 hb3' hb1 hb2 hb3 hB2
  have HS1 := run.hid (refSame_eq _ _ R w3 (run.reads_own A3.out) (run.reads_own U3.out) (by rw [← HNR.out]; omega))
  go_wp2_with fail
  refine (HS1.out).mono ?_
  rintro e w4 ⟨rfl, hb4⟩
  have U4 := run.hid (run.own_below U3.out hb4)
  have C4 := run.hid (run.own_below C3.out hb4)
  have A4 := run.hid (run.own_below A3.out hb4)
  have hB4 := hB3.trans (hb4.mono hB3.size)
  have HS2 := run.hid (refSame_eq _ _ R w4 (run.reads_own C4.out) (run.reads_own U4.out) (by rw [← HNR.out]; omega))
  go_wp2_with fail
  refine (HS2.out).mono ?_
  rintro e w5 ⟨rfl, hb5⟩
  have U5 := run.hid (run.own_below U4.out hb5)
  have C5 := run.hid (run.own_below C4.out hb5)
  have A5 := run.hid (run.own_below A4.out hb5)
  have hB5 := hB4.trans (hb5.mono hB4.size)
  clear HS1 HS2 U3 U4 A3 A4 C3 C4
  go_wp2_with fail
  refine (HRC.out w5).mono ?_
  rintro e w6 ⟨rfl, hb6⟩
  have U6 := run.hid (run.own_below U5.out hb6)
  have C6 := run.hid (run.own_below C5.out hb6)
  have A6 := run.hid (run.own_below A5.out hb6)
  have hB6 := hB5.trans (hb6.mono hB5.size)
  go_wp2_with fail
  refine (HCL.out w6).mono ?_
  rintro e w7 ⟨rfl, hb7⟩
  have U7 := run.hid (run.own_below U6.out hb7)
  have C7 := run.hid (run.own_below C6.out hb7)
  have A7 := run.hid (run.own_below A6.out hb7)
  have hB7 := hB6.trans (hb7.mono hB6.size)
  clear U5 U6 C5 C6 A5 A6
  go_wp2_with fail
  refine (HVA.out w7).mono ?_
  rw [HVD.out]
  rintro e w8 ⟨rfl, hb8⟩
  have U8 := run.hid (run.own_below U7.out hb8)
  have C8 := run.hid (run.own_below C7.out hb8)
  have A8 := run.hid (run.own_below A7.out hb8)
  have hB8 := hB7.trans (hb8.mono hB7.size)
  have z8 := hB8.size
  have z38 : w3.heap.size ≤ w8.heap.size := Nat.le_trans hb4.size (Nat.le_trans hb5.size (Nat.le_trans hb6.size (Nat.le_trans hb7.size hb8.size)))
  clear U7 C7 A7 hb4 hb5 hb6 hb7 hb8 hB3 hB4 hB5 hB6 hB7 HCL HRC HVA HRR
  have hM1 := run.hid (mark_any w1.heap.size _ n _ 1 w8 A8.out hl4)
  have pAB := run.hid (apart_of hal.out hbl.out)
  have pUA := run.hid (apart_of hul.out hal.out)
  have pUB := run.hid (apart_of (lo := w.heap.size) (mid := w2.heap.size) (fun k hk => ⟨(hul.out k hk).1, Nat.lt_of_lt_of_le (hul.out k hk).2 z2⟩) hbl.out)
  cases hcmp : (cl.toList == s.toList) with
  | true | false =>
    go_wp2_with fail
    refine (hM1.out).mono ?_
    rintro e w9 ⟨rfl, hA9, hG9⟩
    have A9 := run.hid hA9
    have C9 := run.hid (C8.out.kept hG9 pAB.out.2)
    have U9 := run.hid (U8.out.kept hG9 pUA.out.1)
    have hB9 := hB8.grown hG9 z8 (fun k hk => Nat.le_trans z1 (hal.out k hk).1)
    have z9 := hB9.size
    have z89 := hG9.size
    have hM2 := run.hid (mark_any w2.heap.size _ n _ 2 w9 C9.out hl4)
    clear hA9 hG9
    go_wp2_with fail
    refine (hM2.out).mono ?_
    rintro e w10 ⟨rfl, hC10, hG10⟩
    have C10 := run.hid hC10
    have A10 := run.hid (A9.out.kept hG10 pAB.out.1)
    have U10 := run.hid (U9.out.kept hG10 pUB.out.1)
    have hB10 := hB9.grown hG10 z9 (fun k hk => Nat.le_trans z1 (Nat.le_trans z2 (hbl.out k hk).1))
    have z10 := hB10.size
    have z910 := hG10.size
    clear hC10 hG10 hM2 hB9
    have hGr := run.hid (grow_any w1.heap.size _ n _ 3 w10 A10.out hl3 (by omega))
    go_wp2_with fail
    refine (hGr.out).mono ?_
    rintro e w11 ⟨x, rfl, hg11⟩
    have A11 := run.hid hg11.old
    have X11 := run.hid hg11.new
    have C11 := run.hid (C10.out.kept hg11.grown pAB.out.2)
    have U11 := run.hid (U10.out.kept hg11.grown pUA.out.1)
    have hB11 := hB10.grown hg11.grown z10 (fun k hk => Nat.le_trans z1 (hal.out k hk).1)
    have z11 := hB11.size
    have z1011 := hg11.grown.size
    have hxs := hg11.step
    obtain ⟨gx, capx, rfl, hcx, hcx2, hgx⟩ := grow_shape hg11.new (by omega)
    have pXB : Hid ((Value.slice (some ⟨gx, 0, none⟩) (n + 70) capx).ownBlock = none ∨ (Value.slice (some ⟨gx, 0, none⟩) (n + 70) capx).ownBlock ≠ (Value.slice ab n capb).ownBlock) := by
      right
      intro e
      have e2 := hbl.out gx e.symm
      rcases hxs with ⟨g, c, h1, h2⟩ | h
      · simp only [Value.slice.injEq, Option.some.injEq, Addr.mk.injEq] at h2
        obtain ⟨⟨rfl, _⟩, _⟩ := h2
        have e3 := hal.out gx (by rw [h1]; rfl)
        omega
      · have e3 := h gx rfl
        omega
    clear hg11 hGr hxs hB10
    have hGr2 := run.hid (grow_any w2.heap.size _ n _ 4 w11 C11.out hl3 (by omega))
    go_wp2_with fail
    refine (hGr2.out).mono ?_
    rintro e w12 ⟨y, rfl, hg12⟩
    have C12 := run.hid hg12.old
    have Y12 := run.hid hg12.new
    have A12 := run.hid (A11.out.kept hg12.grown pAB.out.1)
    have U12 := run.hid (U11.out.kept hg12.grown pUB.out.1)
    have X12 := run.hid (X11.out.kept hg12.grown pXB.out)
    have hB12 := hB11.grown hg12.grown z11 (fun k hk => Nat.le_trans z1 (Nat.le_trans z2 (hbl.out k hk).1))
    have z12 := hB12.size
    obtain ⟨gy, capy, rfl, hcy, hcy2, _⟩ := grow_shape hg12.new (by omega)
    clear hg12 hGr2 hB11 U9 U10 U11 A9 A10 A11 C9 C10 C11 X11
    go_wp2_with fail
    refine (HRU.out w12).mono ?_
    rintro e w13 ⟨c, rfl, hc13, hb13, _⟩
    have D13 := run.hid hc13
    have A13 := run.hid (run.own_below A12.out hb13)
    have U13 := run.hid (run.own_below U12.out hb13)
    have C13 := run.hid (run.own_below C12.out hb13)
    have X13 := run.hid (run.own_below X12.out hb13)
    have Y13 := run.hid (run.own_below Y12.out hb13)
    have hB13 := hB12.trans (hb13.mono z12)
    obtain ⟨ac, capc, rfl⟩ := run.own_value hc13
    clear hc13 hb13 hB12 A12 U12 C12 X12 Y12
    have hK1 := run.hid (marked_any _ n 1 w13 (by have := run.reads_own A13.out; exact this) hl4)
    go_wp2_with fail
    refine (hK1.out).mono ?_
    rintro e w14 ⟨rfl, hb14⟩
    have hB14 := hB13.trans (hb14.mono hB13.size)
    have hK2 := run.hid (marked_any _ n 2 w14 (run.reads_own (run.own_below C13.out hb14)) hl4)
    go_wp2_with fail
    refine (hK2.out).mono ?_
    rintro e w15 ⟨rfl, hb15⟩
    have hB15 := hB14.trans (hb15.mono hB14.size)
    have hb1315 := hb14.trans (hb15.mono hb14.size)
    have hT1 := run.hid (grow_tail (w := w13) (v := Value.nilIface) X13.out (by simp [reps]))
    have hK3 := run.hid (marked_any _ 70 3 w15 (hT1.out.below hb1315) (by omega))
    clear hK1 hK2 hB13 hB14 hb14 hb15
    have hcx3 : n < capx := by omega
    have hcy3 : n < capy := by omega
    go_wp2_with fail
    refine (hK3.out).mono ?_
    rintro e w16 ⟨rfl, hb16⟩
    have hB16 := hB15.trans (hb16.mono hB15.size)
    have hb1316 := hb1315.trans (hb16.mono hb1315.size)
    have hT2 := run.hid (grow_tail (w := w13) (v := Value.nilIface) Y13.out (by simp [reps]))
    have hK4 := run.hid (marked_any _ 70 4 w16 (hT2.out.below hb1316) (by omega))
    clear hK3 hB15 hb16 hb1315
    go_wp2_with fail
    refine (hK4.out).mono ?_
    rintro e w17 ⟨rfl, hb17⟩
    have hB17 := hB16.trans (hb17.mono hB16.size)
    have hb1317 := hb1316.trans (hb17.mono hb1316.size)
    have hK5 := run.hid (refSame_eq _ _ R w17 (run.reads_own (run.own_below D13.out hb1317)) (run.reads_own (run.own_below U13.out hb1317)) (by rw [← HNR.out]; omega))
    clear hK4 hB16 hb17 hb1316
    go_wp2_with fail
    refine (hK5.out).mono ?_
    rintro e w18 ⟨rfl, hb18⟩
    have hB18 := hB17.trans (hb18.mono hB17.size)
    have hW := run.hid (wakes_any w18)
    clear hK5 hB17 hb18 hb1317
    go_wp2_with fail
    refine (hW.out).mono ?_
    rintro e w19 ⟨rfl, hb19⟩
    have hB19 := hB18.trans (hb19.mono hB18.size)
    go_wp2
    go_ret
    exact ⟨rfl, hB19⟩

end Go.Proofs.Ytgjlhjnkcgdopaa.utf
