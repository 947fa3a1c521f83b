/-
  The law UtfPieces: whatever pieces bytes come in, what is told of them, and of their end, is what is told of all of them at once.
-/
import Derived.Test.YtgjlhjnkcgdopaaUtfDecMore
namespace Go.Proofs.Ytgjlhjnkcgdopaa.utf
open Go.RowKit Go.Proofs
set_option linter.unusedVariables false

/-- a slice of slices of bytes, to be read -/
def Rows2 (w : World) (v : Value) (ls : List (List Nat)) : Prop :=
  ∃ a cap, v = .slice a ls.length cap ∧ ∀ i, i < ls.length → ∃ b off pa pc, a = some ⟨b, off, none⟩ ∧ b < w.heap.size ∧ w.cell? ⟨b, off + i, none⟩ = some (.slice pa (ls.getD i []).length pc) ∧ run.Reads w (.slice pa (ls.getD i []).length pc) (bv (ls.getD i [])) ∧ (∀ c ∈ ls.getD i [], c < 256) ∧ (ls.getD i []).length ≤ 140737488355328
theorem Rows2.below {w w' : World} {v : Value} {ls : List (List Nat)} (h : Rows2 w v ls) (hb : Below w.heap.size w w') : Rows2 w' v ls := by
  obtain ⟨a, cap, rfl, h⟩ := h
  refine ⟨a, cap, rfl, fun i hi => ?_⟩
  obtain ⟨b, off, pa, pc, rfl, hlt, hc, hr, h4⟩ := h i hi
  exact ⟨b, off, pa, pc, rfl, Nat.lt_of_lt_of_le hlt hb.size, (hb.cell (p := ⟨b, off + i, none⟩) hlt).trans hc, hr.below hb, h4⟩

def sumTo (ls : List (List Nat)) : Nat → Nat
  | 0 => 0
  | k + 1 => sumTo ls k + 1 + (ls.getD k []).length
theorem sumTo_mono (ls : List (List Nat)) : ∀ a b, a ≤ b → sumTo ls a ≤ sumTo ls b
  | a, 0, h => by have : a = 0 := by omega
                  subst this; exact Nat.le_refl _
  | a, b + 1, h => by
    by_cases e : a = b + 1
    · subst e; exact Nat.le_refl _
    · have := sumTo_mono ls a b (by omega)
      simp only [sumTo]; omega
def flatTo (ls : List (List Nat)) (k : Nat) : List Nat := (ls.take k).flatten
theorem flatTo_next {ls : List (List Nat)} {k : Nat} (h : k < ls.length) : flatTo ls (k + 1) = flatTo ls k ++ ls.getD k [] := by
  unfold flatTo
  rw [List.take_succ_eq_append_getElem h, List.flatten_append]
  simp [List.getD_eq_getElem?_getD, h]
theorem flatTo_len (ls : List (List Nat)) : ∀ k, k ≤ ls.length → (flatTo ls k).length + k = sumTo ls k
  | 0, _ => by simp [flatTo, sumTo]
  | k + 1, h => by
    have := flatTo_len ls k (by omega)
    rw [flatTo_next (by omega), List.length_append]
    simp only [sumTo]; omega

def Bey (ls : List (List Nat)) (w : World) (e : Ending) (w' : World) : Prop := ∃ b, e = .returned (.bool b) ∧ (b = false → sumTo ls ls.length ≤ 134217728) ∧ Below w.heap.size w w'

set_option maxHeartbeats 1000000 in
theorem beyond_any (v : Value) (ls : List (List Nat)) (w : World) (hv : Rows2 w v ls) (hn : ls.length < 4611686018427387904) : Calls Try.prog 19 #[v] w (Bey ls w) := by
  obtain ⟨a, cap, rfl, hc⟩ := hv
  have HC := run.hid hc
  clear hc
  go_enter Try.func19, Try.ntmps19
  go_wp2
  go_loopw [3, 4] (fun vs vi wr => ∃ i s : Nat, i ≤ ls.length ∧ s ≤ 134217728 ∧ vi = .int .i64 i ∧ vs = .int .i64 s ∧ Below w.heap.size w wr ∧ Hid (s = sumTo ls i)) (fun _ i _ => (ls.length - intOf i).toNat)
  case atStart => exact ⟨0, 0, by omega, by omega, rfl, rfl, Below.refl _ _, run.hid rfl⟩
  case round =>
    obtain ⟨i, s, hi, hs, rfl, rfl, hbel, HS⟩ := hrel
    by_cases hil : i < ls.length
    · obtain ⟨b, off, pa, pc, rfl, hlt, hcell, -, -, hsz⟩ := HC.out i hil
      have hci := (hbel.cell (p := ⟨b, off + i, none⟩) hlt).trans hcell
      clear hcell
      have HN : Hid (sumTo ls (i + 1) = s + 1 + (ls.getD i []).length) := by show sumTo ls i + 1 + _ = _; rw [HS.out]
      generalize (ls.getD i []).length = m at *
      by_cases hbig : 134217728 < s + 1 + m
      · go_wp2
        go_ret
        exact ⟨true, rfl, fun h => (by cases h), hbel⟩
      · go_wp2
        go_roundw
        case rel => exact ⟨i + 1, s + 1 + m, by omega, by omega, by go_num, by go_num, hbel, run.hid HN.out.symm⟩
        case measure => simp [intOf]; omega
    · obtain rfl : i = ls.length := by omega
      go_wp2
      go_ret
      exact ⟨false, rfl, fun _ => by rw [← HS.out]; exact hs, hbel⟩

/-! the law -/
theorem runes_end {H : List Nat} (h : H = [] ∨ (first H).2.2 = true) : runes H = endOf H := by
  unfold endOf
  rcases h with rfl | h
  · rfl
  · rw [runes_open H h, if_neg (by intro e; subst e; simp [first] at h)]
def Tally (A : List Nat) (T : List Int) (H : List Nat) : Prop := (∀ u, runes (A ++ u) = T ++ runes (H ++ u)) ∧ (H = [] ∨ (first H).2.2 = true) ∧ T.length ≤ A.length
theorem tally_start : Tally [] [] [] := ⟨fun _ => rfl, .inl rfl, by simp⟩
theorem tally_next {A p : List Nat} {T : List Int} {H : List Nat} (h : Tally A T H) : Tally (A ++ p) (T ++ (feed (H ++ p)).1) (feed (H ++ p)).2 := by
  obtain ⟨h1, h2, h3⟩ := h
  have hr : ∀ u, runes (A ++ p ++ u) = T ++ (feed (H ++ p)).1 ++ runes ((feed (H ++ p)).2 ++ u) := by
    intro u
    rw [List.append_assoc, h1, ← List.append_assoc H, runes_feed _ _ u (Nat.le_refl _), List.append_assoc]
  refine ⟨hr, feed_held _ _ (Nat.le_refl _), ?_⟩
  have h0 := hr []
  simp only [List.append_nil] at h0
  have hl := congrArg List.length h0
  have := runes_length _ (A ++ p) (Nat.le_refl _)
  simp only [List.length_append] at hl this ⊢
  omega
theorem tally_end {A : List Nat} {T : List Int} {H : List Nat} (h : Tally A T H) : T ++ endOf H = runes A := by
  have h0 := h.1 []
  simp only [List.append_nil] at h0
  rw [h0, runes_end h.2.1]

def Apart (u v : Value) : Prop := ∀ k, u.ownBlock = some k → v.ownBlock ≠ some k
theorem Apart.symm {u v : Value} (h : Apart u v) : Apart v u := fun k hk e => h k e hk
theorem Apart.ne {u v : Value} (h : Apart u v) : u.ownBlock = none ∨ u.ownBlock ≠ v.ownBlock := by
  cases e : u.ownBlock with
  | none => exact .inl rfl
  | some k => exact .inr fun e2 => h k e e2.symm
theorem Apart.step {u u' v : Value} {n n' : Nat} {w : World} (h : Apart u v) (hv : ∀ k, v.ownBlock = some k → k < w.heap.size) (hs : run.Step w u n u' n') : Apart u' v := by
  intro k hk e
  rcases hs with ⟨g, cap, rfl, rfl⟩ | hs
  · exact h k hk e
  · have := hs k hk; have := hv k e; omega
theorem ne_some {u : Value} {d : Nat} (h : ∀ k, u.ownBlock = some k → d < k) : u.ownBlock = none ∨ u.ownBlock ≠ some d := by
  cases e : u.ownBlock with
  | none => exact .inl rfl
  | some k => right; intro e2; simp only [Option.some.injEq] at e2; have := h k e; omega

/-- where the law's loop stands -/
structure PieceSt (D B : Nat) (w wr : World) (all told : Value) (A : List Nat) (T : List Int) (H : List Nat) : Prop where
  a : wr.ownsRow B 5 1 all A.length (bv A)
  t : wr.ownsRow B 21 1 told T.length (rv T)
  ap : Apart all told
  d : HasDec wr D H
  tally : Tally A T H
  bel : Below w.heap.size w wr
  size : B ≤ wr.heap.size
  byte : ∀ c ∈ A, c < 256

theorem below_grown_row {B : Nat} {w w1 w2 : World} {D : Nat} (h : Below B w w1) (hg : w1.grownBy w2 (some D)) (hB : B ≤ w1.heap.size) (hD : B ≤ D) : Below B w w2 := h.grown hg hB (fun k hk => by simp only [Option.some.injEq] at hk; omega)

set_option maxRecDepth 100000 in
set_option maxHeartbeats 8000000 in
theorem lawPieces_any (v : Value) (ls : List (List Nat)) (w : World) (hv : Rows2 w v ls) (hn : ls.length < 4611686018427387904) : Calls Try.prog 6 #[v] w fun e w' => e = .returned (.bool true) ∧ Below w.heap.size w w' := by
  obtain ⟨i0, hi, hz0, hz1, hz2⟩ := info_parts info_byte
  obtain ⟨ir, hir, hrz0, hrz1, hrz2⟩ := info_parts info_rune
  have HV := run.hid hv
  have HBY := run.hid (beyond_any v ls w hv hn)
  obtain ⟨a, cap, rfl, -⟩ := hv
  go_enter Try.func6, Try.ntmps6
  go_wp2_with fail
  refine (HBY.out).mono ?_
  rintro e w1 ⟨b, rfl, hsum, hb1⟩
  clear HBY
  cases b with
  | true =>
    clear hsum
    go_wp2
    go_ret
    exact ⟨rfl, hb1⟩
  | false =>
    have HSUM := run.hid (hsum rfl)
    clear hsum
    go_wp2_with fail
    refine (new_any w1).mono ?_
    rintro e w2 ⟨rfl, hd2, hlt2, hb2⟩
    have hB2 := hb1.trans (hb2.mono hb1.size)
    obtain ⟨D, hD⟩ : ∃ D, D = w1.heap.size := ⟨_, rfl⟩
    rw [← hD] at hd2 hlt2 hb2 ⊢
    have hwD : w.heap.size ≤ D := by rw [hD]; exact hb1.size
    clear hD hb2
    obtain ⟨B, hB⟩ : ∃ B, B = w2.heap.size := ⟨_, rfl⟩
    have hDB : D < B := by omega
    have hST : Hid (PieceSt D B w w2 (.slice none 0 0) (.slice none 0 0) [] [] []) :=
      ⟨World.ownsRow_nil _ _ _ _, World.ownsRow_nil _ _ _ _, fun k hk => by simp [Value.ownBlock] at hk, hd2, tally_start, hB2, by omega, by simp⟩
    have hwB : w.heap.size ≤ B := by omega
    clear hd2 hlt2 hB hB2 hb1
    go_wp2
    go_loopw [4, 5, 6] (fun all told vi wr => ∃ i : Nat, ∃ T : List Int, ∃ H : List Nat, i ≤ ls.length ∧ vi = .int .i64 i ∧ Hid (PieceSt D B w wr all told (flatTo ls i) T H)) (fun _ _ i _ => (ls.length - intOf i).toNat)
    case atStart => exact ⟨0, [], [], by omega, rfl, hST⟩
    case round =>
      clear hST
      obtain ⟨i, T, H, hil, rfl, HP⟩ := hrel
      by_cases hlt : i < ls.length
      · have HV2 := run.hid (HV.out.below HP.out.bel)
        obtain ⟨a', cap', e1, hrow⟩ := HV2.out
        simp only [Value.slice.injEq] at e1
        obtain ⟨rfl, -, rfl⟩ := e1
        obtain ⟨b, off, pa, pc, rfl, hblt, hcell, hrd, hbyt, hpl⟩ := hrow i hlt
        have HFL := run.hid (flatTo_next hlt)
        have hfl1 := flatTo_len ls (i + 1) (by omega)
        have hfl2 := sumTo_mono ls (i + 1) ls.length (by omega)
        have hfl3 := HSUM.out
        rw [HFL.out, List.length_append] at hfl1
        have hAp : (flatTo ls i).length + (ls.getD i []).length ≤ 134217728 := by omega
        have HRD := run.hid hrd
        have HBT := run.hid hbyt
        clear hrow hrd hbyt hfl1 hfl2 hfl3 hpl
        generalize ls.getD i [] = p at *
        generalize flatTo ls i = A at *
        have hnil := run.hid (World.ownsRow_nil wr wr.heap.size 5 1)
        have HRDN := run.hid HRD.out.n
        rw [bv_length] at HRDN
        go_wp2_with (at_builtin; refine run.wpList_append_any _ rfl (.tmp 19) _ 47 rfl wr.heap.size 5 i0 (.int .u8 0) 1 1 Try.underlying47 hi hz0 hz1 hz2 rfl (by decide) _ 0 [] rfl hnil.out _ p.length (bv p) rfl HRDN.out (bv_one _) (by unfold maxLen; omega) (by omega) (Nat.le_refl _) ?_)
        intro b1 w3 hown3 hgrow3 _ hstep3
        have hb3 : Below wr.heap.size wr w3 := run.below_append (Below.refl _ _) hnil.out hgrow3 (Nat.le_refl _)
        obtain ⟨ab, cb, rfl⟩ := run.own_value hown3
        have OB3 := run.hid hown3
        have OA3 := run.hid (run.own_below HP.out.a hb3)
        have OT3 := run.hid (run.own_below HP.out.t hb3)
        have D3 := run.hid (HP.out.d.kept (hb3.block D (by have := HP.out.size; omega)))
        have hB3 : B ≤ w3.heap.size := Nat.le_trans HP.out.size hb3.size
        have hwr := HP.out.size
        have hz3 := hb3.size
        have hbel3 := HP.out.bel.trans (hb3.mono (Nat.le_trans hwB HP.out.size))
        have hRN3 := run.hid (run.readsN_own OB3.out)
        have hblB := run.hid (fun k hk => (OB3.out.lt k hk).1)
        have halr := run.hid (fun k hk => (HP.out.a.lt k hk))
        have htlr := run.hid (fun k hk => (HP.out.t.lt k hk))
        clear hown3 hgrow3 hstep3 hb3 hnil HRDN
        go_wp2_with (at_builtin; refine run.wpList_append_any _ rfl (.tmp 25) _ 47 rfl B 5 i0 (.int .u8 0) 1 1 Try.underlying47 hi hz0 hz1 hz2 rfl (by decide) _ A.length (bv A) rfl OA3.out _ p.length (bv p) rfl hRN3.out (bv_one _) (by unfold maxLen; omega) (by omega) hB3 ?_)
        intro all1 w4 hown4 hgrow4 _ hstep4
        rw [bv_append] at hown4
        have OA4 := run.hid (show w4.ownsRow B 5 1 all1 (A ++ p).length (bv (A ++ p)) by rw [List.length_append]; exact hown4)
        have hAPbt : Apart (Value.slice ab p.length cb) u4 := by
          intro k hk e
          have h1 := hblB.out k hk
          have h2 := (halr.out k e).2
          omega
        have OB4 := run.hid (OB3.out.kept hgrow4 hAPbt.ne)
        have OT4 := run.hid (OT3.out.kept hgrow4 HP.out.ap.symm.ne)
        have D4 := run.hid (D3.out.kept (hgrow4.block D (by omega) (fun e => by have := (halr.out D e.symm).1; omega)))
        have hbel4 := hbel3.grown hgrow4 (Nat.le_trans hwB hB3) (fun k hk => Nat.le_trans hwB (halr.out k hk).1)
        have hB4 : B ≤ w4.heap.size := Nat.le_trans hB3 hgrow4.size
        have AP4 := run.hid (HP.out.ap.step (fun k hk => Nat.lt_of_lt_of_le (htlr.out k hk).2 hz3) hstep4)
        have hall1 := run.hid (fun k hk => (OA4.out.lt k hk))
        clear hown4 hgrow4 hstep4 OA3 OT3 D3 hB3 hbel3 hRN3 hAPbt
        have HFD := run.hid (feed_any D H _ p w4 D4.out (run.reads_own OB4.out) (by omega) HBT.out)
        go_wp2_with fail
        refine (HFD.out).mono ?_
        rintro e w5 ⟨t1, rfl, hown5, hd5, hgrow5⟩
        have hDne : ∀ {k : Nat}, k = D → k < B := fun h => by omega
        have OA5 := run.hid (OA4.out.kept hgrow5 (ne_some (fun k hk => by have := (hall1.out k hk).1; omega)))
        have OT5 := run.hid (OT4.out.kept hgrow5 (ne_some (fun k hk => by have := (htlr.out k hk).1; omega)))
        have hbel5 := below_grown_row hbel4 hgrow5 (Nat.le_trans hwB hB4) hwD
        have hB5 : B ≤ w5.heap.size := Nat.le_trans hB4 hgrow5.size
        have D5 := run.hid hd5
        have OX5 := run.hid hown5
        have hxlr := run.hid (fun k hk => (OX5.out.lt k hk).1)
        obtain ⟨ax, cx, rfl⟩ := run.own_value hown5
        have HTL := run.hid (tally_next (p := p) HP.out.tally)
        have hTl := HP.out.tally.2.2
        have hTl2 := HTL.out.2.2
        have hw45 := hgrow5.size
        have HBA := run.hid (fun c (hc : c ∈ A ++ p) => (List.mem_append.1 hc).elim (HP.out.byte c) (HBT.out c))
        clear hown5 hd5 hgrow5 HFD OA4 OB4 OT4 D4 hbel4
        generalize feed (H ++ p) = fr at *
        obtain ⟨X, H'⟩ := fr
        simp only at OX5 D5 HTL hTl2 hxlr ⊢
        rw [List.length_append, List.length_append] at hTl2
        have hXN := run.hid (run.readsN_own OX5.out)
        go_wp2_with (at_builtin; refine run.wpList_append_any _ rfl (.tmp 28) _ 22 rfl B 21 ir (.int .i32 0) 1 4 Try.underlying22 hir hrz0 hrz1 hrz2 rfl (by decide) _ T.length (rv T) rfl OT5.out _ X.length (rv X) rfl hXN.out (by intro u hu; simp only [rv, List.mem_map] at hu; obtain ⟨b, _, rfl⟩ := hu; rfl) (by unfold maxLen; omega) (by omega) hB5 ?_)
        intro told1 w6 hown6 hgrow6 _ hstep6
        have hown6' : w6.ownsRow B 21 1 told1 (T ++ X).length (rv (T ++ X)) := by rw [List.length_append]; simpa [rv] using hown6
        have hNEW : Hid (PieceSt D B w w6 all1 told1 (A ++ p) (T ++ X) H') := by
          refine ⟨OA5.out.kept hgrow6 AP4.out.ne, hown6', ?_, D5.out.kept (hgrow6.block D (by omega) (fun e => by have := (htlr.out D e.symm).1; omega)), HTL.out, hbel5.grown hgrow6 (Nat.le_trans hwB hB5) (fun k hk => Nat.le_trans hwB (htlr.out k hk).1), Nat.le_trans hB5 hgrow6.size, HBA.out⟩
          exact (AP4.out.symm.step (fun k hk => Nat.lt_of_lt_of_le (hall1.out k hk).2 hw45) hstep6).symm
        rw [← HFL.out] at hNEW
        have hH3 := held_length hNEW.out.tally.2.1
        have HH := run.hid (held_any D H' w6 hNEW.out.d)
        clear hown6 hown6' hgrow6 hstep6 OA5 OT5 D5 OX5 hxlr hXN HTL hall1 halr htlr hblB hbel5 AP4 HBA hDne
        generalize H'.length = hl' at *
        go_wp2_with fail
        refine (HH.out).mono ?_
        rintro e w7 ⟨rfl, rfl⟩
        go_wp2_with fail
        refine (HH.out).mono ?_
        rintro e w8 ⟨rfl, rfl⟩
        go_wp2
        go_roundw
        case rel => exact ⟨i + 1, _, _, by omega, by go_num, hNEW⟩
        case measure => simp [intOf]; omega
      · obtain rfl : i = ls.length := by omega
        have HEN := run.hid (end_any D H wr HP.out.d)
        have hwr := HP.out.size
        have hfl := flatTo_len ls ls.length (Nat.le_refl _)
        have hsm := HSUM.out
        have hAl : (flatTo ls ls.length).length ≤ 134217728 := by omega
        have hTl := HP.out.tally.2.2
        have hel : (endOf H).length ≤ 1 := by unfold endOf; split <;> simp
        have HTE := run.hid (tally_end HP.out.tally)
        have halr := run.hid (fun k hk => (HP.out.a.lt k hk))
        have htlr := run.hid (fun k hk => (HP.out.t.lt k hk))
        have hBY := run.hid HP.out.byte
        clear hfl hsm HSUM HV
        generalize flatTo ls ls.length = A at *
        unfold Ended at HEN
        generalize endOf H = E at *
        go_wp2_with fail
        refine (HEN.out).mono ?_
        rintro e w5 ⟨t1, rfl, hown5, hd5, hgrow5⟩
        have OA5 := run.hid (HP.out.a.kept hgrow5 (ne_some (fun k hk => by have := (halr.out k hk).1; omega)))
        have OT5 := run.hid (HP.out.t.kept hgrow5 (ne_some (fun k hk => by have := (htlr.out k hk).1; omega)))
        have hbel5 := below_grown_row HP.out.bel hgrow5 (Nat.le_trans hwB hwr) hwD
        have hB5 : B ≤ w5.heap.size := Nat.le_trans hwr hgrow5.size
        have D5 := run.hid hd5
        have hw5 := hgrow5.size
        obtain ⟨ax, cx, rfl⟩ := run.own_value hown5
        have hXN := run.hid (run.readsN_own hown5)
        have hAP := run.hid HP.out.ap
        clear hown5 hd5 hgrow5 HEN HP
        go_wp2_with (at_builtin; refine run.wpList_append_any _ rfl (.tmp 41) _ 22 rfl B 21 ir (.int .i32 0) 1 4 Try.underlying22 hir hrz0 hrz1 hrz2 rfl (by decide) _ T.length (rv T) rfl OT5.out _ E.length (rv E) rfl hXN.out (by intro u hu; simp only [rv, List.mem_map] at hu; obtain ⟨b, _, rfl⟩ := hu; rfl) (by unfold maxLen; omega) (by omega) hB5 ?_)
        intro told1 w6 hown6 hgrow6 _ _
        have OT6 : Hid (w6.ownsRow B 21 1 told1 (T ++ E).length (rv (T ++ E))) := by show World.ownsRow _ _ _ _ _ _ _; rw [List.length_append]; simpa [rv] using hown6
        have OA6 := run.hid (OA5.out.kept hgrow6 hAP.out.ne)
        have D6 := run.hid (D5.out.kept (hgrow6.block D (by omega) (fun e => by have := (htlr.out D e.symm).1; omega)))
        have hbel6 := hbel5.grown hgrow6 (Nat.le_trans hwB hB5) (fun k hk => Nat.le_trans hwB (htlr.out k hk).1)
        have hB6 : B ≤ w6.heap.size := Nat.le_trans hB5 hgrow6.size
        have htlr6 := run.hid (fun k hk => (OT6.out.lt k hk))
        clear hown6 hgrow6 OA5 OT5 D5 hbel5 hXN
        rw [HTE.out] at OT6
        have HH := run.hid (held_any D [] w6 D6.out)
        go_wp2_with fail
        refine (HH.out).mono ?_
        rintro e w7 ⟨rfl, rfl⟩
        have HE2 := run.hid (end_any D [] w7 D6.out)
        go_wp2_with fail
        refine (HE2.out).mono ?_
        rintro e w8 ⟨t2, rfl, hown8, -, hgrow8⟩
        obtain ⟨a8, c8, rfl⟩ := run.own_value hown8
        have OT8 := run.hid (OT6.out.kept hgrow8 (ne_some (fun k hk => by have := (htlr6.out k hk).1; omega)))
        have OA8 := run.hid (OA6.out.kept hgrow8 (ne_some (fun k hk => by have := (halr.out k hk).1; omega)))
        have hbel8 := below_grown_row hbel6 hgrow8 (Nat.le_trans hwB hB6) hwD
        have hconv := conv_own OA8.out
        have hrl := runes_length _ A (Nat.le_refl _)
        have HRU := run.hid (fun w => runes_use (str A) w (by rw [str_size]; omega) (by rw [bs_str hBY.out]; omega))
        rw [bs_str hBY.out] at HRU
        clear hown8 hgrow8 HE2 OT6 OA6 hbel6 D6 HH
        generalize hel8 : (endOf []).length = z8 at *
        have hz8 : z8 = 0 := by rw [← hel8]; rfl
        clear hel8
        subst hz8
        go_wp2_with fail
        refine (HRU.out w8).mono ?_
        rintro e w9 ⟨rv9, rfl, -, hr9, hb9, -⟩
        have HSM := run.hid (same_eq _ _ (runes A) w9 (run.reads_own (run.own_below OT8.out hb9)) hr9 (by omega))
        have hbel9 := hbel8.trans (hb9.mono hbel8.size)
        clear hconv hr9
        go_wp2_with fail
        refine (HSM.out).mono ?_
        rintro e w10 ⟨rfl, hb10⟩
        have hbel10 := hbel9.trans (hb10.mono hbel9.size)
        have hW := run.hid (wakes_any w10)
        go_wp2_with fail
        refine (hW.out).mono ?_
        rintro e w11 ⟨rfl, hb11⟩
        have hbel11 := hbel10.trans (hb11.mono hbel10.size)
        go_wp2
        go_ret
        exact ⟨rfl, hbel11⟩

end Go.Proofs.Ytgjlhjnkcgdopaa.utf
