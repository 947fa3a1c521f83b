/-
  The law EditUndone: what was done is taken back, step by step, and done again.
-/
import Derived.Test.YtgfjaegjkklcpaaEdPlay
import Derived.Deep.CutBlock
namespace Go.Proofs.Ytgfjaegjkklcpaa.ed
open Go Go.RowKit Go.Proofs
set_option linter.unusedVariables false
/-! THE PLAIN LAW -/
/-- a state behind a step that did something -/
def Did (s s' : Sta) : Prop := ∃ B caret, s' = ⟨B, caret, -1, lim (s.L.take s.dn ++ [⟨s.F, s.ca, B, caret⟩]), (lim (s.L.take s.dn ++ [⟨s.F, s.ca, B, caret⟩])).length⟩
/-- a state behind a step that did nothing to the line -/
def Idle (s s' : Sta) : Prop := s'.F = s.F ∧ s'.L = s.L ∧ s'.dn = s.dn
theorem become_did (s : Sta) (B : List TV) (c : Nat) (al : Bool) : ((becomeT s B c al).1 = true ∧ Did s (becomeT s B c al).2) ∨ ((becomeT s B c al).1 = false ∧ Idle s (becomeT s B c al).2) := by
  unfold becomeT
  split
  · exact .inr ⟨rfl, rfl, rfl, rfl⟩
  · exact .inl ⟨rfl, B, c, rfl⟩
theorem play_did (s : Sta) (x : SV) : ((playT s x).1 = true ∧ Did s (playT s x).2) ∨ ((playT s x).1 = false ∧ Idle s (playT s x).2) := by
  unfold playT
  split
  · refine .inr ⟨rfl, ?_⟩
    unfold goT
    split
    · exact ⟨rfl, rfl, rfl⟩
    · exact ⟨rfl, rfl, rfl⟩
  · split
    · unfold insT
      split
      · exact .inr ⟨rfl, rfl, rfl, rfl⟩
      · exact become_did _ _ _ _
    · split
      · unfold delT
        split
        · split
          · exact .inr ⟨rfl, rfl, rfl, rfl⟩
          · split
            · exact .inr ⟨rfl, rfl, rfl, rfl⟩
            · exact become_did _ _ _ _
        · exact become_did _ _ _ _
      · exact .inr ⟨rfl, rfl, rfl, rfl⟩
/-- n steps were done since this was held -/
def Since (F : List TV) (ca n : Nat) (s : Sta) : Prop := (n = 0 ∧ s.F = F) ∨ (0 < n ∧ s.dn = s.L.length ∧ n ≤ s.L.length ∧ ∃ x, s.L[s.L.length - n]? = some x ∧ x.bef = F ∧ x.ahead = ca)
theorem since_idle {F : List TV} {ca n : Nat} {s s' : Sta} (h : Since F ca n s) (hi : Idle s s') : Since F ca n s' := by
  obtain ⟨h1, h2, h3⟩ := hi
  rcases h with ⟨h4, h5⟩ | ⟨h4, h5, h6, h7⟩
  · exact .inl ⟨h4, h1.trans h5⟩
  · rw [← h2] at h5 h6 h7
    exact .inr ⟨h4, h3.trans h5, h6, h7⟩
theorem since_did {F : List TV} {ca n : Nat} {s s' : Sta} (h : Since F ca n s) (ok : EdOk s) (hn : n < 256) (hd : Did s s') : Since F (if n = 0 then s.ca else ca) (n + 1) s' := by
  obtain ⟨B, c, rfl⟩ := hd
  have hdn := ok.dn
  have hln := ok.ln
  have htl : (s.L.take s.dn).length = s.dn := by rw [List.length_take]; omega
  have hal : (s.L.take s.dn ++ [(⟨s.F, s.ca, B, c⟩ : St)]).length = s.dn + 1 := by rw [List.length_append, htl]; rfl
  refine .inr ⟨by omega, rfl, ?_, ?_⟩
  · dsimp only
    unfold lim
    rcases h with ⟨rfl, -⟩ | ⟨-, h5, h6, -⟩ <;> (split <;> (first | rw [List.length_drop] | skip) <;> rw [hal] <;> omega)
  · dsimp only
    -- the step's place from the end stays
    have hget : ∀ L2 : List St, L2.length = s.dn + 1 → (lim L2)[(lim L2).length - (n + 1)]? = L2[s.dn - n]? ∨ ¬ n ≤ s.dn := by
      intro L2 h2
      by_cases hnd : n ≤ s.dn
      · left
        unfold lim
        split
        · rw [List.getElem?_drop, List.length_drop, h2]
          congr 1
          omega
        · rw [h2]
          congr 1
          omega
      · exact .inr hnd
    rcases h with ⟨rfl, h5⟩ | ⟨h4, h5, h6, x, hx, hb, ha⟩
    · rw [if_pos rfl]
      rcases hget _ hal with hg | hg
      · refine ⟨⟨s.F, s.ca, B, c⟩, ?_, h5, rfl⟩
        rw [hg, List.getElem?_append_right (by rw [htl]; omega), htl]
        simp
      · omega
    · rw [if_neg (by omega)]
      rcases hget _ hal with hg | hg
      · refine ⟨x, ?_, hb, ha⟩
        rw [hg, List.getElem?_append_left (by rw [htl]; omega), List.getElem?_take_of_lt (by omega), h5]
        exact hx
      · omega
/-- k Undos -/
def undosT : Nat → Sta → Sta
  | 0, s => s
  | k + 1, s => (undoT (undosT k s)).2
def redosT : Nat → Sta → Sta
  | 0, s => s
  | k + 1, s => (redoT (redosT k s)).2
theorem ok_undos {s : Sta} (h : EdOk s) : ∀ k, EdOk (undosT k s)
  | 0 => h
  | k + 1 => ok_undo (ok_undos h k)
theorem ok_redos {s : Sta} (h : EdOk s) : ∀ k, EdOk (redosT k s)
  | 0 => h
  | k + 1 => ok_redo (ok_redos h k)
theorem undos_at {s : Sta} (ok : EdOk s) (hd : s.dn = s.L.length) : ∀ k, k ≤ s.L.length → (undosT k s).L = s.L ∧ (undosT k s).dn = s.L.length - k ∧ (k < s.L.length → (undoT (undosT k s)).1 = true) ∧ (∀ j x, k = j + 1 → s.L[s.L.length - k]? = some x → (undosT k s).F = x.bef ∧ (undosT k s).ca = x.ahead)
  | 0, _ => by
    refine ⟨rfl, by rw [Nat.sub_zero]; exact hd, fun h => ?_, fun j x e => by omega⟩
    show (undoT s).1 = true
    unfold undoT
    obtain ⟨m, hm⟩ : ∃ m, s.dn = m + 1 := ⟨s.dn - 1, by omega⟩
    rw [hm]
    dsimp only
    rw [List.getElem?_eq_getElem (show m < s.L.length by omega)]
  | k + 1, hk => by
    obtain ⟨h1, h2, -, -⟩ := undos_at ok hd k (by omega)
    obtain ⟨m, hm⟩ : ∃ m, (undosT k s).dn = m + 1 := ⟨(undosT k s).dn - 1, by omega⟩
    have hml : m < s.L.length := by omega
    have e : undosT (k + 1) s = ⟨(s.L[m]).bef, (s.L[m]).ahead, -1, s.L, m⟩ := by
      show (undoT (undosT k s)).2 = _
      unfold undoT
      rw [hm]
      dsimp only
      rw [h1, List.getElem?_eq_getElem hml]
    rw [e]
    refine ⟨rfl, by dsimp only; omega, fun h => ?_, fun j x ej hx => ?_⟩
    · unfold undoT
      obtain ⟨q, hq⟩ : ∃ q, m = q + 1 := ⟨m - 1, by omega⟩
      subst hq
      dsimp only
      rw [List.getElem?_eq_getElem (show q < s.L.length by omega)]
    · dsimp only
      rw [show s.L.length - (k + 1) = m by omega, List.getElem?_eq_getElem hml] at hx
      cases hx
      exact ⟨rfl, rfl⟩
theorem redos_at {s : Sta} (ok : EdOk s) (n : Nat) (hn : s.dn + n = s.L.length) : ∀ k, k ≤ n → (redosT k s).L = s.L ∧ (redosT k s).dn = s.dn + k ∧ (k < n → (redoT (redosT k s)).1 = true)
  | 0, _ => by
    refine ⟨rfl, rfl, fun h => ?_⟩
    show (redoT s).1 = true
    unfold redoT
    rw [List.getElem?_eq_getElem (show s.dn < s.L.length by omega)]
  | k + 1, hk => by
    obtain ⟨h1, h2, -⟩ := redos_at ok n hn k (by omega)
    have hml : (redosT k s).dn < s.L.length := by omega
    have e : redosT (k + 1) s = ⟨(s.L[(redosT k s).dn]).aft, (s.L[(redosT k s).dn]).after, -1, s.L, (redosT k s).dn + 1⟩ := by
      show (redoT (redosT k s)).2 = _
      unfold redoT
      rw [h1, List.getElem?_eq_getElem hml]
    rw [e]
    refine ⟨rfl, by dsimp only; omega, fun h => ?_⟩
    unfold redoT
    dsimp only
    rw [List.getElem?_eq_getElem (show (redosT k s).dn + 1 < s.L.length by omega)]
/-- all is as it was -/
theorem back_again {F : List TV} {ca n : Nat} {s : Sta} (ok : EdOk s) (h : Since F ca n s) (hn : 0 < n) :
    (∀ k, k < n → (undoT (undosT k s)).1 = true) ∧ (undosT n s).F = F ∧ (undosT n s).ca = ca ∧ (∀ k, k < n → (redoT (redosT k (undosT n s))).1 = true) ∧ (redosT n (undosT n s)).F = s.F ∧ (redoT (redosT n (undosT n s))).1 = false := by
  rcases h with ⟨h4, -⟩ | ⟨h4, h5, h6, x, hx, hb, ha⟩
  · omega
  · obtain ⟨u1, u2, -, u4⟩ := undos_at ok h5 n h6
    obtain ⟨m, rfl⟩ : ∃ m, n = m + 1 := ⟨n - 1, by omega⟩
    have hu := u4 m x rfl hx
    have hr := redos_at (ok_undos ok (m + 1)) (m + 1) (by rw [u1, u2]; omega)
    obtain ⟨r1, r2, -⟩ := hr (m + 1) (Nat.le_refl _)
    have hok := ok_redos (ok_undos ok (m + 1)) (m + 1)
    refine ⟨fun k hk => (undos_at ok h5 k (by omega)).2.2.1 (by omega), by rw [hu.1, hb], by rw [hu.2, ha], fun k hk => (hr k (by omega)).2.2 hk, ?_, ?_⟩
    · obtain ⟨q, hq⟩ : ∃ q, s.L.length = q + 1 := ⟨s.L.length - 1, by omega⟩
      have hxq : s.L[q]? = some s.L[q] := List.getElem?_eq_getElem (by omega)
      have e1 := ok.back q _ (by omega) hxq
      have e2 := hok.back q _ (by rw [r2, u2]; omega) (by rw [r1, u1]; exact hxq)
      rw [e1, e2]
    · unfold redoT
      rw [r1, u1, r2, u2, List.getElem?_eq_none (by omega)]
set_option maxRecDepth 100000 in
set_option maxHeartbeats 16000000 in
theorem lawUndone_any (t : ByteArray) (a1 : Option Addr) (cap1 : Nat) (SL1 : List SV) (a2 : Option Addr) (cap2 : Nat) (SL2 : List SV) (w : World) (ht : t.size ≤ 1048576) (h1 : ScriptIn w a1 SL1) (hN1 : SL1.length ≤ 1048576) (h2 : ScriptIn w a2 SL2) (hN2 : SL2.length ≤ 1048576) :
    Calls Try.prog 5 #[.string t, .slice a1 SL1.length cap1, .slice a2 SL2.length cap2] w fun e w' => e = .returned (.bool true) ∧ Below w.heap.size w w' := by
  have HTY1 := run.hid (typed_any (cap := cap1) h1 hN1)
  have HTY2 := run.hid (fun (X : World) (hX : Below w.heap.size w X) => typed_any (cap := cap2) (h2.below hX) hN2)
  have HS1 := run.hid (fun (X : World) (hX : Below w.heap.size w X) => h1.below hX)
  have HS2 := run.hid (fun (X : World) (hX : Below w.heap.size w X) => h2.below hX)
  unfold ScriptIn at HS1 HS2
  have HNEW := run.hid (fun (X : World) => new_l t X (by omega))
  have HOK0 := run.hid (ok_new t)
  clear h1 h2
  generalize hNN1 : SL1.length = N1 at *
  generalize hNN2 : SL2.length = N2 at *
  clear hNN1 hNN2
  go_enter Try.func5, Try.ntmps5
  go_wp2_with fail
  refine HTY1.out.mono ?_
  rintro e w1 ⟨⟨t1, rfl⟩, hb1⟩
  have HT2 := run.hid (HTY2.out w1 hb1)
  have HB1 := run.hid hb1
  clear HTY1 HTY2 hb1
  cases t1 with
  | true =>
    have HF := run.hid HB1.out
    clear HT2 HB1
    go_wp2
    go_ret
    exact ⟨rfl, HF.out⟩
  | false =>
    go_wp2_with fail
    refine HT2.out.mono ?_
    rintro e w2 ⟨⟨t2, rfl⟩, hb2⟩
    have HB2 := run.hid (HB1.out.trans (hb2.mono HB1.out.size))
    clear HT2 HB1 hb2
    cases t2 with
    | true =>
      go_wp2
      go_ret
      exact ⟨rfl, HB2.out⟩
    | false =>
      have HN := run.hid (HNEW.out w2)
      clear HNEW
      go_wp2_with fail
      refine HN.out.mono ?_
      rintro e w3 ⟨b, rfl, hE3, hb3⟩
      have HB3 := run.hid (And.intro (HB2.out.trans (hb3.mono HB2.out.size)) hb3.size)
      have HE3 := run.hid hE3
      obtain ⟨B, hB⟩ : ∃ B, B = w2.heap.size := ⟨_, rfl⟩
      rw [← hB] at HE3 HB3
      have hwB : w.heap.size ≤ B := by rw [hB]; exact HB2.out.size
      clear HN HB2 hE3 hb3 hB
      go_wp2_with fail
      refine (alive_any w3).mono ?_
      rintro e w4 ⟨rfl, hb4⟩
      have HE4 := run.hid (And.intro (HE3.out.below hb4) (And.intro (HB3.out.1.trans (hb4.mono HB3.out.1.size)) (Nat.le_trans HB3.out.2 hb4.size)))
      clear HE3 HB3 hb4
      go_upto_block 0 with fail
      go_cut [8] (fun p wx => ∃ s, EdL B b s wx ∧ Hid (EdOk s) ∧ Below w.heap.size w wx ∧ B ≤ wx.heap.size)
      case first =>
        clear HS2
        go_wp2
        go_loopw [8] (fun vi wr => ∃ (i : Nat) (s : Sta), i ≤ N1 ∧ vi = .int .i64 i ∧ EdL B b s wr ∧ Hid (EdOk s) ∧ Below w.heap.size w wr ∧ B ≤ wr.heap.size) (fun vi _ => ((N1 : Int) - intOf vi).toNat)
        case atStart => exact ⟨0, _, Nat.zero_le _, rfl, HE4.out.1, HOK0, HE4.out.2.1, HE4.out.2.2⟩
        case round =>
          obtain ⟨i, s, hi, rfl, hE, HOK, hbel, hBw⟩ := hrel
          clear HE4 HOK0
          by_cases hlt : i < N1
          · obtain ⟨sb, so, rfl, hsb, ⟨c0, c1, c2, c3, c4⟩, hts⟩ := HS1.out wr hbel i hlt
            have hsc := HS1.out
            have HP := run.hid (play_l hE HOK.out hBw (SL1.getD i sv0) hts)
            have HQ := run.hid (fun (X : World) (hX : Below w.heap.size w X) => HS1.out X hX i hlt)
            have HB := run.hid hbel
            clear hE hbel hsc HS1
            obtain ⟨q, hq⟩ : ∃ q, SL1.getD i sv0 = q := ⟨_, rfl⟩
            rw [hq] at c0 c1 c2 c3 c4 HP HQ
            clear hq hts
            obtain ⟨qd, qw, qn, qm, qt⟩ := q
            dsimp only at c0 c1 c2 c3 c4
            dsimp only [SV.cells] at HP
            have hokp := ok_play HOK.out ⟨qd, qw, qn, qm, qt⟩
            generalize playT s ⟨qd, qw, qn, qm, qt⟩ = ps at *
            obtain ⟨did, s2⟩ := ps
            dsimp only at HP hokp
            have HOK2 := run.hid hokp
            clear hokp
            go_wp2_with fail
            refine HP.out.mono ?_
            rintro e w5 ⟨rfl, hE5, hb5⟩
            have hb05 := HB.out.trans (hb5.mono hwB)
            obtain ⟨sb', so', hsa, hsb', ⟨d0, -⟩, -⟩ := HQ.out w5 hb05
            simp only [Option.some.injEq, Addr.mk.injEq, and_true] at hsa
            obtain ⟨rfl, rfl⟩ := hsa
            dsimp only at d0
            have hBw5 : B ≤ w5.heap.size := by have := hb5.size; omega
            have HU := run.hid (undo_l hE5 HOK2.out hBw5)
            have HE5 := run.hid (And.intro hE5 (And.intro hb05 hBw5))
            clear HP HB HQ hE5 hb5 hb05 c0 c1 c2 c3 c4
            by_cases h3 : qd = 3
            · subst h3
              have hoku := ok_undo HOK2.out
              generalize undoT s2 = us at *
              obtain ⟨ud, s3⟩ := us
              dsimp only at HU hoku
              have HOK3 := run.hid hoku
              clear hoku
              go_wp2_with fail
              refine HU.out.mono ?_
              rintro e w6 ⟨rfl, hE6, hb6⟩
              have HF := run.hid (And.intro hE6 (And.intro (HE5.out.2.1.trans (hb6.mono hwB)) (Nat.le_trans HE5.out.2.2 hb6.size)))
              clear HU HE5 hE6 hb6
              go_wp2
              go_roundw
              case rel => exact ⟨i + 1, s3, by omega, by go_num, HF.out.1, HOK3, HF.out.2.1, HF.out.2.2⟩
              case measure => simp [intOf]; omega
            · have hq3 : ((qd == 3) : Bool) = false := by simp [h3]
              clear HU
              go_wp2
              go_roundw
              case rel => exact ⟨i + 1, s2, by omega, by go_num, HE5.out.1, HOK2, HE5.out.2.1, HE5.out.2.2⟩
              case measure => simp [intOf]; omega
          · have HF := run.hid (And.intro hE (And.intro hbel hBw))
            clear hE hbel HS1
            go_wp2
            go_meet
            exact ⟨s, HF.out.1, HOK, HF.out.2.1, HF.out.2.2⟩
      case rest =>
        obtain ⟨s0, hE0, HOK1, hbel0, hBw0⟩ := hcut
        have HE0 := run.hid (And.intro hE0 (And.intro hbel0 hBw0))
        have HTX := run.hid (text_l hE0 HOK1.out)
        clear hE0 hbel0 hBw0 HE4 HOK0 HS1
        generalize wc = wa at *
        go_wp2_with fail
        refine HTX.out.mono ?_
        rintro e w5 ⟨rfl, hb5⟩
        have hE5 := HE0.out.1.below hb5
        have HE5 := run.hid (And.intro hE5 (And.intro (HE0.out.2.1.trans (hb5.mono HE0.out.2.1.size)) (Nat.le_trans HE0.out.2.2 hb5.size)))
        have HCR := run.hid (caret_l hE5)
        clear HTX HE0 hb5 hE5
        go_wp2_with fail
        refine HCR.out.mono ?_
        rintro e w6 ⟨rfl, hb6⟩
        have HE6 := run.hid (And.intro (HE5.out.1.below hb6) (And.intro (HE5.out.2.1.trans (hb6.mono HE5.out.2.1.size)) (Nat.le_trans HE5.out.2.2 hb6.size)))
        clear HCR HE5 hb6
        obtain ⟨F0, hF0⟩ : ∃ F0, F0 = s0.F := ⟨_, rfl⟩
        obtain ⟨ca0, hca0⟩ : ∃ ca0, ca0 = s0.ca := ⟨_, rfl⟩
        have HSI := run.hid (show Since F0 ca0 0 s0 from .inl ⟨rfl, hF0.symm⟩)
        rw [← hF0, ← hca0]
        clear hF0 hca0
        go_upto_block 2 with fail
        go_cut [10, 11] (fun p q wx => ∃ (s : Sta) (ca n : Nat), p = .int .i64 ca ∧ q = .int .i64 n ∧ n ≤ 256 ∧ Hid (Since F0 ca n s) ∧ EdL B b s wx ∧ Hid (EdOk s) ∧ Below w.heap.size w wx ∧ B ≤ wx.heap.size)
        case first =>
          go_wp2
          go_loopw [10, 11, 12] (fun vc vn vi wr => ∃ (i : Nat) (s : Sta) (ca n : Nat), i ≤ N2 ∧ vi = .int .i64 i ∧ vc = .int .i64 ca ∧ vn = .int .i64 n ∧ n ≤ 256 ∧ Hid (Since F0 ca n s) ∧ EdL B b s wr ∧ Hid (EdOk s) ∧ Below w.heap.size w wr ∧ B ≤ wr.heap.size) (fun _ _ vi _ => ((N2 : Int) - intOf vi).toNat)
          case atStart => exact ⟨0, _, _, 0, Nat.zero_le _, rfl, rfl, rfl, Nat.zero_le _, HSI, HE6.out.1, HOK1, HE6.out.2.1, HE6.out.2.2⟩
          case round =>
            obtain ⟨i, s, ca, n, hi, rfl, rfl, rfl, hn, HSC, hE, HOK, hbel, hBw⟩ := hrel
            clear HE6 HOK1 HSI
            by_cases hlt : i < N2 ∧ n < 256
            · obtain ⟨hlt, hn2⟩ := hlt
              have HB := run.hid (And.intro hE (And.intro hbel hBw))
              have HCR := run.hid (caret_l hE)
              clear hE hbel hBw
              go_wp2_with fail
              refine HCR.out.mono ?_
              rintro e w7 ⟨rfl, hb7⟩
              have hE7 := HB.out.1.below hb7
              have hb07 := HB.out.2.1.trans (hb7.mono HB.out.2.1.size)
              have hBw7 := Nat.le_trans HB.out.2.2 hb7.size
              obtain ⟨sb, so, rfl, hsb, ⟨c0, c1, c2, c3, c4⟩, hts⟩ := HS2.out w7 hb07 i hlt
              have HP := run.hid (play_l hE7 HOK.out hBw7 (SL2.getD i sv0) hts)
              have hdid := play_did s (SL2.getD i sv0)
              have hokp := ok_play HOK.out (SL2.getD i sv0)
              have HB7 := run.hid (And.intro hb07 hBw7)
              clear HCR HB hb7 hE7 hb07 hBw7 HS2
              obtain ⟨q, hq⟩ : ∃ q, SL2.getD i sv0 = q := ⟨_, rfl⟩
              rw [hq] at c0 c1 c2 c3 c4 HP hdid hokp
              clear hq hts
              generalize playT s q = ps at *
              obtain ⟨qd, qw, qn, qm, qt⟩ := q
              dsimp only at c0 c1 c2 c3 c4
              dsimp only [SV.cells] at HP
              obtain ⟨did, s2⟩ := ps
              dsimp only at HP hokp hdid
              have HOK2 := run.hid hokp
              obtain ⟨sca, hsca⟩ : ∃ c, c = s.ca := ⟨_, rfl⟩
              rw [← hsca]
              rcases hdid with ⟨rfl, hd⟩ | ⟨rfl, hd⟩
              · have hs2 := since_did HSC.out HOK.out hn2 hd
                rw [← hsca] at hs2
                clear hsca hokp hd
                go_wp2_with fail
                refine HP.out.mono ?_
                rintro e w8 ⟨rfl, hE8, hb8⟩
                have HF := run.hid (And.intro hE8 (And.intro (HB7.out.1.trans (hb8.mono hwB)) (Nat.le_trans HB7.out.2 hb8.size)))
                clear HP HB7 hE8 hb8 c0 c1 c2 c3 c4
                by_cases hn0 : n = 0
                · subst hn0
                  rw [if_pos rfl] at hs2
                  have HS3 := run.hid hs2
                  clear hs2
                  go_wp2
                  go_roundw
                  case rel => exact ⟨i + 1, s2, sca, 1, by omega, by go_num, rfl, rfl, by omega, HS3, HF.out.1, HOK2, HF.out.2.1, HF.out.2.2⟩
                  case measure => simp [intOf]; omega
                · rw [if_neg hn0] at hs2
                  have HS3 := run.hid hs2
                  have hq0 : ((n : Int) == 0) = false := by simp only [beq_eq_false_iff_ne, ne_eq]; omega
                  clear hs2
                  go_wp2
                  go_roundw
                  case rel => exact ⟨i + 1, s2, ca, n + 1, by omega, by go_num, rfl, by go_num, by omega, HS3, HF.out.1, HOK2, HF.out.2.1, HF.out.2.2⟩
                  case measure => simp [intOf]; omega
              · have HS3 := run.hid (since_idle HSC.out hd)
                clear hsca hokp hd
                go_wp2_with fail
                refine HP.out.mono ?_
                rintro e w8 ⟨rfl, hE8, hb8⟩
                have HF := run.hid (And.intro hE8 (And.intro (HB7.out.1.trans (hb8.mono hwB)) (Nat.le_trans HB7.out.2 hb8.size)))
                clear HP HB7 hE8 hb8 c0 c1 c2 c3 c4
                go_wp2
                go_roundw
                case rel => exact ⟨i + 1, s2, ca, n, by omega, by go_num, rfl, rfl, hn, HS3, HF.out.1, HOK2, HF.out.2.1, HF.out.2.2⟩
                case measure => simp [intOf]; omega
            · have HF := run.hid (And.intro hE (And.intro hbel hBw))
              clear hE hbel HS2
              by_cases hl2 : i < N2
              · have hn2 : ¬ n < 256 := fun h => hlt ⟨hl2, h⟩
                clear hlt
                go_wp2
                go_meet
                exact ⟨s, ca, n, rfl, rfl, hn, HSC, HF.out.1, HOK, HF.out.2.1, HF.out.2.2⟩
              · clear hlt
                go_wp2
                go_meet
                exact ⟨s, ca, n, rfl, rfl, hn, HSC, HF.out.1, HOK, HF.out.2.1, HF.out.2.2⟩
        case rest =>
          obtain ⟨s, ca, n, rfl, rfl, hn, HSC, hE1, HOK, hbel1, hBw1⟩ := hcut
          have HTX := run.hid (text_l hE1 HOK.out)
          have HE7 := run.hid (And.intro hE1 (And.intro hbel1 hBw1))
          clear hE1 hbel1 hBw1 HE6 HOK1 HSI HS2
          generalize wc = wb at *
          go_wp2_with fail
          refine HTX.out.mono ?_
          rintro e w7 ⟨rfl, hb7⟩
          have HE8 := run.hid (And.intro (HE7.out.1.below hb7) (And.intro (HE7.out.2.1.trans (hb7.mono HE7.out.2.1.size)) (Nat.le_trans HE7.out.2.2 hb7.size)))
          clear HTX HE7 hb7
          by_cases hn0 : n = 0
          · subst hn0
            have hF : s.F = F0 := by
              rcases HSC.out with ⟨-, h⟩ | ⟨h, -⟩
              · exact h
              · omega
            rw [hF]
            have HF := run.hid HE8.out.2.1
            clear HE8 HSC hF
            generalize textB F0 = T0 at *
            go_wp2
            go_ret
            exact ⟨rfl, HF.out⟩
          · have hq0 : ((n : Int) == 0) = false := by simp only [beq_eq_false_iff_ne, ne_eq]; omega
            obtain ⟨u1, u2, u3, r1, r2, r3⟩ := back_again HOK.out HSC.out (by omega)
            have HU1 := run.hid (And.intro u1 (And.intro u2 u3))
            have HR1 := run.hid (And.intro r1 (And.intro r2 r3))
            have HOKU := run.hid (fun k => ok_undos HOK.out k)
            have HOKR := run.hid (fun k => ok_redos (HOKU.out n) k)
            have HUS := run.hid (show undosT 0 s = s ∧ (∀ k, undosT (k + 1) s = (undoT (undosT k s)).2) from ⟨rfl, fun _ => rfl⟩)
            clear u1 u2 u3 r1 r2 r3 HSC
            go_upto_block 4 with fail
            go_cut [16] (fun p wx => EdL B b (undosT n s) wx ∧ Below w.heap.size w wx ∧ B ≤ wx.heap.size)
            case first =>
              clear HR1 HOKR
              go_wp2
              go_loopw [16] (fun vk wr => ∃ k : Nat, k ≤ n ∧ vk = .int .i64 k ∧ EdL B b (undosT k s) wr ∧ Below w.heap.size w wr ∧ B ≤ wr.heap.size) (fun vk _ => ((n : Int) - intOf vk).toNat)
              case atStart => exact ⟨0, Nat.zero_le _, rfl, by rw [HUS.out.1]; exact HE8.out.1, HE8.out.2.1, HE8.out.2.2⟩
              case round =>
                obtain ⟨k, hk, rfl, hE, hbel, hBw⟩ := hrel
                clear HE8
                by_cases hlt : k < n
                · have hu := undo_l hE (HOKU.out k) hBw
                  rw [HU1.out.1 k hlt, ← HUS.out.2] at hu
                  have HU := run.hid hu
                  have HB := run.hid (And.intro hbel hBw)
                  clear hu hE hbel hBw HU1 HUS HOKU
                  go_wp2_with fail
                  refine HU.out.mono ?_
                  rintro e w9 ⟨rfl, hE9, hb9⟩
                  have HF := run.hid (And.intro hE9 (And.intro (HB.out.1.trans (hb9.mono hwB)) (Nat.le_trans HB.out.2 hb9.size)))
                  clear HU HB hE9 hb9
                  go_wp2
                  go_roundw
                  case rel => exact ⟨k + 1, by omega, by go_num, HF.out.1, HF.out.2.1, HF.out.2.2⟩
                  case measure => simp [intOf]; omega
                · obtain rfl : k = n := by omega
                  have HF := run.hid (And.intro hE (And.intro hbel hBw))
                  clear hE hbel hBw HU1 HUS HOKU
                  go_wp2
                  go_meet
                  exact HF.out
            case rest =>
              obtain ⟨hE, hbel, hBw⟩ := hcut
              have HTX := run.hid (text_l hE (HOKU.out n))
              have HE9 := run.hid (And.intro hE (And.intro hbel hBw))
              have HRS := run.hid (show redosT 0 (undosT n s) = undosT n s ∧ (∀ k, redosT (k + 1) (undosT n s) = (redoT (redosT k (undosT n s))).2) from ⟨rfl, fun _ => rfl⟩)
              have hu2 := HU1.out.2
              clear hE hbel hBw HE8 HUS HU1
              generalize undosT n s = su at *
              generalize wc = wd at *
              go_wp2_with fail
              refine HTX.out.mono ?_
              rintro e w9 ⟨rfl, hb9⟩
              have hE9 := HE9.out.1.below hb9
              have HE10 := run.hid (And.intro hE9 (And.intro (HE9.out.2.1.trans (hb9.mono HE9.out.2.1.size)) (Nat.le_trans HE9.out.2.2 hb9.size)))
              have HCR := run.hid (caret_l hE9)
              clear HTX HE9 hb9 hE9
              go_wp2_with fail
              refine HCR.out.mono ?_
              rintro e w10 ⟨rfl, hb10⟩
              have HE11 := run.hid (And.intro (HE10.out.1.below hb10) (And.intro (HE10.out.2.1.trans (hb10.mono HE10.out.2.1.size)) (Nat.le_trans HE10.out.2.2 hb10.size)))
              clear HCR HE10 hb10
              try rw [hu2.1]
              try rw [hu2.2]
              clear hu2
              go_upto_block 6 with fail
              go_cut [19] (fun p wx => EdL B b (redosT n su) wx ∧ Below w.heap.size w wx ∧ B ≤ wx.heap.size)
              case first =>
                go_wp2
                go_loopw [19] (fun vk wr => ∃ k : Nat, k ≤ n ∧ vk = .int .i64 k ∧ EdL B b (redosT k su) wr ∧ Below w.heap.size w wr ∧ B ≤ wr.heap.size) (fun vk _ => ((n : Int) - intOf vk).toNat)
                case atStart => exact ⟨0, Nat.zero_le _, rfl, by rw [HRS.out.1]; exact HE11.out.1, HE11.out.2.1, HE11.out.2.2⟩
                case round =>
                  obtain ⟨k, hk, rfl, hE, hbel, hBw⟩ := hrel
                  clear HE11
                  by_cases hlt : k < n
                  · have hu := redo_l hE (HOKR.out k) hBw
                    rw [HR1.out.1 k hlt, ← HRS.out.2] at hu
                    have HU := run.hid hu
                    have HB := run.hid (And.intro hbel hBw)
                    clear hu hE hbel hBw HR1 HRS HOKR
                    go_wp2_with fail
                    refine HU.out.mono ?_
                    rintro e w12 ⟨rfl, hE12, hb12⟩
                    have HF := run.hid (And.intro hE12 (And.intro (HB.out.1.trans (hb12.mono hwB)) (Nat.le_trans HB.out.2 hb12.size)))
                    clear HU HB hE12 hb12
                    go_wp2
                    go_roundw
                    case rel => exact ⟨k + 1, by omega, by go_num, HF.out.1, HF.out.2.1, HF.out.2.2⟩
                    case measure => simp [intOf]; omega
                  · obtain rfl : k = n := by omega
                    have HF := run.hid (And.intro hE (And.intro hbel hBw))
                    clear hE hbel hBw HR1 HRS HOKR
                    go_wp2
                    go_meet
                    exact HF.out
              case rest =>
                obtain ⟨hE, hbel, hBw⟩ := hcut
                have hr2 := HR1.out.2
                have hok := HOKR.out n
                clear HR1 HRS HOKR HOKU HE11 HOK
                generalize redosT n su = sr at *
                have HTX := run.hid (text_l hE hok)
                have HRR := run.hid (fun (X : World) (hX : Below wc.heap.size wc X) => redo_l (hE.below hX) hok (Nat.le_trans hBw hX.size))
                rw [hr2.2] at HRR
                rw [hr2.1] at HTX
                have HB := run.hid (And.intro hbel hBw)
                clear hE hbel hBw hr2 hok
                generalize textB F0 = T0 at *
                generalize textB s.F = T1 at *
                go_wp2_with fail
                refine HTX.out.mono ?_
                rintro e w12 ⟨rfl, hb12⟩
                have HRX := run.hid (HRR.out w12 hb12)
                have HB12 := run.hid (HB.out.1.trans (hb12.mono HB.out.1.size))
                clear HTX HRR HB hb12
                go_wp2_with fail
                refine HRX.out.mono ?_
                rintro e w13 ⟨rfl, -, hb13⟩
                have HF := run.hid (HB12.out.trans (hb13.mono hwB))
                clear HRX HB12 hb13
                go_wp2
                go_ret
                exact ⟨rfl, HF.out⟩
end Go.Proofs.Ytgfjaegjkklcpaa.ed
