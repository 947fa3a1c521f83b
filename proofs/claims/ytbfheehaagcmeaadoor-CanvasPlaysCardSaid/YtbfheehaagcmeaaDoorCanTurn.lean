/-
  The walks of the layer canvas: points turned.
-/
import Derived.Test.YtbfheehaagcmeaaDoorFloNan
namespace Go.Proofs.YtbfheehaagcmeaaDoor.can
open Go.RowKit Go.Proofs Go.Proofs.YtbfheehaagcmeaaDoor.flo
set_option linter.unusedVariables false

theorem o3a : arith3 .add := .inl rfl
theorem o3s : arith3 .sub := .inr (.inl rfl)
theorem o3m : arith3 .mul := .inr (.inr rfl)
/-- the product's two parts -/
def timesT (a b c d : Option Nat) : Option Nat × Option Nat := (oop .sub (oop .mul a c) (oop .mul b d), oop .add (oop .mul a d) (oop .mul b c))

set_option maxHeartbeats 4000000 in
theorem times_any (a b c d : Nat) (w : World) :
    Calls Tryd.prog 38 #[.complex .f64 a b, .complex .f64 c d] w fun e w' => ∃ x y, e = .returned (.complex .f64 x y) ∧ (num x, num y) = timesT (num a) (num b) (num c) (num d) ∧ x < 18446744073709551616 ∧ y < 18446744073709551616 ∧ ∃ n, w' = w.drewN n := by
  go_enter Tryd.func38, Tryd.ntmps38
  go_wp2
  obtain ⟨r1, n1, h1, g1, b1⟩ := bin_fop (P := Tryd.prog) o3m 45 a c w
  rw [h1]
  clear h1
  go_wp2
  obtain ⟨r2, n2, h2, g2, b2⟩ := bin_fop (P := Tryd.prog) o3m 45 b d (w.drewN n1)
  rw [h2]
  clear h2
  go_wp2
  obtain ⟨r3, n3, h3, g3, b3⟩ := bin_fop (P := Tryd.prog) o3s 45 r1 r2 (w.drewN (n1 + n2))
  rw [h3]
  clear h3
  go_wp2
  obtain ⟨r4, n4, h4, g4, b4⟩ := bin_fop (P := Tryd.prog) o3m 45 a d (w.drewN (n1 + n2 + n3))
  rw [h4]
  clear h4
  go_wp2
  obtain ⟨r5, n5, h5, g5, b5⟩ := bin_fop (P := Tryd.prog) o3m 45 b c (w.drewN (n1 + n2 + n3 + n4))
  rw [h5]
  clear h5
  go_wp2
  obtain ⟨r6, n6, h6, g6, b6⟩ := bin_fop (P := Tryd.prog) o3a 45 r4 r5 (w.drewN (n1 + n2 + n3 + n4 + n5))
  rw [h6]
  clear h6
  go_wp2
  go_ret
  refine ⟨r3, r6, rfl, ?_, b3, b6, _, rfl⟩
  unfold timesT
  rw [g3, g6, g1, g2, g4, g5]

abbrev C (p : Nat × Nat) : Value := .complex .f64 p.1 p.2
def num2 (p : Nat × Nat) : Option Nat × Option Nat := (num p.1, num p.2)
abbrev OO := Option Nat × Option Nat
def plusT (op : BinOp) (a b : OO) : OO := (oop op a.1 b.1, oop op a.2 b.2)
/-- a point turned -/
def turnT (at_ by_ p : OO) : OO := plusT .add at_ (timesT (plusT .sub p at_).1 (plusT .sub p at_).2 by_.1 by_.2)
def Fits2 (l : List (Nat × Nat)) : Prop := ∀ p ∈ l, p.1 < 18446744073709551616 ∧ p.2 < 18446744073709551616
theorem info_c128 : (Tryd.prog.info? 44).map (fun i => (i.zero, i.size, i.bytes)) = some (some (.complex .f64 0 0), 1, 16) := by kernel_rfl

theorem readsC {w : World} {a : Option Addr} {cap : Nat} {l : List (Nat × Nat)} (h : run.Reads w (.slice a l.length cap) (l.map C)) {k : Nat} (hk : k < l.length) : ∃ b off, a = some ⟨b, off, none⟩ ∧ b < w.heap.size ∧ ∀ k, k < l.length → w.cell? ⟨b, off + k, none⟩ = some (C (l.getD k (0, 0))) := by
  obtain ⟨a0, c0, he, hc, hn⟩ := h
  simp only [Value.slice.injEq] at he
  obtain ⟨rfl, -, rfl⟩ := he
  obtain ⟨b, off, e, hb, hcl⟩ := hc (by intro e; have := congrArg List.length e; simp at this; rw [this] at hk; simp at hk)
  refine ⟨b, off, e, hb, fun k hk => hcl k _ ?_⟩
  rw [List.getElem?_map, List.getElem?_eq_getElem hk]
  simp [List.getD_eq_getElem?_getD, hk]

theorem turn_next {w : World} {r n k : Nat} {ps : List (Nat × Nat)} (hp : ps.length = k) (h : w.rowIs r 44 n fun i => C (ps.getD i (0, 0))) (p : Nat × Nat) :
    (w.setCell ⟨r, k, none⟩ (C p)).rowIs r 44 n fun i => C ((ps ++ [p]).getD i (0, 0)) :=
  (h.set k _).congr fun j _ => by
    by_cases e : j = k
    · subst e; rw [if_pos rfl]; subst hp; simp [List.getD_eq_getElem?_getD]
    · rw [if_neg e]
      rcases Nat.lt_or_ge j k with h1 | h1
      · simp [List.getD_eq_getElem?_getD, List.getElem?_append_left (by omega : j < ps.length)]
      · rw [List.getD_eq_getElem?_getD, List.getD_eq_getElem?_getD, List.getElem?_eq_none (by omega), List.getElem?_eq_none (by simp; omega)]

set_option maxRecDepth 100000 in
set_option maxHeartbeats 4000000 in
/-- POINTS TURNED. -/
theorem turn_any (l : List (Nat × Nat)) (a : Option Addr) (cap : Nat) (at_ by_ : Nat × Nat) (w : World) (hR : run.Reads w (.slice a l.length cap) (l.map C)) (hlen : l.length * 16 ≤ 140737488355328) :
    Calls Tryd.prog 13 #[.slice a l.length cap, C at_, C by_] w fun e w' => ∃ v ps, e = .returned v ∧ w'.ownsRow w.heap.size 44 1 v l.length (ps.map C) ∧ ps.map num2 = l.map (fun p => turnT (num2 at_) (num2 by_) (num2 p)) ∧ Fits2 ps ∧ Below w.heap.size w w' := by
  obtain ⟨N, hN⟩ : ∃ N, N = l.length := ⟨_, rfl⟩
  have HRT := run.hid hR
  rw [← hN] at HRT hlen ⊢
  have hmk := run_make_row' (P := Tryd.prog) 41 44 (.complex .f64 0 0) 16 Tryd.underlying41 info_c128 rfl .i64 .i64 N (by omega) (by omega) w
  have HR := run.hid (World.rowIs_made w (.complex .f64 0 0) N 44)
  have HB := run.hid (run.below_one w (.cells (madeCells #[.complex .f64 0 0] N) 44))
  have HRR := run.hid (fun w' (hb : Below w.heap.size w w') => (HRT.out.below hb))
  have HN := run.hid hN
  have hNl : N ≤ 281474976710656 := by omega
  have HLEN := run.hid hlen
  clear hN hR hlen HRT
  obtain ⟨a1, a2⟩ := at_
  obtain ⟨b1, b2⟩ := by_
  go_enter Tryd.func13, Tryd.ntmps13
  go_wp2
  clear hmk
  generalize w.alloc (.cells (madeCells #[.complex .f64 0 0] N) 44) = w1 at *
  generalize hr : w.heap.size = r at *
  go_loopw [15] (fun v wr => ∃ k : Nat, k ≤ N ∧ v = .int .i64 k ∧ ∃ ps : List (Nat × Nat), Hid (ps.length = k) ∧ Hid (wr.rowIs r 44 N fun i => C (ps.getD i (0, 0))) ∧ Hid (ps.map num2 = (l.take k).map fun p => turnT (num2 (a1, a2)) (num2 (b1, b2)) (num2 p)) ∧ Hid (Fits2 ps) ∧ Hid (Below r w wr)) (fun v _ => N - (intOf v).toNat)
  case atStart => exact ⟨0, Nat.zero_le _, rfl, [], rfl, HR.out.congr (fun j _ => rfl), rfl, (fun p h => by cases h), HB⟩
  case round =>
    obtain ⟨k, hk, rfl, ps, HPS, HRr, HM, HF, HBr⟩ := hrel
    by_cases hlt : k < N
    · have hRx := HRR.out _ HBr.out
      rw [HN.out] at hRx
      obtain ⟨b, off, rfl, hb, hcl⟩ := readsC hRx (by rw [← HN.out]; exact hlt)
      have hc := hcl k (by rw [← HN.out]; exact hlt)
      obtain ⟨⟨p1, p2⟩, hp⟩ : ∃ p, p = l.getD k (0, 0) := ⟨_, rfl⟩
      rw [← hp] at hc
      have HT := run.hid (show l.take (k + 1) = l.take k ++ [(p1, p2)] by
        have h1 : k < l.length := by rw [← HN.out]; exact hlt
        rw [List.take_succ_eq_append_getElem h1, hp]
        congr 2
        simp [List.getD_eq_getElem?_getD, h1])
      clear hcl hRx hp hb
      have hx : w.heap.size = r := hr
      go_wp2
      obtain ⟨d1, d2, n1, h1, g1, g2, f1, f2⟩ := bin_csum (P := Tryd.prog) (.inr rfl) 44 p1 p2 a1 a2 wr
      rw [h1]
      clear h1
      have HB1 := run.hid (HBr.out.trans (drewN_below r wr n1))
      have HR1 := run.hid (HRr.out.of_block (w' := wr.drewN n1) rfl)
      generalize wr.drewN n1 = w2 at *
      go_wp2_with fail
      refine (times_any d1 d2 b1 b2 w2).mono ?_
      rintro e w3 ⟨m1, m2, rfl, hm, f3, f4, n2, rfl⟩
      go_wp2
      obtain ⟨q1, q2, n3, h1, g3, g4, f5, f6⟩ := bin_csum (P := Tryd.prog) (.inl rfl) 44 a1 a2 m1 m2 (w2.drewN n2)
      rw [h1]
      clear h1
      rw [World.drewN_drewN]
      have HB2 := run.hid (HB1.out.trans (drewN_below r w2 (n2 + n3)))
      have HR2 := run.hid (HR1.out.of_block (w' := w2.drewN (n2 + n3)) rfl)
      generalize w2.drewN (n2 + n3) = w4 at *
      have hcl4 := HR2.out.cell hlt
      have hfz := HR2.out.frozen k
      have HR3 := run.hid (turn_next HPS.out HR2.out (q1, q2))
      have HB3 := run.hid (HB2.out.setCell (p := ⟨r, k, none⟩) (Nat.le_refl _) (C (q1, q2)))
      have HM3 : Hid ((ps ++ [(q1, q2)]).map num2 = (l.take (k + 1)).map fun p => turnT (num2 (a1, a2)) (num2 (b1, b2)) (num2 p)) := by
        show _ = _
        rw [HT.out, List.map_append, List.map_append, HM.out]
        congr 1
        simp only [List.map_cons, List.map_nil]
        congr 1
        have h1 := congrArg Prod.fst hm
        have h2 := congrArg Prod.snd hm
        simp only at h1 h2
        unfold turnT plusT num2
        simp only
        rw [g3, g4, h1, h2, g1, g2]
      have HF3 : Hid (Fits2 (ps ++ [(q1, q2)])) := by
        intro p hp
        rcases List.mem_append.1 hp with h | h
        · exact HF.out p h
        · obtain rfl := List.mem_singleton.1 h
          exact ⟨f5, f6⟩
      have HPS3 : Hid ((ps ++ [(q1, q2)]).length = k + 1) := by show _ = _; rw [List.length_append, HPS.out]; rfl
      clear HM HF HT HPS HR1 HR2 HB1 HB2 HBr HRr hm g1 g2 g3 g4 f1 f2 f3 f4 f5 f6
      have hst := fun m => run_store Tryd.prog w4 ⟨r, k, none⟩ (.complex .f64 q1 q2) m rfl
      go_wp2
      go_roundw
      case rel => exact ⟨k + 1, by omega, by go_num, ps ++ [(q1, q2)], HPS3, HR3, HM3, HF3, HB3⟩
      case measure => simp [intOf]; omega
    · obtain rfl : k = N := by omega
      have HO := run.hid (own_of_rowIs HRr.out (Nat.le_refl r) (by rw [show maxLen = 9223372036854775807 from rfl]; have := HLEN.out; omega))
      go_wp2
      go_ret
      subst hr
      refine ⟨_, ps, rfl, ?_, ?_, HF.out, HBr.out⟩
      · have h1 := HO.out
        have h2 : (List.range k).map (fun i => C (ps.getD i (0, 0))) = ps.map C := by
          have h3 := HPS.out
          apply List.ext_getElem?
          intro i
          rcases Nat.lt_or_ge i k with hi | hi
          · simp [List.getD_eq_getElem?_getD, hi, List.getElem?_eq_getElem (show i < ps.length by omega)]
          · rw [List.getElem?_eq_none (by simp; omega), List.getElem?_eq_none (by simp; omega)]
        rw [h2] at h1
        exact h1
      · have := HM.out
        rw [List.take_of_length_le (by rw [← HN.out]; exact Nat.le_refl _)] at this
        exact this
end Go.Proofs.YtbfheehaagcmeaaDoor.can
