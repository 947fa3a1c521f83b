/-
  The walk of the law CanvasTurn.
-/
import Derived.Test.YtghbpbaopcibkaaDoorCanAlike
import Derived.Test.YtghbpbaopcibkaaDoorCanAlive
import Derived.Test.YtghbpbaopcibkaaDoorRack
import Derived.Test.YtghbpbaopcibkaaDoorAlone
import Derived.Deep.RegionHeld3
namespace Go.Proofs.YtghbpbaopcibkaaDoor.can
open Go.RowKit Go.Proofs Go.Proofs.YtghbpbaopcibkaaDoor.flo
set_option linter.unusedVariables false

theorem own_emptyC {W : World} {B X : Nat} (h : W.heap[X]? = some (.cells #[] 39 (0, 0))) (hB : B ≤ X) : W.ownsRow B 39 1 (.slice (some ⟨X, 0, none⟩) 0 0) 0 [] :=
  ⟨rfl, .inr ⟨X, 0, #[], rfl, hB, h, Nat.le_refl _, by unfold maxLen; omega, rfl, rfl⟩⟩

theorem own_room {w : World} {B e sz n cap g : Nat} {xs : List Value} (h : w.ownsRow B e sz (.slice (some ⟨g, 0, none⟩) n cap) n xs) : n ≤ cap ∧ cap ≤ 9223372036854775807 := by
  rcases h.2 with ⟨h0, -⟩ | ⟨g', cap', cur, h0, -, -, h1, h2, -⟩
  · simp at h0
  · simp only [Value.slice.injEq] at h0
    obtain ⟨-, -, rfl⟩ := h0
    exact ⟨h1, h2⟩

theorem apart_base {w w' : World} {B B' e e' sz sz' n n' : Nat} {v v' : Value} {xs xs' : List Value} (h : w.ownsRow B e sz v n xs) (h' : w'.ownsRow B' e' sz' v' n' xs') (hs : w.heap.size ≤ B') : ∀ k, v'.ownBlock = some k → v.ownBlock ≠ some k := by
  intro k h1 h2
  have a1 := (h.lt k h2).2
  have a2 := (h'.lt k h1).1
  omega
theorem alike_at {p q : List (Nat × Nat)} (h : p.map num2 = q.map num2) (k : Nat) : alikeC (p.getD k (0, 0)) (q.getD k (0, 0)) = true := by
  refine alikeC_of ?_
  have h1 := congrArg (fun l => l[k]?) h
  simp only [List.getElem?_map] at h1
  simp only [List.getD_eq_getElem?_getD]
  cases hp : p[k]? with
  | none => cases hq : q[k]? with
    | none => rfl
    | some y => rw [hp, hq] at h1; cases h1
  | some x => cases hq : q[k]? with
    | none => rw [hp, hq] at h1; cases h1
    | some y => rw [hp, hq] at h1; exact Option.some.inj h1

theorem mark_at {pa : List (Nat × Nat)} {k j : Nat} (hl : pa.length = k) (hj : j < k) : (List.replicate j (C nine) ++ (pa.drop j).map C)[j]? = some (C (pa.getD j (0, 0))) := by
  rw [List.getElem?_append_right (by simp)]
  simp [List.getD_eq_getElem?_getD, List.getElem?_eq_getElem (show j < pa.length by omega)]
theorem map_at {pa : List (Nat × Nat)} {k j : Nat} (hl : pa.length = k) (hj : j < k) : (pa.map C)[j]? = some (C (pa.getD j (0, 0))) := by
  simp [List.getD_eq_getElem?_getD, List.getElem?_eq_getElem (show j < pa.length by omega)]
theorem mark_set {pa : List (Nat × Nat)} {k j : Nat} (hl : pa.length = k) (hj : j < k) : (List.replicate j (C nine) ++ (pa.drop j).map C).set j (C nine) = List.replicate (j + 1) (C nine) ++ (pa.drop (j + 1)).map C := by
  rw [List.set_append, List.length_replicate, if_neg (Nat.lt_irrefl j), Nat.sub_self]
  rw [List.drop_eq_getElem_cons (show j < pa.length by omega), List.map_cons, List.set_cons_zero, List.replicate_succ', List.append_assoc]
  rfl

theorem reps_at {x : Value} {n j : Nat} (hj : j < n) : (List.replicate n x)[j]? = some x := by simp [hj]
theorem reps_at2 {x : Value} {n m j : Nat} (hj : j < n) : (List.replicate n x ++ List.replicate m x)[j]? = some x := by
  rw [List.getElem?_append_left (by simpa using hj)]; simp [hj]
theorem long_at {l : List (Nat × Nat)} {k j : Nat} (hl : l.length = k) (hj : j < k) : (l.map C ++ List.replicate 9 (C seven))[j]? = some (C (l.getD j (0, 0))) := by
  rw [List.getElem?_append_left (by simp; omega)]
  exact map_at hl hj
theorem long_at2 {l : List (Nat × Nat)} {k j : Nat} (hl : l.length = k) (hj : k ≤ j) (hj2 : j < k + 9) : (l.map C ++ List.replicate 9 (C seven))[j]? = some (C seven) := by
  rw [List.getElem?_append_right (by simp; omega)]
  rw [List.getElem?_replicate, if_pos (by simp; omega)]

theorem heldTurn {w4 w w' : World} {B : Nat} {x0 x1 y0 y1 : Value} (h : (w.cell? ⟨B, 0, none⟩ = some x0 ∧ w.cell? ⟨B, 1, none⟩ = some x1 ∧ w.cell? ⟨B + 1, 0, none⟩ = some y0 ∧ w.cell? ⟨B + 1, 1, none⟩ = some y1) ∧ Below w4.heap.size w4 w) (hb : Below w.heap.size w w') :
    (w'.cell? ⟨B, 0, none⟩ = some x0 ∧ w'.cell? ⟨B, 1, none⟩ = some x1 ∧ w'.cell? ⟨B + 1, 0, none⟩ = some y0 ∧ w'.cell? ⟨B + 1, 1, none⟩ = some y1) ∧ Below w4.heap.size w4 w' := by
  obtain ⟨⟨h1, h2, h3, h4⟩, h5⟩ := h
  exact ⟨⟨(hb.cell (run.lt_of_cell h1)).trans h1, (hb.cell (run.lt_of_cell h2)).trans h2, (hb.cell (run.lt_of_cell h3)).trans h3, (hb.cell (run.lt_of_cell h4)).trans h4⟩, h5.trans (hb.mono h5.size)⟩

set_option maxRecDepth 100000 in
set_option maxHeartbeats 8000000 in
theorem lawTurn_any (l : List (Nat × Nat)) (a : Option Addr) (cap : Nat) (at_ by_ : Nat × Nat) (w : World) (hR : run.ReadsN 2 w (.slice a l.length cap) l.length (cellsP l)) (hlen : l.length * 16 ≤ 140737488351232) (hD : Dots w) :
    Calls Tryd.prog 5 #[.slice a l.length cap, .agg #[F at_.1, F at_.2], .agg #[F by_.1, F by_.2]] w fun e w' => e = .returned (.bool true) ∧ Below w.heap.size w w' := by
  obtain ⟨i, hi, hz0, hz1, hz2⟩ := info_parts info_c128
  obtain ⟨N, hN⟩ : ∃ N, N = l.length := ⟨_, rfl⟩
  have HRR := run.hid (fun w' (hb : Below w.heap.size w w') => hR.below hb)
  have HP := run.hid (fun w' (hb : Below w.heap.size w w') => points_any l a cap w' (hR.below hb) (by omega))
  have HPL := run.hid (fun w' (hb : Below w.heap.size w w') => plain_any l a cap w' (hR.below hb) (by omega))
  rw [← hN] at HRR HP HPL hlen ⊢
  have HN := run.hid hN
  have hNl : N ≤ 8796093022208 := by omega
  have HLEN := run.hid hlen
  obtain ⟨a1, a2⟩ := at_
  obtain ⟨b1, b2⟩ := by_
  clear hN hR hlen
  go_enter Tryd.func5, Tryd.ntmps5
  go_wp2_with fail
  have hA0 : ((w.alloc (.cells #[F a1, F a2] 36)).alloc (.cells #[F b1, F b2] 36)).cell? ⟨w.heap.size, 0, none⟩ = some (F a1) := by simp
  have hA1 : ((w.alloc (.cells #[F a1, F a2] 36)).alloc (.cells #[F b1, F b2] 36)).cell? ⟨w.heap.size, 1, none⟩ = some (F a2) := by simp
  have hB0 : ((w.alloc (.cells #[F a1, F a2] 36)).alloc (.cells #[F b1, F b2] 36)).cell? ⟨w.heap.size + 1, 0, none⟩ = some (F b1) := by simp
  have hB1 : ((w.alloc (.cells #[F a1, F a2] 36)).alloc (.cells #[F b1, F b2] 36)).cell? ⟨w.heap.size + 1, 1, none⟩ = some (F b2) := by simp
  have hbl := run.below_two w (.cells #[F a1, F a2] 36) (.cells #[F b1, F b2] 36)
  have hsz : ((w.alloc (.cells #[F a1, F a2] 36)).alloc (.cells #[F b1, F b2] 36)).heap.size = w.heap.size + 2 := by simp
  generalize (w.alloc (.cells #[F a1, F a2] 36)).alloc (.cells #[F b1, F b2] 36) = w2 at *
  have HDw := run.hid hD
  have HD := run.hid (hD.below hbl hD.lt)
  have HDL := run.hid hD.lt
  generalize hB : w.heap.size = B at *
  have HA0 := run.hid hA0
  have HA1 := run.hid hA1
  have HB0 := run.hid hB0
  have HB1 := run.hid hB1
  have HBL := run.hid hbl
  clear hA0 hA1 hB0 hB1 hbl hD
  refine (HP.out _ HBL.out).mono ?_
  rintro e w3 ⟨vM, rfl, hM, hb3⟩
  have HM := run.hid hM
  have HB3 := run.hid hb3
  have hs3 := hb3.size
  clear hM hb3
  generalize hs3z : w3.heap.size = B3 at *
  go_wp2_with (at_builtin; refine run.wpList_append_any _ rfl _ _ 37 rfl B3 39 i (.complex .f64 0 0) 1 16 Tryd.underlying37 hi hz0 hz1 hz2 rfl (by decide) _ _ _ rfl (own_emptyC (by rw [← hs3z]; exact run.heap_new w3 (.cells #[] 39)) (Nat.le_refl _)) vM N (l.map C) rfl (run.readsN_own (HM.out.alloc (.cells #[] 39))) (by intro u hu; obtain ⟨p, -, rfl⟩ := List.mem_map.1 hu; rfl) (by unfold maxLen; omega) (by have := HLEN.out; omega) (by simp; omega) ?_)
  intro v' w6 hown6 hgrow hold hstep
  have HL : Hid (w6.ownsRow B3 39 1 v' (N + 0) (l.map C ++ List.replicate 0 (C seven))) := by
    show World.ownsRow _ _ _ _ _ _ _
    rw [List.replicate_zero, List.append_nil, Nat.add_zero]
    exact hown6
  have HB6 : Hid (Below B3 w3 w6) := by
    have h1 := (Below.refl B3 w3).alloc (Nat.le_of_eq hs3z.symm) (.cells #[] 39)
    exact run.below_append h1 (own_emptyC (by rw [← hs3z]; exact run.heap_new w3 (.cells #[] 39)) (Nat.le_refl _)) hgrow (by simp; omega)
  clear hown6 hgrow hold hstep
  have hs6 := HB6.out.size
  go_wp2
  go_loopw [8, 9] (fun v kv wr => ∃ k : Nat, k ≤ 9 ∧ kv = .int .i64 k ∧ Hid (wr.ownsRow B3 39 1 v (N + k) (l.map C ++ List.replicate k (C seven))) ∧ Hid (Below B3 w3 wr)) (fun _ v _ => 9 - (intOf v).toNat)
  case atStart => exact ⟨0, Nat.zero_le _, rfl, HL, HB6⟩
  case round =>
    obtain ⟨k, hk, rfl, HO, HBk⟩ := hrel
    have hsr := HBk.out.size
    by_cases hlt : k < 9
    · go_wp2_with (at_builtin; refine run.wpList_append_any _ rfl _ _ 37 rfl B3 39 i (.complex .f64 0 0) 1 16 Tryd.underlying37 hi hz0 hz1 hz2 rfl (by decide) _ _ _ rfl (HO.out.alloc _) _ 1 [C seven] rfl (run.readsN_new wr [C seven] 1 1 _ rfl) (by intro u hu; simp only [List.mem_singleton] at hu; subst hu; rfl) (by unfold maxLen; omega) (by have := HLEN.out; omega) (by simp; omega) ?_)
      intro v8 w8 hown8 hgrow hold hstep
      have HO8 : Hid (w8.ownsRow B3 39 1 v8 (N + (k + 1)) (l.map C ++ List.replicate (k + 1) (C seven))) := by
        show World.ownsRow _ _ _ _ _ _ _
        rw [List.replicate_succ']
        exact hown8
      have HB8 := run.hid (run.below_append (HBk.out.alloc (by omega) _) (HO.out.alloc (.cells #[C seven] 39)) hgrow (by simp; omega))
      clear hown8 hgrow hold hstep HO HBk
      go_wp2
      go_roundw
      case rel => exact ⟨k + 1, by omega, by go_num, HO8, HB8⟩
      case measure => simp [intOf]; omega
    · obtain rfl : k = 9 := by omega
      obtain ⟨gL, cL, rfl⟩ := own_some HO.out (by omega)
      have HROOM := own_room HO.out
      rw [show ((9 : Nat) : Int) = 9 from rfl]
      generalize wr = w4 at *
      have HX := run.hid (HB3.out.trans (HBk.out.mono (by omega)))
      have HM4 := run.hid (run.own_below HM.out (by rw [hs3z]; exact HBk.out))
      have hA0 := (HX.out.cell (p := ⟨B, 0, none⟩) (by simp; omega)).trans HA0.out
      have hA1 := (HX.out.cell (p := ⟨B, 1, none⟩) (by simp; omega)).trans HA1.out
      have hB0 := (HX.out.cell (p := ⟨B + 1, 0, none⟩) (by simp; omega)).trans HB0.out
      have hB1 := (HX.out.cell (p := ⟨B + 1, 1, none⟩) (by simp; omega)).trans HB1.out
      have HXX := run.hid (HBL.out.trans (HX.out.mono (by omega)))
      have hs4 := HXX.out.size
      have HPT := run.hid (fun w' (h : (w'.cell? ⟨B, 0, none⟩ = some (F a1) ∧ w'.cell? ⟨B, 1, none⟩ = some (F a2) ∧ w'.cell? ⟨B + 1, 0, none⟩ = some (F b1) ∧ w'.cell? ⟨B + 1, 1, none⟩ = some (F b2)) ∧ Below w4.heap.size w4 w') => HPL.out w' (HXX.out.trans (h.2.mono (by omega))))
      have HRT : Hid (∀ (v : Value) (w' : World), run.ReadsN 2 w' v N (cellsP l) → Calls Tryd.prog 20 #[v, .agg #[F a1, F a2], .agg #[F b1, F b2]] w' fun e w'' => ∃ u ps, e = .returned u ∧ w''.ownsRow w'.heap.size 44 2 u N (cellsP ps) ∧ ps.map num2 = l.map (fun p => turnT (num2 (a1, a2)) (num2 (b1, b2)) (num2 p)) ∧ Fits2 ps ∧ Below w'.heap.size w' w'') := by
        intro v w' h
        obtain ⟨hl, a0, c0, rfl, hh⟩ := h
        have := refTurn_any l a0 c0 (a1, a2) (b1, b2) w' ⟨cellsP_len l, a0, c0, rfl, hh⟩ (by have := HLEN.out; have := HN.out; omega)
        rw [← HN.out] at this
        exact this
      have HQ := run.hid (fun w' (h : (w'.cell? ⟨B, 0, none⟩ = some (F a1) ∧ w'.cell? ⟨B, 1, none⟩ = some (F a2) ∧ w'.cell? ⟨B + 1, 0, none⟩ = some (F b1) ∧ w'.cell? ⟨B + 1, 1, none⟩ = some (F b2)) ∧ Below w4.heap.size w4 w') => h.2.size)
      have HQ2 := run.hid (fun w' (h : (w'.cell? ⟨B, 0, none⟩ = some (F a1) ∧ w'.cell? ⟨B, 1, none⟩ = some (F a2) ∧ w'.cell? ⟨B + 1, 0, none⟩ = some (F b1) ∧ w'.cell? ⟨B + 1, 1, none⟩ = some (F b2)) ∧ Below w4.heap.size w4 w') => h.2)
      go_upto_region 10 with fail
      go_cut [13] (fun c wx => ∃ ps : List (Nat × Nat), wx.ownsRow w4.heap.size 44 2 c N (cellsP ps) ∧ Hid (ps.map num2 = l.map (fun p => turnT (num2 (a1, a2)) (num2 (b1, b2)) (num2 p))) ∧ Below w4.heap.size w4 wx)
      case first =>
        go_region_held3 (fun w' => (w'.cell? ⟨B, 0, none⟩ = some (F a1) ∧ w'.cell? ⟨B, 1, none⟩ = some (F a2) ∧ w'.cell? ⟨B + 1, 0, none⟩ = some (F b1) ∧ w'.cell? ⟨B + 1, 1, none⟩ = some (F b2)) ∧ Below w4.heap.size w4 w')
          (first
            | assumption
            | exact ⟨⟨hA0, hA1, hB0, hB1⟩, (Below.refl _ _).drew⟩
            | exact heldTurn (by assumption) hb1
            | exact heldTurn (by assumption) hb2
            | go_keep
            | (trace_state; fail))
          (first
            | (go_at_call 21; refine (HPT.out _ (by assumption)).mono ?_; rintro e w7 ⟨v7, rfl, hown7, hb1⟩)
            | (go_at_call 20; refine (HRT.out _ _ (run.readsN_own hown7)).mono ?_; rintro e w8 ⟨v8, ps, rfl, hown8, hps, -, hb2⟩))
        all_goals
          go_wp2
          go_meet
          case rel => exact ⟨ps, run.own_mono hown8 hb1.size, hps, HQ2.out _ (by assumption)⟩
      obtain ⟨ps, hT, hps, hbc⟩ := hcut
      have HT := run.hid hT
      have HBC := run.hid hbc
      have hsc := hbc.size
      have HM5 := run.hid (run.own_below HM4.out hbc)
      have HL5 := run.hid (run.own_below HO.out hbc)
      have hpl : ps.length = N := by have := congrArg List.length hps.out; rw [List.length_map, List.length_map] at this; rw [this, HN.out]
      have HPS := run.hid hpl
      have HPSS := hps
      clear hT hbc hpl HRT HPT HQ HQ2 hA0 hA1 hB0 hB1 HM4 HO HPL HP HA0 HA1 HB0 HB1
      generalize hsw : wc.heap.size = B5 at *
      obtain ⟨aT, cT, rfl⟩ := run.own_value HT.out
      go_wp2
      go_loopw [12, 14] (fun v kv wr => ∃ k : Nat, k ≤ N ∧ kv = .int .i64 k ∧ Hid (wr.ownsRow B5 39 1 v k ((ps.take k).map C)) ∧ Hid (Below B5 wc wr)) (fun _ v _ => N - (intOf v).toNat)
      case atStart => exact ⟨0, Nat.zero_le _, rfl, World.ownsRow_nil _ _ _ _, Below.refl _ _⟩
      case round =>
        obtain ⟨k, hk, rfl, HO, HBk2⟩ := hrel
        have hsz2 := HBk2.out.size
        by_cases hlt2 : k < N
        · have hRx := run.readsN_own (run.own_below HT.out (by rw [hsw]; exact HBk2.out))
          rw [← HPS.out] at hRx
          obtain ⟨b, off, rfl, hb, hcl⟩ := readsP hRx (by rw [HPS.out]; exact hlt2)
          obtain ⟨hc1, hc2⟩ := hcl k (by rw [HPS.out]; exact hlt2)
          obtain ⟨⟨p1, p2⟩, hp⟩ : ∃ p, p = ps.getD k (0, 0) := ⟨_, rfl⟩
          rw [← hp] at hc1 hc2
          have HTK := run.hid (show (ps.take (k + 1)).map C = (ps.take k).map C ++ [C (p1, p2)] by
            have h1 : k < ps.length := by rw [HPS.out]; exact hlt2
            rw [List.take_succ_eq_append_getElem h1, hp, List.map_append]
            congr 1
            simp [List.getD_eq_getElem?_getD, h1])
          clear hcl hRx hp
          simp only at hc1 hc2
          have hne1 : ¬ b = wr.heap.size := by omega
          have hne2 : ¬ wr.heap.size = b := by omega
          have HBS := run.hid hb
          clear hb
          go_wp2_with fail
          go_region_law (first | (refine step_append_any _ rfl _ _ 37 rfl B5 39 i (.complex .f64 0 0) 1 16 Tryd.underlying37 hi hz0 hz1 hz2 rfl (by decide) _ _ _ rfl (HO.out.drew.alloc _) _ 1 [.complex .f64 p1 p2] rfl (run.readsN_new wr.drew [.complex .f64 p1 p2] 1 1 _ rfl) (by intro u hu; simp only [List.mem_singleton] at hu; subst hu; rfl) (by unfold maxLen; omega) (by have := HLEN.out; omega) (by simp; omega) ?_; intro v8 w8 hown8 hgrow hold hstep))
          all_goals
            have HO8 : Hid (w8.ownsRow B5 39 1 v8 (k + 1) ((ps.take (k + 1)).map C)) := by show World.ownsRow _ _ _ _ _ _ _; rw [HTK.out]; exact hown8
            have HB8 := run.hid (run.below_append ((HBk2.out.trans (below_drew wr B5)).alloc (by simp; omega) _) (HO.out.drew.alloc _) hgrow (by simp; omega))
            clear hown8 hgrow hold hstep HO HBk2 HTK hc1 hc2
            go_wp2
            go_roundw
            case rel => exact ⟨k + 1, by omega, by go_num, HO8, HB8⟩
            case measure => simp [intOf]; omega
        · obtain rfl : k = N := by omega
          have HW : Hid (wr.ownsRow B5 39 1 u12 k (ps.map C)) := by
            have h1 := HO.out
            rw [List.take_of_length_le (Nat.le_of_eq HPS.out)] at h1
            exact h1
          have HM6 := run.hid (run.own_below HM5.out (by rw [hsw]; exact HBk2.out))
          have HL6 := run.hid (run.own_below HL5.out (by rw [hsw]; exact HBk2.out))
          have HD6 := HD
          have HX6 := run.hid (HXX.out.trans ((HBC.out.trans (HBk2.out.mono (by omega))).mono (by omega)))
          have HPRE := run.hid (run.own_prefix (n := k) (by rw [List.length_map, HN.out, Nat.mul_one]) (by omega) HL6.out)
          obtain ⟨hrm, hrm2⟩ := HROOM
          clear HO HT HM5 HL5
          have HT1 : Hid (∀ w', w'.ownsRow B3 39 1 (.slice (some ⟨gL, 0, none⟩) k cL) k (l.map C) → Calls Tryd.prog 22 #[.slice (some ⟨gL, 0, none⟩) k cL, C (a1, a2), C (b1, b2)] w' fun e w'' => ∃ v ps, e = .returned v ∧ w''.ownsRow w'.heap.size 39 1 v k (ps.map C) ∧ ps.map num2 = l.map (fun p => turnT (num2 (a1, a2)) (num2 (b1, b2)) (num2 p)) ∧ Fits2 ps ∧ Below w'.heap.size w' w'') := by
            intro w' h
            have h1 := run.reads_own h
            have := turn_any l (some ⟨gL, 0, none⟩) cL (a1, a2) (b1, b2) w' (by rw [← HN.out]; exact h1) (by have := HLEN.out; have := HN.out; omega)
            rw [← HN.out] at this
            exact this
          go_wp2_with fail
          refine (HT1.out _ HPRE.out).mono ?_
          rintro e w6 ⟨vA, pa, rfl, hoa, hpa, -, hb6⟩
          have HOA := run.hid hoa
          have HPA := run.hid hpa
          have HB6 := run.hid hb6
          have hs6 := hb6.size
          have HPRE6 := run.hid (run.own_below HPRE.out hb6)
          clear hoa hpa hb6
          go_wp2_with fail
          refine (HT1.out _ HPRE6.out).mono ?_
          rintro e w7 ⟨vB, pb, rfl, hob, hpb, -, hb7⟩
          have HOB := run.hid hob
          have HPB := run.hid hpb
          have HB7 := run.hid hb7
          have hs7 := hb7.size
          have HOA7 := run.hid (run.own_below HOA.out hb7)
          clear hob hpb hb7
          obtain ⟨aA, cA, rfl⟩ := run.own_value HOA.out
          obtain ⟨aB, cB, rfl⟩ := run.own_value HOB.out
          obtain ⟨aW, cW, rfl⟩ := run.own_value HW.out
          have HAP := run.hid (apart_base HOA.out HOB.out (Nat.le_refl _))
          have HALT := run.hid (show ∀ g, (Value.slice aA k cA).ownBlock = some g → wr.heap.size ≤ g ∧ g < w6.heap.size from HOA.out.lt)
          have HAL : Hid (∀ (w' : World) (j : Nat), Calls Tryd.prog 23 #[C (pa.getD j (0, 0)), C (ps.getD j (0, 0))] w' fun e w'' => e = .returned (.bool true) ∧ w'' = w') := by
            intro w' j
            refine (alike_any _ _ w').mono ?_
            rintro e w'' ⟨rfl, rfl⟩
            exact ⟨by rw [alike_at (HPA.out.trans HPSS.out.symm)], rfl⟩
          have HBL : Hid (∀ (w' : World) (j : Nat), Calls Tryd.prog 23 #[C (pb.getD j (0, 0)), C (ps.getD j (0, 0))] w' fun e w'' => e = .returned (.bool true) ∧ w'' = w') := by
            intro w' j
            refine (alike_any _ _ w').mono ?_
            rintro e w'' ⟨rfl, rfl⟩
            exact ⟨by rw [alike_at (HPB.out.trans HPSS.out.symm)], rfl⟩
          have HLL : Hid (∀ (w' : World) (j : Nat), Calls Tryd.prog 23 #[C (l.getD j (0, 0)), C (l.getD j (0, 0))] w' fun e w'' => e = .returned (.bool true) ∧ w'' = w') := by
            intro w' j
            refine (alike_any _ _ w').mono ?_
            rintro e w'' ⟨rfl, rfl⟩
            exact ⟨by rw [alike_at rfl], rfl⟩
          have HPAL : Hid (pa.length = k) := by show _ = _; have := congrArg List.length HPA.out; rw [List.length_map, List.length_map] at this; rw [this, HN.out]
          have HPBL : Hid (pb.length = k) := by show _ = _; have := congrArg List.length HPB.out; rw [List.length_map, List.length_map] at this; rw [this, HN.out]
          have HA7 : Hid (w7.ownsRow wr.heap.size 39 1 (.slice aA k cA) k (List.replicate 0 (C nine) ++ (pa.drop 0).map C)) := HOA7.out
          have HB57 := run.hid (HB6.out.trans (HB7.out.mono hs6))
          have HWall := HW
          clear HT1 HPRE HPRE6 HOA HOA7 HW hrm hrm2
          generalize hB6 : wr.heap.size = B6 at *
          generalize hB7 : w6.heap.size = B7 at *
          generalize wr = w5 at *
          go_wp2
          go_loopw [17] (fun kv wx => ∃ j : Nat, j ≤ k ∧ kv = .int .i64 j ∧ Hid (wx.ownsRow B6 39 1 (.slice aA k cA) k (List.replicate j (C nine) ++ (pa.drop j).map C)) ∧ Hid (wx.ownsRow B7 39 1 (.slice aB k cB) k (pb.map C)) ∧ Hid (Below B6 w5 wx)) (fun v _ => k - (intOf v).toNat)
          case atStart => exact ⟨0, Nat.zero_le _, rfl, HA7, HOB, HB57⟩
          case round =>
            obtain ⟨j, hj, rfl, HA, HBo, HBx⟩ := hrel
            have hszx := HBx.out.size
            by_cases hltj : j < k
            · obtain ⟨gA, cA', hA⟩ := own_some HA.out (by omega)
              cases hA
              obtain ⟨gW, cW', hW⟩ := own_some HWall.out (by omega)
              cases hW
              have hca := (HA.out.cellAt j (by omega)).trans (mark_at HPAL.out hltj)
              have hcw := ((run.own_below HWall.out (by rw [hB6]; exact HBx.out)).cellAt j (by omega)).trans (map_at HPS.out hltj)
              have hfa := HA.out.frozenAt j
              have HALj := run.hid (fun w' => HAL.out w' j)
              generalize pa.getD j (0, 0) = pj at *
              generalize ps.getD j (0, 0) = qj at *
              obtain ⟨pj1, pj2⟩ := pj
              obtain ⟨qj1, qj2⟩ := qj
              go_wp2
              generalize wr = w5q at *
              go_quiet ((go_at_call 23; exact Calls.quiet_of_same (HALj.out _)))
              have HAs : Hid (((w5q.drewN nq).setCell ⟨gA, j, none⟩ (C nine)).ownsRow B6 39 1 (.slice (some ⟨gA, 0, none⟩) k cA) k (List.replicate (j + 1) (C nine) ++ (pa.drop (j + 1)).map C)) := by
                show World.ownsRow _ _ _ _ _ _ _
                rw [← mark_set HPAL.out hltj]
                exact ((show (w5q.drewN nq).ownsRow B6 39 1 (.slice (some ⟨gA, 0, none⟩) k cA) k (List.replicate j (C nine) ++ (pa.drop j).map C) from HA.out).stored j (C nine)).1
              have hgA := HALT.out gA rfl
              have HBs : Hid (((w5q.drewN nq).setCell ⟨gA, j, none⟩ (C nine)).ownsRow B7 39 1 (.slice aB k cB) k (pb.map C)) :=
                run.own_kept (show (w5q.drewN nq).ownsRow B7 39 1 (.slice aB k cB) k (pb.map C) from HBo.out) (setCell_grown _ gA j (C nine)) (fun g hg e => HAP.out g hg (by rw [← e]; rfl))
              have HBy : Hid (Below B6 w5 ((w5q.drewN nq).setCell ⟨gA, j, none⟩ (C nine))) := run.hid ((HBx.out.trans (drewN_below B6 _ _)).setCell (p := ⟨gA, j, none⟩) hgA.1 (C nine))
              have hst := fun m => run_store Tryd.prog (w5q.drewN nq) ⟨gA, j, none⟩ (.complex .f64 4621256167635550208 0) m rfl
              clear HALj HA HBo HBx hcw hgA
              go_wp2
              go_roundw
              case rel => exact ⟨j + 1, by omega, by go_num, HAs, HBs, HBy⟩
              case measure => simp [intOf]; omega
            · obtain rfl : j = k := by omega
              have HAM : Hid (wr.ownsRow B6 39 1 (.slice aA j cA) j (List.replicate j (C nine))) := by
                have h1 := HA.out
                rw [List.drop_of_length_le (Nat.le_of_eq HPAL.out), List.map_nil, List.append_nil] at h1
                exact h1
              generalize wr = w8 at *
              have HLT8 := run.hid (fun g hg => (HAM.out.lt g hg).2)
              have HXL := run.hid (show (List.replicate j (C nine)).length = j * 1 by simp)
              clear HA
              go_wp2
              go_loopw [18, 19] (fun xv kv wx => ∃ m : Nat, m ≤ 70 ∧ kv = .int .i64 m ∧ Hid (run.Grow B6 39 1 w8 (.slice aA j cA) j (List.replicate j (C nine)) xv (j + m) (List.replicate m (C nine)) wx)) (fun _ v _ => 70 - (intOf v).toNat)
              case atStart => exact ⟨0, Nat.zero_le _, rfl, run.hid (run.Grow.refl HAM.out)⟩
              case round =>
                obtain ⟨m, hm, rfl, HG⟩ := hrel
                have hnew := HG.out.new
                have hszg := HG.out.grown.size
                by_cases hltm : m < 70
                · go_wp2_with (at_builtin; refine run.wpList_append_any _ rfl _ _ 37 rfl B6 39 i (.complex .f64 0 0) 1 16 Tryd.underlying37 hi hz0 hz1 hz2 rfl (by decide) _ (j + m) _ rfl (hnew.alloc _) _ 1 [C nine] rfl (run.readsN_new wr [C nine] 1 1 _ rfl) (by intro u hu; simp only [List.mem_singleton] at hu; subst hu; rfl) (by unfold maxLen; omega) (by have := HLEN.out; omega) (by simp; omega) ?_)
                  intro v9 w9 hown9 hgrow hold hstep
                  rw [← List.replicate_append_replicate] at hown9 hold
                  have hg1 : run.Grow B6 39 1 w8 (.slice aA j cA) j (List.replicate j (C nine)) u18 (j + m) (List.replicate m (C nine)) (wr.alloc (.cells #[C nine] 39)) :=
                    ⟨HG.out.new.alloc _, HG.out.old.alloc _, run.grown_trans HG.out.grown (World.grownBy_alloc _ _ none) (.inr (by intro k hk; cases hk)), HG.out.step, HG.out.le⟩
                  have hg2 := run.hid (hg1.next (zs := [C nine]) HXL.out HLT8.out hown9 hgrow hold hstep)
                  rw [show List.replicate m (C nine) ++ [C nine] = List.replicate (m + 1) (C nine) from List.replicate_succ'.symm] at hg2
                  clear hnew hown9 hgrow hold hstep hg1 HG
                  go_wp2
                  go_roundw
                  case rel => exact ⟨m + 1, by omega, by go_num, hg2⟩
                  case measure => simp [intOf]; omega
                · obtain rfl : m = 70 := by omega
                  rw [show ((70 : Nat) : Int) = 70 from rfl]
                  obtain ⟨gX, cX, rfl⟩ := own_some hnew (by omega)
                  have HB9 := run.hid (run.own_kept HBo.out HG.out.grown HAP.out)
                  have HBel9 := run.hid (HBx.out.grown HG.out.grown (by omega) (fun g hg => (HAM.out.lt g hg).1))
                  have HA9 := run.hid HG.out.old
                  have HX9 := run.hid hnew
                  clear HG hnew HBo HBx HAM
                  generalize wr = w9 at *
                  have hsz9 := HBel9.out.size
                  have HW9 := run.hid (run.own_below HWall.out (by rw [hB6]; exact HBel9.out))
                  have HM9 := run.hid (run.own_below HM6.out (by rw [hB6]; exact HBel9.out))
                  have HL9 := run.hid (run.own_below HL6.out (by rw [hB6]; exact HBel9.out))
                  have HZ9 := run.hid (HX6.out.trans (HBel9.out.mono (by omega)))
                  clear HWall HM6 HL6
                  go_wp2
                  go_loopw [20] (fun kv wx => ∃ m : Nat, m ≤ j + 9 ∧ kv = .int .i64 m ∧ Hid (Below w9.heap.size w9 wx)) (fun v _ => j + 9 - (intOf v).toNat)
                  case atStart => exact ⟨0, Nat.zero_le _, rfl, run.hid (Below.refl _ _)⟩
                  case round =>
                    obtain ⟨m, hm, rfl, HBw⟩ := hrel
                    by_cases hltm : m < j + 9
                    · have HLr := run.own_below HL9.out HBw.out
                      by_cases hin : m < j
                      · obtain ⟨gM, cM, hM⟩ := own_some HM9.out (by omega)
                        obtain rfl := hM
                        have hcl := (HLr.cellAt m (by omega)).trans (long_at HN.out.symm hin)
                        have hcm := ((run.own_below HM9.out HBw.out).cellAt m (by omega)).trans (map_at HN.out.symm hin)
                        have HLLm := run.hid (fun w' => HLL.out w' m)
                        generalize l.getD m (0, 0) = pm at *
                        obtain ⟨pm1, pm2⟩ := pm
                        clear HLr
                        generalize wr = wq at *
                        have hni : ¬ j ≤ m := by omega
                        go_upto_region 33 with fail
                        go_cut [164] (fun c wx => c = .bool false ∧ ∃ n, wx = wq.drewN n)
                        case first =>
                          refine run.alone (by assumption) (by assumption) ?_
                          go_light
                          intro _ _ _ _
                          go_quiet ((go_at_call 23; exact Calls.quiet_of_same (HLLm.out _)))
                          go_wp2
                          go_meet
                          case rel => exact ⟨rfl, nq, rfl⟩
                        obtain ⟨rfl, nq, rfl⟩ := hcut
                        have HBy : Hid (Below w9.heap.size w9 (wq.drewN nq)) := run.hid (HBw.out.trans (drewN_below _ _ _))
                        clear hcl hcm HLLm HBw
                        go_wp2
                        go_roundw
                        case rel => exact ⟨m + 1, by omega, by go_num, HBy⟩
                        case measure => simp [intOf]; omega
                      · have hcl : wr.cell? ⟨gL, m, none⟩ = some (.complex .f64 4619567317775286272 0) := by
                          have h1 := (HLr.cellAt m (by omega)).trans (long_at2 HN.out.symm (by omega) hltm)
                          exact h1
                        have e1 := neq_seven 39
                        clear HLr
                        generalize wr = wq at *
                        have hni : j ≤ m := by omega
                        go_upto_region 33 with fail
                        go_cut [164] (fun c wx => c = .bool false ∧ ∃ n, wx = wq.drewN n)
                        case first =>
                          refine run.alone (by assumption) (by assumption) ?_
                          go_light
                          intro _ _ _ _
                          go_quiet (fail)
                          go_wp2
                          go_meet
                          case rel => exact ⟨rfl, nq, rfl⟩
                        obtain ⟨rfl, nq, rfl⟩ := hcut
                        have HBy : Hid (Below w9.heap.size w9 (wq.drewN nq)) := run.hid (HBw.out.trans (drewN_below _ _ _))
                        clear hcl HBw
                        go_wp2
                        go_roundw
                        case rel => exact ⟨m + 1, by omega, by go_num, HBy⟩
                        case measure => simp [intOf]; omega
                    · obtain rfl : m = j + 9 := by omega
                      have hszw := HBw.out.size
                      have HA10 := run.hid (run.own_below HA9.out HBw.out)
                      have HX10 := run.hid (run.own_below HX9.out HBw.out)
                      have HB10 := run.hid (run.own_below HB9.out HBw.out)
                      have HW10 := run.hid (run.own_below HW9.out HBw.out)
                      have HZ10 := run.hid (HZ9.out.trans (HBw.out.mono (by have := HZ9.out.size; omega)))
                      clear HA9 HX9 HB9 HW9 HZ9 HM9 HL9
                      generalize wr = w10 at *
                      go_wp2
                      go_loopw [21] (fun kv wx => ∃ m : Nat, m ≤ j ∧ kv = .int .i64 m ∧ Hid (Below w10.heap.size w10 wx)) (fun v _ => j - (intOf v).toNat)
                      case atStart => exact ⟨0, Nat.zero_le _, rfl, run.hid (Below.refl _ _)⟩
                      case round =>
                        obtain ⟨m, hm, rfl, HBv⟩ := hrel
                        by_cases hltm : m < j
                        · obtain ⟨gA, cA', hA⟩ := own_some HA10.out (by omega)
                          cases hA
                          obtain ⟨gW, cW', hW⟩ := own_some HW10.out (by omega)
                          cases hW
                          obtain ⟨gB, cB', hB'⟩ := own_some HB10.out (by omega)
                          cases hB'
                          have hca : wr.cell? ⟨gA, m, none⟩ = some (.complex .f64 4621256167635550208 0) := ((run.own_below HA10.out HBv.out).cellAt m (by omega)).trans (reps_at hltm)
                          have hcx : wr.cell? ⟨gX, m, none⟩ = some (.complex .f64 4621256167635550208 0) := ((run.own_below HX10.out HBv.out).cellAt m (by omega)).trans (reps_at2 (show m < j by omega))
                          have hcb := ((run.own_below HB10.out HBv.out).cellAt m (by omega)).trans (map_at HPBL.out hltm)
                          have hcw := ((run.own_below HW10.out HBv.out).cellAt m (by omega)).trans (map_at HPS.out hltm)
                          have e1 := neq_nine 39
                          have HBLm := run.hid (fun w' => HBL.out w' m)
                          generalize pb.getD m (0, 0) = pm at *
                          generalize ps.getD m (0, 0) = qm at *
                          obtain ⟨pm1, pm2⟩ := pm
                          obtain ⟨qm1, qm2⟩ := qm
                          generalize wr = wq at *
                          go_upto_region 38 with fail
                          go_cut [194] (fun c wx => c = .bool false ∧ ∃ n, wx = wq.drewN n)
                          case first =>
                            refine run.alone (by assumption) (by assumption) ?_
                            go_light
                            intro _ _ _ _
                            go_quiet ((go_at_call 23; exact Calls.quiet_of_same (HBLm.out _)))
                            go_wp2
                            go_meet
                            case rel => exact ⟨rfl, nq, rfl⟩
                          obtain ⟨rfl, nq, rfl⟩ := hcut
                          have HBy : Hid (Below w10.heap.size w10 (wq.drewN nq)) := run.hid (HBv.out.trans (drewN_below _ _ _))
                          clear hca hcx hcb hcw HBLm HBv
                          go_wp2
                          go_roundw
                          case rel => exact ⟨m + 1, by omega, by go_num, HBy⟩
                          case measure => simp [intOf]; omega
                        · obtain rfl : m = j := by omega
                          have HZ11 := run.hid (HZ10.out.trans (HBv.out.mono (by have := HZ10.out.size; omega)))
                          have HDz := run.hid (HDw.out.below HZ11.out HDL.out)
                          generalize wr = w11 at *
                          go_wp2_with fail
                          refine (alive_any _ HDz.out).mono ?_
                          rintro e w12 ⟨rfl, hb12⟩
                          have HF := run.hid (HZ11.out.trans (hb12.mono (by have := HZ11.out.size; omega)))
                          clear hb12
                          go_wp2
                          go_ret
                          subst hB
                          exact ⟨rfl, HF.out⟩
end Go.Proofs.YtghbpbaopcibkaaDoor.can
