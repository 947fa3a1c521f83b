/-
  The walk of the document's layer wrap: the lines of a row. (Printed by gen_refrow.py.)
-/
import Derived.Test.YtgniobgadilpgaaWrpLines
import Derived.Test.YtgniobgadilpgaaWrpRef2
namespace Go.Proofs.Ytgniobgadilpgaa.wrp
open Go.RowKit Go.Proofs
open Go.Proofs.Ytgniobgadilpgaa.wid Go.Proofs.Ytgniobgadilpgaa.utf Go.Proofs.Ytgniobgadilpgaa.clu
set_option linter.unusedVariables false

theorem rWide_use (v : Value) (X : List TV) (w : World) (hv : RS w v X) (ho : Ok X) (hX : X.length ≤ 1099511627776) : Calls Try.prog 56 #[v] w fun e w' => e = .returned (.int .i64 (wideT X : Nat)) ∧ Below w.heap.size w w' :=
  (refWide_any v X w hv.reads hX (by have := ho.wide; omega)).mono fun e w' ⟨h, h2⟩ => ⟨h, by rw [h2]; exact Below.refl _ _⟩
theorem rJoin_use (v : Value) (X : List TV) (w : World) (hv : RS w v X) (ho : Ok X) (hX : X.length ≤ 274877906944) : Calls Try.prog 58 #[v] w fun e w' => e = .returned (.string (joinT X)) ∧ Below w.heap.size w w' :=
  refJoin_any v X w hv.reads (by omega) (by have := ho.cat; omega)
theorem rFit_use (v : Value) (X : List TV) (n : Nat) (w : World) (hv : RS w v X) (ho : Ok X) (hX : X.length ≤ 1099511627776) (hn : n ≤ 4611686018427387904) : Calls Try.prog 55 #[v, .int .i64 n] w fun e w' => e = .returned (.int .i64 (fitT X n : Nat)) ∧ Below w.heap.size w w' :=
  (refFit_any v X n w hv.reads hX hn).mono fun e w' ⟨h, h2⟩ => ⟨h, by rw [h2]; exact Below.refl _ _⟩
theorem rBlanks_use (n : Nat) (w : World) (hn : n ≤ 35184372088832) : Calls Try.prog 57 #[.int .i64 n] w fun e w' => e = .returned (.string (spaces n)) ∧ Below w.heap.size w w' := refBlanks_any n w hn

/-- the place of the last blank, -1 where there is none -/
def atZ : Option Nat → Int
  | some x => x
  | none => -1
/-- the last blank among the first j -/
def cutTo (m : Nat) (r : List TV) (j : Nat) : Option Nat := if j = 0 then none else cutAt m r (j - 1)
theorem cutTo_yes {m : Nat} {r : List TV} {j : Nat} (hm : m = 0) (h : (r.getD j t0).1 = sp) : cutTo m r (j + 1) = some j := by
  unfold cutTo cutAt
  rw [if_neg (by omega), if_pos hm, Nat.add_sub_cancel, lastSp_at h]
theorem cutTo_no {m : Nat} {r : List TV} {j : Nat} (h : ¬ (m = 0 ∧ (r.getD j t0).1 = sp)) : cutTo m r (j + 1) = cutTo m r j := by
  unfold cutTo cutAt
  rw [if_neg (by omega), Nat.add_sub_cancel]
  by_cases hm : m = 0
  · have hs : (r.getD j t0).1 ≠ sp := fun e => h ⟨hm, e⟩
    rw [if_pos hm, if_pos hm]
    cases j with
    | zero => rw [if_pos rfl, lastSp_zero hs]
    | succ j => rw [if_neg (by omega), lastSp_next hs, Nat.add_sub_cancel]
  · rw [if_neg hm, if_neg hm]
    split <;> rfl
theorem cutTo_all (m : Nat) (r : List TV) (k : Nat) : cutTo m r (k + 1) = cutAt m r k := by unfold cutTo; rw [if_neg (by omega), Nat.add_sub_cancel]

theorem step_append_any {P : Program} (w : World) {ops : Array Oper} {o : Oper} {a : Act} {K : Act → World → Prop} {Q : Exit → Act → World → Prop} {E : Prop} (hgd : o.guard = none) (s x : Operand) (t : TypeId)
    (ho : o.op = .call { callee := .builtin .append, args := #[s, x], argTypes := #[t, t] })
    (base : Nat) (e : TypeId) (i : TypeInfo) (z : Value) (size bytes : Nat) (ht : P.underlying t = some (.slice e)) (hi : P.info? e = some i) (hz : i.zero = some z)
    (hsize : i.size = size) (hby : i.bytes = bytes) (hzs : z.cells.size = size) (hsz : 0 < size)
    (v : Value) (n : Nat) (xs : List Value) (hs : a.eval s = v) (hown : w.ownsRow base e size v n xs)
    (xv : Value) (m : Nat) (news : List Value) (hxe : a.eval x = xv) (hx : run.ReadsN size w xv m news) (h1 : ∀ u ∈ news, u.oneCell' = true)
    (h63 : n + m ≤ maxLen) (hbytes : (n + m) * bytes ≤ 140737488355328) (hbase : base ≤ w.heap.size)
    (h : ∀ v' w', w'.ownsRow base e size v' (n + m) (xs ++ news) → w.grownBy w' v.ownBlock → w'.ownsRow base e size v n xs → run.Step w v n v' (n + m) → K (a.put o.dst v') w') :
    if Region.wanted o (yielded ops a.tmps) = true then Oper.wp P o a w K Q else E := by
  have hw : Region.wanted o (yielded ops a.tmps) = true := by simp [Region.wanted, hgd]
  rw [if_pos hw]
  obtain ⟨v', w', hr, h2, h3, h4, h5⟩ := run.run_append_any (P := P) w base t o.type e i z size bytes ht hi hz hsize hby hzs hsz v n xs hown xv m news hx h1 h63 hbytes hbase
  unfold Oper.wp execOp
  simp only [ho, resolve, invoke, builtin, Sem.run_bind, Sem.run_pure, Result.andThen_ok, List.map_toArray, List.map_cons, List.map_nil, hs, hxe, hr]
  first | exact h _ _ h2 h3 h4 h5 | exact .inl (h _ _ h2 h3 h4 h5)

theorem cutAt_bound {m : Nat} {r : List TV} {k j : Nat} (h : cutAt m r k = some j) : j ≤ k := by
  unfold cutAt at h
  split at h
  · exact (lastSp_le h).1
  · cases h
theorem keepRow {B n : Nat} {w W w1 : World} {v : Value} {xs : List Value} (h : W.ownsRow B 43 4 v n xs ∧ Below w.heap.size w W) (hb : Below W.heap.size W w1) : w1.ownsRow B 43 4 v n xs ∧ Below w.heap.size w w1 := ⟨run.own_below h.1 hb, h.2.trans (hb.mono h.2.size)⟩
theorem keepRowA {B n : Nat} {w W : World} {v : Value} {xs : List Value} (o : Obj) (h : W.ownsRow B 43 4 v n xs ∧ Below w.heap.size w W) : (W.alloc o).ownsRow B 43 4 v n xs ∧ Below w.heap.size w (W.alloc o) := ⟨h.1.alloc _, h.2.alloc h.2.size _⟩

set_option maxRecDepth 100000 in
set_option maxHeartbeats 4000000 in
theorem refRow_any (v : Value) (r0 : List TV) (n m fin : Nat) (mode : Int) (hmo : modeOf mode = m) (w : World) (hv : RS w v r0) (hok : Ok r0) (hl : r0.length ≤ 67108864) : Calls Try.prog 65 #[v, .int .i64 n, .int .i8 mode, .int .i8 fin] w fun e w' =>
    ∃ u, e = .returned u ∧ w'.ownsRow w.heap.size 43 4 u (rowL n m fin (r0.length + 1) r0).length (cells4 (rowL n m fin (r0.length + 1) r0)) ∧ Below w.heap.size w w' := by
  obtain ⟨ir, hir, hr0, hr1, hr2⟩ := info_parts info_line
  have hm2 : m = 2 ↔ mode = 2 := by rw [← hmo]; unfold modeOf; split <;> (try split) <;> omega
  have hm1 : m = 1 ↔ mode = 1 := by rw [← hmo]; unfold modeOf; split <;> (try split) <;> omega
  have hm3 : m ≤ 2 := by rw [← hmo]; unfold modeOf; split <;> (try split) <;> omega
  have HM2 := run.hid hm2
  have HM1 := run.hid hm1
  have HR0 : Hid (∀ w', Below w.heap.size w w' → RS w' v r0) := fun w' h => hv.below h
  have HOK := run.hid hok
  have hRWl := rowL_len n m fin (r0.length + 1) r0
  have HRW : Hid (RowAt n m fin (rowL n m fin (r0.length + 1) r0) [] (r0.length + 1) r0) := by show _ = _; rfl
  generalize rowL n m fin (r0.length + 1) r0 = RW at *
  clear hmo hm1 hm2 hv hok
  go_enter Try.func65, Try.ntmps65
  go_wp2
  go_loopw [0, 9] (fun v0 vo wr => ∃ (lo f : Nat) (rest : List TV) (dn : List LV), rest.length < f ∧ Hid (∀ w', Below w.heap.size w w' → RS w' v0 rest) ∧ Hid (Ok rest) ∧ rest.length ≤ r0.length ∧
    Hid (wr.ownsRow w.heap.size 43 4 vo lo (cells4 dn)) ∧ Hid (lo = dn.length) ∧ Hid (RowAt n m fin RW dn f rest) ∧ Below w.heap.size w wr) (fun v0 _ _ => lenOf v0)
  case atStart => exact ⟨0, r0.length + 1, r0, [], by omega, HR0, HOK, Nat.le_refl _, World.ownsRow_nil _ _ _ _, rfl, HRW, Below.refl _ _⟩
  case round =>
    obtain ⟨lo, f, rest, dn, hf, HX, HK, hrl, HOWN, HLO, HRW, hbel⟩ := hrel
    have hRL := HRW.out.len (by omega)
    have hlo : lo + 1 ≤ r0.length + 1 := by rw [HLO.out]; omega
    have hs1 := hbel.size
    clear HR0 HOK
    go_wp2_with fail
    refine (rWide_use u0 rest wr (HX.out _ hbel) HK.out (by omega)).mono ?_
    rintro e w3 ⟨rfl, hb3⟩
    have c3 := hbel.trans (hb3.mono hs1)
    have HOWN3 := run.hid (run.own_below HOWN.out hb3)
    clear HOWN hb3 hbel
    have hfl := fitT_le rest n
    have HW1 := run.hid (fun h => HRW.out.whole hf h)
    have HW2 := run.hid (fun h => HRW.out.last hf h)
    have HW3 := run.hid (fun h => HRW.out.lost hf h)
    have HW4 := run.hid (fun j h => HRW.out.blank (j := j) hf h)
    have HW5 := run.hid (fun h => HRW.out.cut hf h)
    have HFT := run.hid (fun h => @fitT_lt rest n h)
    have HWT := HK.out.wide
    obtain ⟨tot, htot⟩ : ∃ tot, wideT rest = tot := ⟨_, rfl⟩
    rw [htot] at HW1 HW2 HW3 HW4 HW5 HFT HWT
    rw [htot]
    have HTOT := run.hid htot
    clear htot HRW
    by_cases hle : tot ≤ n
    · have HE := run.hid (HW1.out (.inr hle))
      clear HW1 HW2 HW3 HW4 HW5 HFT
      go_wp2_with fail
      refine (rJoin_use u0 rest _ (HX.out _ c3) HK.out (by omega)).mono ?_
      rintro e w4 ⟨rfl, hb4⟩
      have c4 := c3.trans (hb4.mono c3.size)
      go_wp2_with fail
      refine (rWide_use u0 rest _ (HX.out _ c4) HK.out (by omega)).mono ?_
      rintro e w5 ⟨rfl, hb5⟩
      have c5 := c4.trans (hb5.mono c4.size)
      have hown5 := run.own_below (run.own_below HOWN3.out hb4) hb5
      have hs5 := c5.size
      rw [HTOT.out]
      clear HOWN3 hb4 hb5 c3 c4
      generalize joinT rest = jt at *
      go_wp2_with (at_builtin; refine run.wpList_append_any _ rfl _ _ 39 rfl w.heap.size 43 ir (.agg #[.string ByteArray.empty, .int .i64 0, .int .i8 0, .string ByteArray.empty]) 4 48 Try.underlying39 hir hr0 hr1 hr2 rfl (by decide) _ _ _ rfl (hown5.alloc _) _ 1 [.string jt, .int .i64 tot, .int .i8 fin, .string ⟨#[]⟩] rfl (run.readsN_new w5 [.string jt, .int .i64 tot, .int .i8 fin, .string ⟨#[]⟩] 1 4 _ rfl) one4 (by unfold maxLen; omega) (by omega) (by simp; omega) ?_)
      intro v' w6 hown6 hgrow hold hstep
      have c6 := run.below_append (c5.alloc hs5 _) (hown5.alloc _) hgrow (by simp; omega)
      have h6 : w6.ownsRow w.heap.size 43 4 v' RW.length (cells4 RW) := by
        rw [HE.out, ← snoc4, List.length_append, ← HLO.out]; exact hown6
      clear hown6 hown5 hgrow hold hstep HE HX HK HLO c5
      go_wp2
      go_ret
      exact ⟨_, rfl, h6, c6⟩
    by_cases h2 : mode = 2
    · have HE := run.hid (HW1.out (.inl (HM2.out.2 h2)))
      clear HW1 HW2 HW3 HW4 HW5 HFT
      subst h2
      go_wp2_with fail
      refine (rJoin_use u0 rest _ (HX.out _ c3) HK.out (by omega)).mono ?_
      rintro e w4 ⟨rfl, hb4⟩
      have c4 := c3.trans (hb4.mono c3.size)
      go_wp2_with fail
      refine (rWide_use u0 rest _ (HX.out _ c4) HK.out (by omega)).mono ?_
      rintro e w5 ⟨rfl, hb5⟩
      have c5 := c4.trans (hb5.mono c4.size)
      have hown5 := run.own_below (run.own_below HOWN3.out hb4) hb5
      have hs5 := c5.size
      rw [HTOT.out]
      clear HOWN3 hb4 hb5 c3 c4
      generalize joinT rest = jt at *
      go_wp2_with (at_builtin; refine run.wpList_append_any _ rfl _ _ 39 rfl w.heap.size 43 ir (.agg #[.string ByteArray.empty, .int .i64 0, .int .i8 0, .string ByteArray.empty]) 4 48 Try.underlying39 hir hr0 hr1 hr2 rfl (by decide) _ _ _ rfl (hown5.alloc _) _ 1 [.string jt, .int .i64 tot, .int .i8 fin, .string ⟨#[]⟩] rfl (run.readsN_new w5 [.string jt, .int .i64 tot, .int .i8 fin, .string ⟨#[]⟩] 1 4 _ rfl) one4 (by unfold maxLen; omega) (by omega) (by simp; omega) ?_)
      intro v' w6 hown6 hgrow hold hstep
      have c6 := run.below_append (c5.alloc hs5 _) (hown5.alloc _) hgrow (by simp; omega)
      have h6 : w6.ownsRow w.heap.size 43 4 v' RW.length (cells4 RW) := by
        rw [HE.out, ← snoc4, List.length_append, ← HLO.out]; exact hown6
      clear hown6 hown5 hgrow hold hstep HE HX HK HLO c5
      go_wp2
      go_ret
      exact ⟨_, rfl, h6, c6⟩
    have hw : ¬ (m = 2 ∨ tot ≤ n) := fun h => h.elim (fun h => h2 (HM2.out.1 h)) hle
    have hk := HFT.out hle
    have hmn : (mode == 2) = false := beq_eq_false_iff_ne.2 h2
    replace HW2 := run.hid (HW2.out hw)
    replace HW3 := run.hid (HW3.out hw)
    replace HW4 := run.hid (fun j => HW4.out j hw)
    replace HW5 := run.hid (HW5.out hw)
    have hm01 : m = 0 ∨ m = 1 := by have := fun h => h2 (HM2.out.1 h); omega
    clear HW1 HFT hw hfl HTOT h2
    go_wp2_with fail
    refine (rFit_use u0 rest n _ (HX.out _ c3) HK.out (by omega) (by omega)).mono ?_
    rintro e w4 ⟨rfl, hb4⟩
    have c4 := c3.trans (hb4.mono c3.size)
    have HOWN4 := run.hid (run.own_below HOWN3.out hb4)
    clear HOWN3 hb4 c3
    generalize fitT rest n = k at *
    have HRS4 := HX.out _ c4
    obtain ⟨b0, off0, cap0, rfl, hb0, hcap0⟩ : ∃ b off cap, u0 = .slice (some ⟨b, off, none⟩) rest.length cap ∧ b < w4.heap.size ∧ rest.length ≤ cap := by
      obtain ⟨a, cap, h1, h2, h3⟩ := HRS4
      obtain ⟨b, off, h4, h5, -⟩ := h3 0 (by omega)
      subst h4
      exact ⟨b, off, cap, h1, h5, h2.1⟩
    have hs4 := c4.size
    by_cases hk0 : k = 0
    · clear HM1 HM2 hmn hm01 
      subst hk0
      replace HW2 := run.hid (HW2.out rfl)
      replace HW3 := run.hid (HW3.out rfl)
      clear HW4 HW5
      have hx0 : w4.cell? ⟨b0, off0, none⟩ = some (.string (rest.getD 0 t0).1) := by
        obtain ⟨a, cap, h1, -, h3⟩ := HRS4
        obtain ⟨b, off, h4, -, h6, -⟩ := h3 0 (by omega)
        simp only [Value.slice.injEq] at h1
        have h7 := h1.1.trans h4
        simp only [Option.some.injEq, Addr.mk.injEq, and_true] at h7
        obtain ⟨rfl, rfl⟩ := h7
        rw [Nat.zero_mul, Nat.add_zero] at h6
        exact h6
      generalize (rest.getD 0 t0).1 = txt at *
      clear HRS4
      go_upto_region 6 with fail
      go_cut [11] (fun c wx => LineCell w4 (.string (spaces n)) (.int .i64 n) (.int .i8 3) (.string txt) c wx)
      case first =>
        have hne1 : ¬ b0 = w4.heap.size := by omega
        have hne2 : ¬ w4.heap.size = b0 := by omega
        have HB := run.hid hb0
        go_region_held3 (fun w' => w'.cell? ⟨b0, off0, none⟩ = some (.string txt))
          (first
            | go_keep
            | exact (hb5.cell (p := ⟨b0, off0, none⟩) (run.lt_of_cell (by assumption))).trans (by assumption)
            | exact run.cell_old _ _ ((hb5.cell (p := ⟨b0, off0, none⟩) (run.lt_of_cell hx0)).trans hx0)
            | (trace_state; fail))
          (first | (go_at_call 57; refine (rBlanks_use n _ (by omega)).mono ?_; rintro e w5 ⟨rfl, hb5⟩; first | (have hzz := line_zero (w4 := w4) _ (by rfl) hb5; obtain ⟨hz0, hz1, hz2, hz3, hf0, hf1, hf2, hf3⟩ := line_cells hzz) | (have hzz := hb5)))
        · go_wp2
          go_meet
          exact lineCell_late ((Below.refl _ w4).drew.trans hb5)
        · go_wp2
          go_meet
          exact lineCell_early _ _ _ _ _ (Nat.le_refl _) hzz (((Below.refl _ w4).alloc (Nat.le_refl _) _).drew.trans (hb5.mono (by simp)))
      obtain ⟨g, rfl, hg, hheap, hb5⟩ := hcut
      have HOX := run.hid (fun w' (h : Below w4.heap.size w4 w') => run.own_below HOWN4.out h)
      have c6 := c4.trans (hb5.mono hs4)
      have hs6 := c6.size
      have hg2 : w.heap.size ≤ g := Nat.le_trans hs4 hg
      have HXD := run.hid (fun w' h => (HX.out w' h).drop 1 (by omega))
      have HXN := run.hid (fun (hc : cap0 = 1) w' (h : Below w.heap.size w w') => rs_none (HX.out w' h) (k := 1) (by omega) hc (some ⟨b0, off0, none⟩))
      clear HX HOWN4 c4
      go_upto_region 7 with fail
      go_cut [0] (fun c wx => ((∃ a cp, c = .slice a (rest.length - 1) cp) ∧ Hid (∀ w', Below w.heap.size w w' → RS w' c (rest.drop 1))) ∧ wx = wc)
      case first =>
        have hl1 : 1 ≤ cap0 := by omega
        have hl2 : 1 ≤ rest.length := by omega
        by_cases hce : cap0 = 1
        · have H5 := run.hid (HXN.out hce)
          have hle : rest.length = 1 := by omega
          subst hce
          clear HXN HXD
          go_wp2
          go_meet
          exact ⟨⟨⟨_, _, by rw [hle]⟩, H5⟩, rfl⟩
        · clear HXN
          go_wp2
          go_meet
          exact ⟨⟨⟨_, _, rfl⟩, HXD⟩, rfl⟩
      obtain ⟨⟨⟨a10, cp10, rfl⟩, HXR⟩, hww⟩ := hcut
      replace hww := hww.symm
      subst hww
      clear HXD HXN
      have hz0 : wc.cell? ⟨g, 0, none⟩ = some (.string (spaces n)) := by simp [World.cell?, hheap]
      have hz1 : wc.cell? ⟨g, 1, none⟩ = some (.int .i64 n) := by simp [World.cell?, hheap]
      have hz2 : wc.cell? ⟨g, 2, none⟩ = some (.int .i8 3) := by simp [World.cell?, hheap]
      have hz3 : wc.cell? ⟨g, 3, none⟩ = some (.string txt) := by simp [World.cell?, hheap]
      have hzf : wc.frozen? ⟨g, 2, none⟩ = false := by simp [World.frozen?, hheap]
      have HKD := run.hid (HK.out.drop 1)
      have hdl : (rest.drop 1).length = rest.length - 1 := List.length_drop
      clear hheap
      by_cases hl : rest.length = 1
      · have HE := run.hid (HW2.out (by omega))
        have hl3 : ((rest.length : Int) - 1 == 0) = true := by rw [beq_iff_eq]; omega
        have hl4 : (rest.length - 1 == 0) = true := by rw [beq_iff_eq]; omega
        have hl5 : ((rest.length - 1 : Nat) : Int) = (rest.length : Int) - 1 := by omega
        have hbz := hb5.setCell (p := ⟨g, 2, none⟩) hg (.int .i8 fin)
        have c6z := c6.setCell (p := ⟨g, 2, none⟩) hg2 (.int .i8 fin)
        have hownc := HOX.out _ hbz
        have hs6z := c6z.size
        clear HW2 HW3 HK HOX
        generalize spaces n = spn at *
        go_wp2_with (at_builtin; refine run.wpList_append_any _ rfl _ _ 39 rfl w.heap.size 43 ir (.agg #[.string ByteArray.empty, .int .i64 0, .int .i8 0, .string ByteArray.empty]) 4 48 Try.underlying39 hir hr0 hr1 hr2 rfl (by decide) _ _ _ rfl (hownc.alloc _) _ 1 [.string spn, .int .i64 n, .int .i8 fin, .string txt] rfl (readsN_at (wc.setCell ⟨g, 2, none⟩ (.int .i8 fin)) wc.heap.size (by simp) [.string spn, .int .i64 n, .int .i8 fin, .string txt] 1 4 _ rfl) one4 (by unfold maxLen; omega) (by omega) (by simp; omega) ?_)
        intro v' w7 hown7 hgrow hold hstep
        have c7 := run.below_append (c6z.alloc c6z.size _) (hownc.alloc _) hgrow (by simp; omega)
        have h7 : w7.ownsRow w.heap.size 43 4 v' RW.length (cells4 RW) := by
          rw [HE.out, ← snoc4, List.length_append, ← HLO.out]; exact hown7
        clear hown7 hownc hgrow hold hstep HLO HE HXR HKD
        go_wp2
        go_ret
        exact ⟨_, rfl, h7, c7⟩
      · have HE := run.hid (HW3.out (by omega))
        have hl3 : ((rest.length : Int) - 1 == 0) = false := by rw [beq_eq_false_iff_ne]; omega
        have hl4 : (rest.length - 1 == 0) = false := by rw [beq_eq_false_iff_ne]; omega
        have hl5 : ((rest.length - 1 : Nat) : Int) = (rest.length : Int) - 1 := by omega
        have hownc := HOX.out wc hb5
        clear HW2 HW3 HK HOX
        generalize spaces n = spn at *
        go_wp2_with (at_builtin; refine run.wpList_append_any _ rfl _ _ 39 rfl w.heap.size 43 ir (.agg #[.string ByteArray.empty, .int .i64 0, .int .i8 0, .string ByteArray.empty]) 4 48 Try.underlying39 hir hr0 hr1 hr2 rfl (by decide) _ _ _ rfl (hownc.alloc _) _ 1 [.string spn, .int .i64 n, .int .i8 3, .string txt] rfl (run.readsN_new wc [.string spn, .int .i64 n, .int .i8 3, .string txt] 1 4 _ rfl) one4 (by unfold maxLen; omega) (by omega) (by simp; omega) ?_)
        intro v' w7 hown7 hgrow hold hstep
        have c7 := run.below_append (c6.alloc c6.size _) (hownc.alloc _) hgrow (by simp; omega)
        have h7 : Hid (w7.ownsRow w.heap.size 43 4 v' (lo + 1) (cells4 (dn ++ [⟨spn, n, 3, txt⟩]))) := by
          show World.ownsRow _ _ _ _ _ _ _; rw [← snoc4]; exact hown7
        have HLO2 : Hid (lo + 1 = (dn ++ [(⟨spn, n, 3, txt⟩ : LV)]).length) := by show _ = _; rw [HLO.out]; simp only [List.length_append, List.length_singleton]
        clear hown7 hownc hgrow hold hstep HLO
        go_wp2
        go_roundw
        case rel => exact ⟨lo + 1, f - 1, rest.drop 1, _, by omega, HXR, HKD, by omega, h7, HLO2, HE, c7⟩
        case measure => simp [lenOf]; omega
    ·
      replace HW4 := run.hid (fun j => HW4.out j hk0)
      replace HW5 := run.hid (HW5.out hk0)
      have HCELL := run.hid (fun i (hi : i < rest.length) => show w4.cell? ⟨b0, off0 + i * 2, none⟩ = some (.string (rest.getD i t0).1) from by
        obtain ⟨a, cap, h1, -, h3⟩ := HRS4
        obtain ⟨b, off, h4, -, h6, -⟩ := h3 i hi
        simp only [Value.slice.injEq] at h1
        have h7 := h1.1.trans h4
        simp only [Option.some.injEq, Addr.mk.injEq, and_true] at h7
        obtain ⟨rfl, rfl⟩ := h7
        exact h6)
      have HCY := run.hid (fun j (hm : m = 0) h => @cutTo_yes m rest j hm h)
      have HCN := run.hid (fun j h => @cutTo_no m rest j h)
      have HCA := run.hid (cutTo_all m rest k)
      have HCL := run.hid (fun j h => @cutAt_bound m rest k j h)
      have h00 : Hid (atZ (cutTo m rest 0) = -1) := rfl
      clear HW2 HW3 HRS4
      go_wp2
      go_loop [12, 13] (fun va vj => ∃ j : Nat, j ≤ k + 1 ∧ vj = .int .i64 j ∧ va = .int .i64 (atZ (cutTo m rest j))) (fun _ vj => ((k : Int) + 1 - intOf vj).toNat)
      case atStart => exact ⟨0, by omega, rfl, by rw [h00.out]⟩
      case round =>
        obtain ⟨j, hj, rfl, rfl⟩ := hrel
        by_cases hjk : j ≤ k
        · have hx0 := HCELL.out j (by omega)
          have HY := run.hid (HCY.out j)
          have HN := run.hid (HCN.out j)
          generalize rest.getD j t0 = q at *
          obtain ⟨qs, qw⟩ := q
          dsimp only at hx0 HY HN
          have hbeq := sp_eq qs
          clear HCELL HCY HCN HCA HCL h00 HX HK HW4 HW5 HOWN4 HLO
          by_cases hm0 : m = 0
          · have hne : mode ≠ 1 := fun e => by have := HM1.out.2 e; omega
            have hb1 : (mode == 1) = false := beq_eq_false_iff_ne.2 hne
            have hb2 : (mode != 1) = true := by simp [hne]
            by_cases hs : qs = sp
            · have H := run.hid (HY.out hm0 hs)
              rw [decide_eq_true hs] at hbeq
              clear HY HN hs hm0 hne
              go_wp2
              go_round
              case rel => exact ⟨j + 1, by omega, by go_num, by rw [H.out]; rfl⟩
              case measure => simp [intOf]; omega
            · have H := run.hid (HN.out (fun h => hs h.2))
              rw [decide_eq_false hs] at hbeq
              clear HY HN hs hm0 hne
              go_wp2
              go_round
              case rel => exact ⟨j + 1, by omega, by go_num, by rw [H.out]⟩
              case measure => simp [intOf]; omega
          · have he : mode = 1 := HM1.out.1 (by omega)
            have hb1 : (mode == 1) = true := beq_iff_eq.2 he
            have hb2 : (mode != 1) = false := by simp [he]
            have H := run.hid (HN.out (fun h => hm0 h.1))
            clear HY HN hm0 he
            go_wp2
            go_round
            case rel => exact ⟨j + 1, by omega, by go_num, by rw [H.out]⟩
            case measure => simp [intOf]; omega
        · obtain rfl : j = k + 1 := by omega
          rw [HCA.out]
          clear hjk HCELL HCY HCN HCA h00 HM1 HM2
          cases hc : cutAt m rest k with
          | some jj =>
            have hjk := HCL.out jj hc
            have HE := run.hid (HW4.out jj hc)
            have hat : Hid (atZ (some jj) = (jj : Int)) := rfl
            rw [hat.out]
            clear HW4 HW5 HCL hc hat
            have HXT := run.hid (fun w' (h : Below w.heap.size w w') => (HX.out w' h).take jj (by omega))
            have HKT := run.hid (HK.out.take jj)
            have htl : (rest.take jj).length ≤ 274877906944 := by rw [List.length_take]; omega
            have hcp : 0 < cap0 := by omega
            have HKD := run.hid (HK.out.drop (jj + 1))
            have hdl : (rest.drop (jj + 1)).length = rest.length - (jj + 1) := List.length_drop
            have HNIL := run.hid (fun (hc : cap0 = jj + 1) w' (h : Below w.heap.size w w') => rs_none (HX.out w' h) (k := jj + 1) (by omega) hc (some ⟨b0, off0, none⟩))
            have HDR := run.hid (fun w' h => (HX.out w' h).drop (jj + 1) (by omega))
            have hdl2 : cap0 = jj + 1 → rest.length = jj + 1 := fun h => by omega
            have hst : w4.drew.ownsRow w.heap.size 43 4 u9 lo (cells4 dn) ∧ Below w.heap.size w w4.drew := ⟨HOWN4.out, c4.drew⟩
            have hj0 : (0 : Int) ≤ (jj : Int) := by omega
            have hj1 : (jj : Int) ≤ (cap0 : Int) := by omega
            clear HX HK HOWN4
            go_wp2_with fail
            go_region_held3 (fun w' => w'.ownsRow w.heap.size 43 4 u9 lo (cells4 dn) ∧ Below w.heap.size w w')
              (first
                | assumption
                | exact hst
                | exact ⟨hold, run.below_append (cw.2.alloc cw.2.size _) (cw.1.alloc _) hgrow (by have := cw.2.size; simp; omega)⟩
                | exact keepRowA _ (by assumption)
                | exact keepRow (by assumption) hbj
                | exact keepRow (by assumption) hbw
                | (trace_state; fail))
              (first
                | (go_at_call 58; refine (rJoin_use _ (rest.take jj) _ (HXT.out _ (And.right (by assumption))) HKT.out htl).mono ?_; rintro e w6 ⟨rfl, hbj⟩)
                | (go_at_call 56; refine (rWide_use _ (rest.take jj) _ (HXT.out _ (And.right (by assumption))) HKT.out (by omega)).mono ?_; rintro e w7 ⟨rfl, hbw⟩; have cw := keepRow (w := w) (B := w.heap.size) (v := u9) (n := lo) (xs := cells4 dn) (by assumption) hbw)
                | (refine step_append_any _ rfl _ _ 39 rfl w.heap.size 43 ir (.agg #[.string ByteArray.empty, .int .i64 0, .int .i8 0, .string ByteArray.empty]) 4 48 Try.underlying39 hir hr0 hr1 hr2 rfl (by decide) u9 lo (cells4 dn) rfl (cw.1.alloc _) _ 1 [.string (joinT (rest.take jj)), .int .i64 (wideT (rest.take jj) : Nat), .int .i8 2, .string ⟨#[]⟩] rfl (run.readsN_new w7 [.string (joinT (rest.take jj)), .int .i64 (wideT (rest.take jj) : Nat), .int .i8 2, .string ⟨#[]⟩] 1 4 _ rfl) one4 (by unfold maxLen; omega) (by omega) (by have := cw.2.size; simp; omega) ?_; intro v8 w8 hown8 hgrow hold hstep))
            rename_i hH
            have c8 := hH.2
            have h8 : Hid (w8.ownsRow w.heap.size 43 4 v8 (lo + 1) (cells4 (dn ++ [⟨joinT (rest.take jj), wideT (rest.take jj), 2, e0⟩]))) := by
              show World.ownsRow _ _ _ _ _ _ _; rw [← snoc4]; exact hown8
            have HLO2 : Hid (lo + 1 = (dn ++ [(⟨joinT (rest.take jj), wideT (rest.take jj), 2, e0⟩ : LV)]).length) := by show _ = _; rw [HLO.out]; simp only [List.length_append, List.length_singleton]
            clear hown8 hgrow hold hstep hH cw hst HXT HKT htl hbj hbw HLO hj0 hj1 HWT
            by_cases hce : cap0 = jj + 1
            · have H5 := run.hid (HNIL.out hce)
              have H6 := hdl2 hce
              subst hce
              clear HNIL HDR hdl2
              go_wp2
              go_roundw
              case rel => exact ⟨lo + 1, f - 1, rest.drop (jj + 1), _, by omega, H5, HKD, by omega, h8, HLO2, HE, c8⟩
              case measure => simp [lenOf]; omega
            · clear HNIL hdl2
              go_wp2
              go_roundw
              case rel => exact ⟨lo + 1, f - 1, rest.drop (jj + 1), _, by omega, HDR, HKD, by omega, h8, HLO2, HE, c8⟩
              case measure => simp [lenOf]; omega
          | none =>
            have HE := run.hid (HW5.out hc)
            have hat : Hid (atZ none = -1) := rfl
            rw [hat.out]
            clear HW4 HW5 HCL hc hat
            have HXT := run.hid (fun w' (h : Below w.heap.size w w') => (HX.out w' h).take k (by omega))
            have HKT := run.hid (HK.out.take k)
            have htl : (rest.take k).length ≤ 274877906944 := by rw [List.length_take]; omega
            have hcp : 0 < cap0 := by omega
            have HKD := run.hid (HK.out.drop (k))
            have hdl : (rest.drop (k)).length = rest.length - (k) := List.length_drop
            have HNIL := run.hid (fun (hc : cap0 = k) w' (h : Below w.heap.size w w') => rs_none (HX.out w' h) (k := k) (by omega) hc (some ⟨b0, off0, none⟩))
            have HDR := run.hid (fun w' h => (HX.out w' h).drop (k) (by omega))
            have hdl2 : cap0 = k → rest.length = k := fun h => by omega
            have hst : w4.drew.ownsRow w.heap.size 43 4 u9 lo (cells4 dn) ∧ Below w.heap.size w w4.drew := ⟨HOWN4.out, c4.drew⟩
            have hj0 : (0 : Int) ≤ (k : Int) := by omega
            have hj1 : (k : Int) ≤ (cap0 : Int) := by omega
            clear HX HK HOWN4
            go_wp2_with fail
            go_region_held3 (fun w' => w'.ownsRow w.heap.size 43 4 u9 lo (cells4 dn) ∧ Below w.heap.size w w')
              (first
                | assumption
                | exact hst
                | exact ⟨hold, run.below_append (cw.2.alloc cw.2.size _) (cw.1.alloc _) hgrow (by have := cw.2.size; simp; omega)⟩
                | exact keepRowA _ (by assumption)
                | exact keepRow (by assumption) hbj
                | exact keepRow (by assumption) hbw
                | (trace_state; fail))
              (first
                | (go_at_call 58; refine (rJoin_use _ (rest.take k) _ (HXT.out _ (And.right (by assumption))) HKT.out htl).mono ?_; rintro e w6 ⟨rfl, hbj⟩)
                | (go_at_call 56; refine (rWide_use _ (rest.take k) _ (HXT.out _ (And.right (by assumption))) HKT.out (by omega)).mono ?_; rintro e w7 ⟨rfl, hbw⟩; have cw := keepRow (w := w) (B := w.heap.size) (v := u9) (n := lo) (xs := cells4 dn) (by assumption) hbw)
                | (refine step_append_any _ rfl _ _ 39 rfl w.heap.size 43 ir (.agg #[.string ByteArray.empty, .int .i64 0, .int .i8 0, .string ByteArray.empty]) 4 48 Try.underlying39 hir hr0 hr1 hr2 rfl (by decide) u9 lo (cells4 dn) rfl (cw.1.alloc _) _ 1 [.string (joinT (rest.take k)), .int .i64 (wideT (rest.take k) : Nat), .int .i8 3, .string ⟨#[]⟩] rfl (run.readsN_new w7 [.string (joinT (rest.take k)), .int .i64 (wideT (rest.take k) : Nat), .int .i8 3, .string ⟨#[]⟩] 1 4 _ rfl) one4 (by unfold maxLen; omega) (by omega) (by have := cw.2.size; simp; omega) ?_; intro v8 w8 hown8 hgrow hold hstep))
            rename_i hH
            have c8 := hH.2
            have h8 : Hid (w8.ownsRow w.heap.size 43 4 v8 (lo + 1) (cells4 (dn ++ [⟨joinT (rest.take k), wideT (rest.take k), 3, e0⟩]))) := by
              show World.ownsRow _ _ _ _ _ _ _; rw [← snoc4]; exact hown8
            have HLO2 : Hid (lo + 1 = (dn ++ [(⟨joinT (rest.take k), wideT (rest.take k), 3, e0⟩ : LV)]).length) := by show _ = _; rw [HLO.out]; simp only [List.length_append, List.length_singleton]
            clear hown8 hgrow hold hstep hH cw hst HXT HKT htl hbj hbw HLO hj0 hj1 HWT
            by_cases hce : cap0 = k
            · have H5 := run.hid (HNIL.out hce)
              have H6 := hdl2 hce
              subst hce
              clear HNIL HDR hdl2
              go_wp2
              go_roundw
              case rel => exact ⟨lo + 1, f - 1, rest.drop (cap0), _, by omega, H5, HKD, by omega, h8, HLO2, HE, c8⟩
              case measure => simp [lenOf]; omega
            · clear HNIL hdl2
              go_wp2
              go_roundw
              case rel => exact ⟨lo + 1, f - 1, rest.drop (k), _, by omega, HDR, HKD, by omega, h8, HLO2, HE, c8⟩
              case measure => simp [lenOf]; omega

end Go.Proofs.Ytgniobgadilpgaa.wrp
