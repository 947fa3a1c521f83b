/-
  The walk of the layer canvas: lines from point to point.
-/
import Derived.Test.YtbfheehaagcmeaaDoorCanFloor
import Derived.Test.YtbfheehaagcmeaaDoorCanLines
import Derived.Test.YtbfheehaagcmeaaDoorCanPts
namespace Go.Proofs.YtbfheehaagcmeaaDoor.can
open Go.RowKit Go.Proofs Go.Proofs.YtbfheehaagcmeaaDoor.flo
set_option linter.unusedVariables false

theorem nan_write (s : Bool) (t : Nat) : numW D (D.write (.nan s (D.quiet t))) = false := by
  have h2 : (D.quiet t % D.binade) ≠ 0 := by
    intro h
    have h3 := congrArg (fun n => n.testBit 51) h
    have e : D.binade = 2 ^ 52 := rfl
    simp only [e, Nat.testBit_mod_two_pow] at h3
    have e2 : D.quiet t = t ||| 2 ^ 51 := rfl
    rw [e2, Nat.testBit_or, Nat.testBit_two_pow_self] at h3
    simp at h3
  show decide (rungW D (D.word s (D.infRung + D.quiet t % D.binade)) ≤ D.infRung) = false
  have h4 := Nat.mod_lt (D.quiet t) (show 0 < D.binade from binade_pos D)
  have h5 : D.infRung + D.binade ≤ D.signWeight := by decide
  rw [(word_read D s (r := D.infRung + D.quiet t % D.binade) (by omega)).2]
  simp; omega

theorem call_floor_nan {x : Nat} (hx : numW D x = false) (w : World) : ∃ y n, (callFunc 71 #[F x]).run Tryd.prog w = .ok (.value (F y)) (w.drewN n) ∧ numW D y = false := by
  rw [run_callFunc_extern Tryd.func71 (by kernel_rfl) (by kernel_rfl) (by kernel_rfl) (e := Extern.MathFloor.toIntegral "math.archFloor" .down) (by kernel_rfl)]
  obtain ⟨s, t, e⟩ := nan_read hx
  have hd : FloatKind.f64.decode x = .nan s t := e
  have h0 : Extern.MathFloor.toIntegral "math.archFloor" .down #[F x] = Extern.MathFloor.toIntegral.match_1 (fun _ => Sem Value) (FloatKind.f64.decode x) (fun s t => _) (fun d => pure (F (FloatKind.f64.encode (d.integral .down)))) := rfl
  rw [h0, hd]
  simp only
  split
  · exact ⟨x, 0, rfl, hx⟩
  · refine ⟨if (Question.cut (.extern "math.Floor,Ceil,Trunc,RoundToEven.signallingNaN kept" 2) (w.tape w.drawn (.extern "math.Floor,Ceil,Trunc,RoundToEven.signallingNaN kept" 2)) == 1) = true then x else FloatKind.f64.encode (.nan s (FloatKind.f64.format.quiet t)), 1, ?_, ?_⟩
    · simp only [Sem.run_bind, run_choose_drew, Sem.run_pure]
      rfl
    · split
      · exact hx
      · exact nan_write s t


set_option maxRecDepth 100000 in
set_option maxHeartbeats 400000 in
theorem floor_nan (x : Nat) (hx : numW D x = false) (w : World) : Calls Tryd.prog 63 #[F x] w fun e w' => ∃ y, e = .returned (F y) ∧ numW D y = false ∧ ∃ n, w' = w.drewN n := by
  obtain ⟨y, n, K, hy⟩ := call_floor_nan hx w
  have HY := run.hid hy
  clear hx hy
  go_enter Tryd.func63, Tryd.ntmps63
  go_wp2
  go_ret
  exact ⟨y, rfl, HY.out, n, rfl⟩

def HALF : Nat := 4602678819172646912
def LOW : Nat := 13920626448202203136
def TOP : Nat := 4697254411347427328
theorem num_half : numW D HALF = true := by decide +kernel
theorem num_low : numW D LOW = true := by decide +kernel
theorem num_top : numW D TOP = true := by decide +kernel
def inB (y : Nat) : Bool := (D.order y LOW == some .gt || D.order y LOW == some .eq) && (D.order y TOP == some .lt)
/-- a coordinate's dot -/
def dotT (v : Nat) : Option Int := match oop .add (num v) (num HALF) with | none => none | some r => if inB (floorW r) then some (toI (floorW r)) else none

def R20 : Nat := (1023 + 20) * D.binade
theorem rung_top : rungW D TOP = R20 ∧ negW D TOP = false ∧ rungW D LOW = R20 ∧ negW D LOW = true := by decide +kernel
theorem V_20 : V D R20 = 1048576 * 2 ^ (-D.leastPlace).toNat := by decide +kernel
theorem in_toI {y : Nat} (h : inB y = true) : (D.read y).toInt .zero = some (toI y) ∧ -1048576 ≤ toI y ∧ toI y < 1048576 := by
  unfold inB at h
  simp only [Bool.and_eq_true, Bool.or_eq_true, beq_iff_eq] at h
  obtain ⟨h1, h2⟩ := h
  have hy : numW D y = true := by
    cases hc : numW D y with
    | true => rfl
    | false => rw [order_nan D hfD (.inl hc)] at h2; cases h2
  obtain ⟨t1, t2, t3, t4⟩ := rung_top
  rw [order_key D hfD hy num_low, cmp_def] at h1
  rw [order_key D hfD hy num_top, cmp_def] at h2
  have k1 : key D TOP = R20 := by unfold key; rw [t1, t2]; rfl
  have k2 : key D LOW = -(R20 : Int) := by unfold key; rw [t3, t4]; rfl
  have l1 : key D LOW ≤ key D y := by
    by_cases hc : key D y < key D LOW
    · rw [if_pos hc] at h1; rcases h1 with h1 | h1 <;> cases h1
    · omega
  have l2 : key D y < key D TOP := by
    by_cases hc : key D y < key D TOP
    · exact hc
    · rw [if_neg hc] at h2
      split at h2 <;> cases h2
  rw [k2] at l1
  rw [k1] at l2
  have hkt : negW D y = true → key D y = -(rungW D y : Int) := by intro h; unfold key sg; rw [h]; rfl
  have hkf : negW D y = false → key D y = (rungW D y : Int) := by intro h; unfold key sg; rw [h]; rfl
  have hr : rungW D y ≤ R20 := by
    cases hn : negW D y with
    | true => have := hkt hn; omega
    | false => have := hkf hn; omega
  have hR : R20 < D.infRung := by decide +kernel
  have hf : finW D y = true := by unfold finW; simp; omega
  have ht := toInt_fin D hf hlD
  have hV := V_le D hr
  rw [V_20] at hV
  have hd := Nat.div_le_div_right (c := 2 ^ (-D.leastPlace).toNat) hV
  rw [Nat.mul_div_cancel _ (Nat.two_pow_pos _)] at hd
  have e3 : toI y = sg (negW D y) (V D (rungW D y) / 2 ^ (-D.leastPlace).toNat) := by unfold toI; rw [ht]; rfl
  have hd2 : negW D y = false → V D (rungW D y) / 2 ^ (-D.leastPlace).toNat < 1048576 := by
    intro hn
    have hr2 : rungW D y < R20 := by have := hkf hn; omega
    have hV2 := V_mono D hr2
    rw [V_20] at hV2
    exact (Nat.div_lt_iff_lt_mul (Nat.two_pow_pos (-D.leastPlace).toNat)).2 hV2
  refine ⟨by rw [ht, e3], ?_⟩
  rw [e3]
  clear hV ht e3
  generalize V D (rungW D y) / 2 ^ (-D.leastPlace).toNat = q at hd hd2 ⊢
  cases hn : negW D y with
  | true => unfold sg; simp only [if_true]; omega
  | false =>
    have := hd2 hn
    unfold sg
    simp only [Bool.false_eq_true, if_false]
    omega
theorem dot_plane {v : Nat} {x : Int} (h : dotT v = some x) : inPlane x = true := by
  unfold dotT at h
  split at h
  · cases h
  · split at h
    · rename_i hi
      obtain ⟨-, h1, h2⟩ := in_toI hi
      cases h
      unfold inPlane
      simp; omega
    · cases h
theorem o3a' : arith3 .add := .inl rfl

set_option maxRecDepth 100000 in
set_option maxHeartbeats 2000000 in
theorem dotc_any (v : Nat) (w : World) : Calls Tryd.prog 53 #[F v] w fun e w' => e = .returned (.tuple #[.int .i64 ((dotT v).getD 0), .bool (dotT v).isSome]) ∧ ∃ n, w' = w.drewN n := by
  have HD : Hid (∀ r, num r = oop .add (num v) (num HALF) → dotT v = match num r with | none => none | some r => if inB (floorW r) then some (toI (floorW r)) else none) := fun r h => by unfold dotT; rw [h]
  generalize dotT v = dv at *
  go_enter Tryd.func53, Tryd.ntmps53
  go_wp2
  obtain ⟨r, n1, h1, g1, b1⟩ := bin_fop (P := Tryd.prog) o3a' 45 v HALF w
  unfold HALF at h1
  have hdv := HD.out r g1
  rw [h1]
  clear h1 b1 g1 HD
  cases hr : numW D r with
  | false =>
    have HN := run.hid (fun w' => floor_nan r hr w')
    rw [num_none hr] at hdv
    obtain rfl : dv = none := hdv
    clear hr
    go_wp2_with fail
    refine (HN.out _).mono ?_
    rintro e w2 ⟨y, rfl, hy, n2, rfl⟩
    have E1 := bin_geq 45 y LOW
    rw [order_nan D hfD (.inl hy)] at E1
    change binOp .geq 45 _ _ = pure (.bool false) at E1
    unfold LOW at E1
    clear hy
    go_wp2
    go_ret2
    exact ⟨rfl, _, rfl⟩
  | true =>
    have HN := run.hid (fun w' => floor_any r hr w')
    rw [num_some hr] at hdv
    replace hdv : dv = if inB (floorW r) then some (toI (floorW r)) else none := hdv
    have HDV := run.hid hdv
    clear hr hdv
    have E1 := bin_geq 45 (floorW r) LOW
    have E2 := bin_lss 45 (floorW r) TOP
    have HI := run.hid (fun h => in_toI (y := floorW r) h)
    have HB := run.hid (show inB (floorW r) = ((D.order (floorW r) LOW == some .gt || D.order (floorW r) LOW == some .eq) && (D.order (floorW r) TOP == some .lt)) from rfl)
    generalize (D.order (floorW r) LOW == some .gt || D.order (floorW r) LOW == some .eq) = c1 at *
    generalize (D.order (floorW r) TOP == some .lt) = c2 at *
    unfold LOW at E1
    unfold TOP at E2
    go_wp2_with fail
    refine (HN.out _).mono ?_
    rintro e w2 ⟨rfl, rfl⟩
    cases c1 with
    | false =>
      obtain rfl : dv = none := by rw [HDV.out, HB.out]; rfl
      clear HN HI HB HDV E2
      go_wp2
      go_ret2
      exact ⟨rfl, _, rfl⟩
    | true =>
      cases c2 with
      | false =>
        obtain rfl : dv = none := by rw [HDV.out, HB.out]; rfl
        clear HN HI HB HDV
        go_wp2
        go_ret2
        exact ⟨rfl, _, rfl⟩
      | true =>
        obtain ⟨i1, i2, i3⟩ := HI.out (by rw [HB.out]; rfl)
        obtain ⟨m, hm⟩ : ∃ m, toI (floorW r) = m := ⟨_, rfl⟩
        obtain rfl : dv = some m := by rw [HDV.out, HB.out, ← hm]; rfl
        have Ec := fun w => run_convert_float_int (P := Tryd.prog) w 45 3 .f64 .i64 (floorW r) (toI (floorW r)) (by rw [Tryd.underlying45]; rfl) Tryd.underlying3 (by
          unfold floatToIntVal
          have e : (FloatKind.f64.decode (floorW r)).toInt .zero = some (toI (floorW r)) := i1
          rw [e]
          simp only
          rw [if_pos]
          have h1 : IntKind.i64.min = -9223372036854775808 := by decide
          have h2 : IntKind.i64.max = 9223372036854775807 := by decide
          omega)
        rw [hm] at Ec
        clear HN HI HB HDV i1 i2 i3 hm
        generalize floorW r = y at *
        go_wp2
        go_ret2
        exact ⟨rfl, _, rfl⟩

/-- a path: where it stands, what is set -/
def pathStep (st : Option (Int × Int) × (Int → Int → Bool)) (p : Nat × Nat) : Option (Int × Int) × (Int → Int → Bool) :=
  match dotT p.1, dotT p.2 with
  | some x, some y => (some (x, y), plots st.2 (lineL (st.1.getD (x, y)).1 (st.1.getD (x, y)).2 x y (lineN (st.1.getD (x, y)).1 (st.1.getD (x, y)).2 x y).toNat))
  | _, _ => st
def pathT (st : Option (Int × Int) × (Int → Int → Bool)) (l : List (Nat × Nat)) : Option (Int × Int) × (Int → Int → Bool) := l.foldl pathStep st
theorem path_snoc (st : Option (Int × Int) × (Int → Int → Bool)) (l : List (Nat × Nat)) (p : Nat × Nat) : pathT st (l ++ [p]) = pathStep (pathT st l) p := by unfold pathT; rw [List.foldl_append]; rfl
theorem step_no1 {st : Option (Int × Int) × (Int → Int → Bool)} {p : Nat × Nat} (h : dotT p.1 = none) : pathStep st p = st := by unfold pathStep; rw [h]
theorem step_no2 {st : Option (Int × Int) × (Int → Int → Bool)} {p : Nat × Nat} (h : dotT p.2 = none) : pathStep st p = st := by unfold pathStep; rw [h]; cases dotT p.1 <;> rfl
theorem step_yes {st : Option (Int × Int) × (Int → Int → Bool)} {p : Nat × Nat} {x y : Int} (h : dotT p.1 = some x) (h2 : dotT p.2 = some y) : pathStep st p = (some (x, y), plots st.2 (lineL (st.1.getD (x, y)).1 (st.1.getD (x, y)).2 x y (lineN (st.1.getD (x, y)).1 (st.1.getD (x, y)).2 x y).toNat)) := by unfold pathStep; rw [h, h2]
def inPl (o : Option (Int × Int)) : Prop := ∀ p, o = some p → inPlane p.1 = true ∧ inPlane p.2 = true

set_option maxRecDepth 100000 in
set_option maxHeartbeats 4000000 in
theorem path_any (B b g W H : Nat) (S : Int → Int → Bool) (l : List (Nat × Nat)) (a : Option Addr) (cap : Nat) (w : World) (hG : 2 < B) (hd : Dots w) (h : Canvas B b g W H S w)
    (hR : ∀ k, k < l.length → ∃ pb off, a = some ⟨pb, off, none⟩ ∧ pb ≠ g ∧ w.cell? ⟨pb, off + k, none⟩ = some (C (l.getD k (0, 0)))) (hlen : l.length ≤ 140737488355328) :
    Calls Tryd.prog 34 #[.pointer (some ⟨b, 0, none⟩), .slice a l.length cap] w fun e w' => e = .returned (.int .i64 0) ∧ Canvas B b g W H (pathT (none, S) l).2 w' ∧ w.grownBy w' (some g) := by
  obtain ⟨N, hN⟩ : ∃ N, N = l.length := ⟨_, rfl⟩
  have HRR : Hid (∀ w', w.grownBy w' (some g) → ∀ k, k < N → ∃ pb off, a = some ⟨pb, off, none⟩ ∧ w'.cell? ⟨pb, off + k, none⟩ = some (C (l.getD k (0, 0)))) := by
    intro w' hg k hk
    obtain ⟨pb, off, h1, h2, h3⟩ := hR k (by rw [← hN]; exact hk)
    exact ⟨pb, off, h1, hg.cell h3 (by simpa using h2)⟩
  rw [← hN] at hlen ⊢
  have HN := run.hid hN
  have HH := run.hid h
  have HDD : Hid (∀ w', w.grownBy w' (some g) → Dots w') := fun w' hg => hd.of hg (by have := h.2.1; omega)
  clear hN hR h hd
  go_enter Tryd.func34, Tryd.ntmps34
  go_wp2
  go_loopw [5, 6, 7, 18] (fun fv ax ay kv wr => ∃ k : Nat, k ≤ N ∧ kv = .int .i64 k ∧ ∃ (o : Option (Int × Int)) (T : Int → Int → Bool), Hid (pathT (none, S) (l.take k) = (o, T)) ∧ Hid (inPl o) ∧ fv = .bool o.isNone ∧ ax = .int .i64 (o.getD (0, 0)).1 ∧ ay = .int .i64 (o.getD (0, 0)).2 ∧ Hid (Canvas B b g W H T wr) ∧ Hid (w.grownBy wr (some g))) (fun _ _ _ v _ => N - (intOf v).toNat)
  case atStart => exact ⟨0, Nat.zero_le _, rfl, none, S, rfl, (fun _ h => by cases h), rfl, rfl, rfl, HH.out, World.grownBy.refl _ _⟩
  case round =>
    obtain ⟨k, hk, rfl, o, T, HP, HI, rfl, rfl, rfl, HC, HG⟩ := hrel
    by_cases hlt : k < N
    · obtain ⟨pb, off, rfl, hc⟩ := HRR.out wr HG.out k hlt
      obtain ⟨⟨p1, p2⟩, hp⟩ : ∃ p, p = l.getD k (0, 0) := ⟨_, rfl⟩
      have HT := run.hid (show pathT (none, S) (l.take (k + 1)) = pathStep (o, T) (p1, p2) by
        have h1 : k < l.length := by rw [← HN.out]; exact hlt
        have h2 : l[k] = (p1, p2) := by rw [hp]; simp [List.getD_eq_getElem?_getD, h1]
        rw [List.take_succ_eq_append_getElem h1, path_snoc, HP.out, h2])
      rw [← hp] at hc
      clear hp
      have HA1 := run.hid (fun w' => dotc_any p1 w')
      have HA2 := run.hid (fun w' => dotc_any p2 w')
      obtain ⟨d1, hd1⟩ : ∃ d, dotT p1 = d := ⟨_, rfl⟩
      obtain ⟨d2, hd2⟩ : ∃ d, dotT p2 = d := ⟨_, rfl⟩
      rw [hd1] at HA1
      rw [hd2] at HA2
      have HD1 := run.hid hd1
      have HD2 := run.hid hd2
      clear hd1 hd2
      go_wp2_with fail
      refine (HA1.out _).mono ?_
      rintro e w2 ⟨rfl, n1, rfl⟩
      go_wp2_with fail
      refine (HA2.out _).mono ?_
      rintro e w3 ⟨rfl, n2, rfl⟩
      rw [World.drewN_drewN]
      generalize n1 + n2 = n at *
      have HC2 := run.hid (HC.out.below (drewN_below wr.heap.size wr n))
      have HG2 := run.hid (run.grown_trans HG.out (drewN_grown wr n (some g)) (.inl rfl))
      clear HC HG HA1 HA2 hc
      generalize wr.drewN n = wq at *
      cases d1 with
      | none =>
        have HPn : Hid (pathT (none, S) (l.take (k + 1)) = (o, T)) := HT.out.trans (step_no1 HD1.out)
        go_wp2
        go_roundw
        case rel => exact ⟨k + 1, by omega, by go_num, o, T, HPn, HI, rfl, rfl, rfl, HC2, HG2⟩
        case measure => simp [intOf]; omega
      | some x =>
        cases d2 with
        | none =>
          have HPn : Hid (pathT (none, S) (l.take (k + 1)) = (o, T)) := HT.out.trans (step_no2 HD2.out)
          go_wp2
          go_roundw
          case rel => exact ⟨k + 1, by omega, by go_num, o, T, HPn, HI, rfl, rfl, rfl, HC2, HG2⟩
          case measure => simp [intOf]; omega
        | some y =>
          have HPn : Hid (_ = _) := HT.out.trans (step_yes HD1.out HD2.out)
          have HIx := run.hid (dot_plane HD1.out)
          have HIy := run.hid (dot_plane HD2.out)
          have HIn : Hid (inPl (some (x, y))) := fun p h => by cases h; exact ⟨HIx.out, HIy.out⟩
          have hdq := run.hid (HDD.out wq HG2.out)
          cases o with
          | none =>
            have HL := run.hid (line_any B b g W H T x y x y wq hG hdq.out HC2.out ⟨HIx.out, HIy.out, HIx.out, HIy.out⟩)
            go_wp2_with fail
            refine HL.out.mono ?_
            rintro e w4 ⟨rfl, hc4, hg4⟩
            have HC4 := run.hid hc4
            have HG4 := run.hid (run.grown_trans HG2.out hg4 (.inl rfl))
            clear HL hc4 hg4 HC2 HG2 hdq
            go_wp2
            go_roundw
            case rel => exact ⟨k + 1, by omega, by go_num, _, _, HPn, HIn, rfl, rfl, rfl, HC4, HG4⟩
            case measure => simp [intOf]; omega
          | some q =>
            obtain ⟨q1, q2⟩ := q
            have HIq := run.hid (HI.out _ rfl)
            have HL := run.hid (line_any B b g W H T q1 q2 x y wq hG hdq.out HC2.out ⟨HIq.out.1, HIq.out.2, HIx.out, HIy.out⟩)
            go_wp2_with fail
            refine HL.out.mono ?_
            rintro e w4 ⟨rfl, hc4, hg4⟩
            have HC4 := run.hid hc4
            have HG4 := run.hid (run.grown_trans HG2.out hg4 (.inl rfl))
            clear HL hc4 hg4 HC2 HG2 hdq
            go_wp2
            go_roundw
            case rel => exact ⟨k + 1, by omega, by go_num, _, _, HPn, HIn, rfl, rfl, rfl, HC4, HG4⟩
            case measure => simp [intOf]; omega
    · obtain rfl : k = N := by omega
      have HPe : Hid (pathT (none, S) l = (o, T)) := by
        have := HP.out
        rwa [List.take_of_length_le (by rw [← HN.out]; exact Nat.le_refl _)] at this
      go_wp2
      go_ret
      exact ⟨rfl, by rw [HPe.out]; exact HC.out, HG.out⟩
end Go.Proofs.YtbfheehaagcmeaaDoor.can
