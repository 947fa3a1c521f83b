/-
  The walks of the document's canvas: its size, rows, ways.
-/
import Derived.Test.YtbfheehaagcmeaaDoorCanRefA
import Derived.Test.YtbfheehaagcmeaaDoorCanPath
import Derived.Test.YtbfheehaagcmeaaDoorCanWholeP
import Derived.Test.YtbfheehaagcmeaaDoorCanTellA
import Derived.Test.YtbfheehaagcmeaaDoorCanPts
import Derived.Test.YtbfheehaagcmeaaDoorCanCircs
import Derived.Test.YtbfheehaagcmeaaDoorRack
import Derived.Test.YtbfheehaagcmeaaDoorCanWholeW
namespace Go.Proofs.YtbfheehaagcmeaaDoor.can
open Go.RowKit Go.Proofs Go.Proofs.YtbfheehaagcmeaaDoor.flo
set_option linter.unusedVariables false

set_option maxHeartbeats 1000000 in
theorem rsize_any (B b g W H : Nat) (S : Int → Int → Bool) (w : World) (h : RCan B b g W H S w) :
    Calls Tryd.prog 10 #[.pointer (some ⟨b, 0, none⟩)] w fun e w' => e = .returned (.tuple #[.int .i64 (2 * (W : Int)), .int .i64 (4 * (H : Int))]) ∧ Below w.heap.size w w' := by
  obtain ⟨-, -, d, h, -⟩ := h
  have e0 := h.h0
  have e1 := h.h1
  have b1 := h.wide
  have b2 := h.high
  clear h
  go_enter Tryd.func10, Tryd.ntmps10
  go_upto_region 1 with fail
  go_quiet (fail)
  go_wp2
  go_ret2
  exact ⟨rfl, drewN_below _ _ _⟩

set_option maxHeartbeats 4000000 in
theorem whole_any (v : Nat) (w : World) : Calls Tryd.prog 52 #[F v] w fun e w' => e = .returned (.tuple #[.int .i64 ((dotT v).getD 0), .bool (dotT v).isSome]) ∧ ∃ n, w' = w.drewN n := by
  have HD : Hid (∀ r, num r = oop .add (num v) (num HALF) → dotT v = match num r with | none => none | some r => if inB (floorW r) then some (toI (floorW r)) else none) := fun r h => by unfold dotT; rw [h]; generalize oop .add (num v) (num HALF) = o; cases o <;> rfl
  generalize dotT v = dv at *
  go_enter Tryd.func52, Tryd.ntmps52
  go_wp2
  obtain ⟨r, n1, h1, g1, b1⟩ := bin_fop (P := Tryd.prog) o3a' 45 v HALF w
  unfold HALF at h1
  have hdv := HD.out r g1
  rw [h1]
  clear h1 b1 g1 HD
  cases hr : numW D r with
  | false =>
    have HN := run.hid (fun w' => floor_nan r hr w')
    rw [num_none hr] at hdv
    obtain rfl : dv = none := hdv
    clear hr
    go_wp2_with fail
    refine (HN.out _).mono ?_
    rintro e w2 ⟨y, rfl, hy, n2, rfl⟩
    have E1 := bin_geq 45 y LOW
    rw [order_nan D hfD (.inl hy)] at E1
    change binOp .geq 45 _ _ = pure (.bool false) at E1
    unfold LOW at E1
    clear hy
    go_wp2
    go_ret2
    exact ⟨rfl, _, rfl⟩
  | true =>
    have HN := run.hid (fun w' => floor_any r hr w')
    rw [num_some hr] at hdv
    replace hdv : dv = if inB (floorW r) then some (toI (floorW r)) else none := hdv
    have HDV := run.hid hdv
    clear hr hdv
    have E1 := bin_geq 45 (floorW r) LOW
    have E2 := bin_lss 45 (floorW r) TOP
    have HI := run.hid (fun h => in_toI (y := floorW r) h)
    have HB := run.hid (show inB (floorW r) = ((D.order (floorW r) LOW == some .gt || D.order (floorW r) LOW == some .eq) && (D.order (floorW r) TOP == some .lt)) from rfl)
    generalize (D.order (floorW r) LOW == some .gt || D.order (floorW r) LOW == some .eq) = c1 at *
    generalize (D.order (floorW r) TOP == some .lt) = c2 at *
    unfold LOW at E1
    unfold TOP at E2
    go_wp2_with fail
    refine (HN.out _).mono ?_
    rintro e w2 ⟨rfl, rfl⟩
    cases c1 with
    | false =>
      obtain rfl : dv = none := by rw [HDV.out, HB.out]; rfl
      clear HN HI HB HDV E2
      go_wp2
      go_ret2
      exact ⟨rfl, _, rfl⟩
    | true =>
      cases c2 with
      | false =>
        obtain rfl : dv = none := by rw [HDV.out, HB.out]; rfl
        clear HN HI HB HDV
        go_wp2
        go_ret2
        exact ⟨rfl, _, rfl⟩
      | true =>
        obtain ⟨i1, i2, i3⟩ := HI.out (by rw [HB.out]; rfl)
        obtain ⟨m, hm⟩ : ∃ m, toI (floorW r) = m := ⟨_, rfl⟩
        obtain rfl : dv = some m := by rw [HDV.out, HB.out, ← hm]; rfl
        have Ec := fun w => run_convert_float_int (P := Tryd.prog) w 45 3 .f64 .i64 (floorW r) (toI (floorW r)) (by rw [Tryd.underlying45]; rfl) Tryd.underlying3 (by
          unfold floatToIntVal
          have e : (FloatKind.f64.decode (floorW r)).toInt .zero = some (toI (floorW r)) := i1
          rw [e]
          simp only
          rw [if_pos]
          have h1 : IntKind.i64.min = -9223372036854775808 := by decide
          have h2 : IntKind.i64.max = 9223372036854775807 := by decide
          omega)
        rw [hm] at Ec
        clear HN HI HB HDV i1 i2 i3 hm
        generalize floorW r = y at *
        go_wp2
        go_ret2
        exact ⟨rfl, _, rfl⟩


theorem reads_txt {w : World} {v : Value} {L : List ByteArray} (h : run.Reads w v (L.map Value.string)) {k : Nat} (hk : k < L.length) : ∃ b off c, v = .slice (some ⟨b, off, none⟩) L.length c ∧ b < w.heap.size ∧ w.cell? ⟨b, off + k, none⟩ = some (.string (L.getD k ByteArray.empty)) := by
  obtain ⟨a, c, rfl, hc, -⟩ := h
  obtain ⟨b, off, rfl, hlt, hcell⟩ := hc (by intro e; have := congrArg List.length e; rw [List.length_map, List.length_nil] at this; omega)
  exact ⟨b, off, c, by rw [List.length_map], hlt, hcell k _ (by rw [List.getElem?_map, List.getElem?_eq_getElem hk]; simp [List.getD_eq_getElem?_getD, hk])⟩

set_option maxHeartbeats 2000000 in
/-- two lists of the same texts -/
theorem rsame_eq (L : List ByteArray) (u v : Value) (w : World) (hu : run.Reads w u (L.map Value.string)) (hv : run.Reads w v (L.map Value.string)) (hl : L.length ≤ 1099511627776) :
    Calls Tryd.prog 37 #[u, v] w fun e w' => e = .returned (.bool true) ∧ Below w.heap.size w w' := by
  have HU := run.hid hu
  have HV := run.hid hv
  obtain ⟨a1, c1, rfl, -, -⟩ := hu
  obtain ⟨a2, c2, rfl, -, -⟩ := hv
  rw [List.length_map] at *
  generalize hN : L.length = N at *
  have HN := run.hid hN
  clear hN
  go_enter Tryd.func37, Tryd.ntmps37
  go_wp2
  go_loopw [5] (fun vi wr => ∃ i : Nat, i ≤ N ∧ vi = .int .i64 i ∧ Below w.heap.size w wr) (fun vi _ => (N - intOf vi).toNat)
  case atStart => exact ⟨0, by omega, rfl, Below.refl _ _⟩
  case round =>
    obtain ⟨i, hi, rfl, hb⟩ := hrel
    by_cases hil : i < N
    · obtain ⟨b1, o1, c1', e1, l1, g1⟩ := reads_txt HU.out (k := i) (by rw [HN.out]; exact hil)
      obtain ⟨b2, o2, c2', e2, l2, g2⟩ := reads_txt HV.out (k := i) (by rw [HN.out]; exact hil)
      simp only [Value.slice.injEq] at e1 e2
      obtain ⟨rfl, -, rfl⟩ := e1
      obtain ⟨rfl, -, rfl⟩ := e2
      have k1 := (hb.cell (p := ⟨b1, o1 + i, none⟩) l1).trans g1
      have k2 := (hb.cell (p := ⟨b2, o2 + i, none⟩) l2).trans g2
      have hs := hb.size
      clear g1 g2
      generalize L.getD i ByteArray.empty = tx at *
      have HB := run.hid hb
      clear hb
      go_upto_region 6 with fail
      go_quiet (fail)
      have HB2 := run.hid (HB.out.trans (drewN_below _ wr nq))
      clear k1 k2 HB
      go_wp2
      go_roundw
      case rel => exact ⟨i + 1, by omega, by go_num, HB2.out⟩
      case measure => simp [intOf]; omega
    · obtain rfl : i = N := by omega
      have HB := run.hid hb
      clear hb
      go_wp2
      go_ret
      exact ⟨rfl, HB.out⟩
end Go.Proofs.YtbfheehaagcmeaaDoor.can
namespace Go.Proofs.YtbfheehaagcmeaaDoor.can
open Go.RowKit Go.Proofs
set_option linter.unusedVariables false

theorem run_str_own2 {P : Program} {w : World} {B n : Nat} {t : TypeId} {v : Value} {zs : List Int} (src dst e : TypeId) (hs : P.underlying src = some (.slice e)) (he : P.underlying e = some (.int .i32)) (hd : P.underlying dst = some .string)
    (h : w.ownsRow B t 1 v n (zs.map (Value.int .i32))) : (convert src dst v).run P w = .ok (.string (strOf zs)) w := by
  have hl : zs.length = n := by have := h.1; simpa using this
  rcases h.2 with ⟨rfl, h0⟩ | ⟨g, cap, cur, rfl, -⟩
  · have : zs = [] := List.length_eq_zero_iff.1 (by omega)
    subst this
    exact run_convert_runes_nil (P := P) w src dst e 0 0 hs he hd
  · have hr := run_convert_runes (P := P) w src dst e ⟨g, 0, none⟩ n cap zs (by omega) hs he hd (fun j hj => by
      rw [run.add_none, Nat.zero_add, h.cellAt j (by omega)]
      simp [List.getD_eq_getElem?_getD, hj])
    rw [hr, List.take_of_length_le (by omega)]
theorem glyphs_succ (S : Int → Int → Bool) (x y : Nat) : (glyphs S (x + 1) y).map (Value.int .i32) = (glyphs S x y).map (Value.int .i32) ++ [.int .i32 (glyphC (cellByte S x y))] := by
  unfold glyphs
  rw [List.range_succ, List.map_append, List.map_append]
  rfl
def rowsV (S : Int → Int → Bool) (W y : Nat) : List Value := (List.range y).map fun j => .string (rowS S W j)
theorem rowsV_succ (S : Int → Int → Bool) (W y : Nat) : rowsV S W (y + 1) = rowsV S W y ++ [.string (rowS S W y)] := by
  unfold rowsV
  rw [List.range_succ, List.map_append]
  rfl
theorem eight_cell (w : World) (k : Nat) (hk : k < 8) : (w.alloc (.cells #[.int .i64 1, .int .i64 2, .int .i64 4, .int .i64 64, .int .i64 8, .int .i64 16, .int .i64 32, .int .i64 128] 3)).cell? ⟨w.heap.size, k, none⟩ = some (.int .i64 (bitv k)) := by
  rw [World.cell?_alloc_at _ _ _ _ rfl]
  have h : k = 0 ∨ k = 1 ∨ k = 2 ∨ k = 3 ∨ k = 4 ∨ k = 5 ∨ k = 6 ∨ k = 7 := by omega
  rcases h with rfl | rfl | rfl | rfl | rfl | rfl | rfl | rfl <;> rfl

set_option maxRecDepth 100000 in
set_option maxHeartbeats 4000000 in
theorem rrows_any (B b g W H : Nat) (S : Int → Int → Bool) (w : World) (h : RCan B b g W H S w) :
    Calls Tryd.prog 36 #[.pointer (some ⟨b, 0, none⟩)] w fun e w' => ∃ v, e = .returned v ∧ w'.ownsRow w.heap.size 9 1 v H (rowsV S W H) ∧ Below w.heap.size w w' := by
  obtain ⟨i0, hi0, hz0, hz1, hz2⟩ := info_parts info_i32
  obtain ⟨is, his, sz0, sz1, sz2⟩ := info_parts info_str
  obtain ⟨hW, hH⟩ : W ≤ 4096 ∧ H ≤ 4096 := by obtain ⟨-, -, d, h, -⟩ := h; exact ⟨h.wide, h.high⟩
  have HB0 := run.hid (run.below_one w (.cells #[.int .i64 1, .int .i64 2, .int .i64 4, .int .i64 64, .int .i64 8, .int .i64 16, .int .i64 32, .int .i64 128] 3))
  have HC := run.hid (fun k hk => eight_cell w k hk)
  have HH := run.hid (h.below HB0.out)
  clear h
  go_enter Tryd.func36, Tryd.ntmps36
  go_wp2
  have HS1 := HH
  have hsz : (w.alloc (.cells #[.int .i64 1, .int .i64 2, .int .i64 4, .int .i64 64, .int .i64 8, .int .i64 16, .int .i64 32, .int .i64 128] 3)).heap.size = w.heap.size + 1 := by simp
  generalize w.alloc (.cells #[.int .i64 1, .int .i64 2, .int .i64 4, .int .i64 64, .int .i64 8, .int .i64 16, .int .i64 32, .int .i64 128] 3) = w1 at *
  generalize hr : w.heap.size = r at *
  have hr1 : r < w1.heap.size := by omega
  have HR := run.hid hr
  clear hr hsz
  obtain ⟨e0, e1⟩ : w1.cell? ⟨b, 0, none⟩ = some (.int .i64 W) ∧ w1.cell? ⟨b, 1, none⟩ = some (.int .i64 H) := by obtain ⟨-, -, d, h, -⟩ := HH.out; exact ⟨h.h0, h.h1⟩
  have hbl : b < w1.heap.size := run.lt_of_cell e0
  have E0 := run.hid e0
  have E1 := run.hid e1
  clear e0 e1
  go_loopw [5, 4] (fun vi vo wr => ∃ y : Nat, y ≤ H ∧ vi = .int .i64 y ∧ Hid (wr.ownsRow w1.heap.size 9 1 vo y (rowsV S W y)) ∧ Hid (Below w1.heap.size w1 wr)) (fun vi _ _ => (H - intOf vi).toNat)
  case atStart => exact ⟨0, Nat.zero_le _, rfl, World.ownsRow_nil _ _ _ _, Below.refl _ _⟩
  case round =>
    obtain ⟨y, hy, rfl, HOo, HBo⟩ := hrel
    have k1 := (HBo.out.cell (p := ⟨b, 1, none⟩) hbl).trans E1.out
    have hs1 := HBo.out.size
    generalize wr = wy at *
    by_cases hyl : y < H
    · have HG := run.hid (fun x => glyphs_succ S x y)
      have HRS := run.hid (rowsV_succ S W y)
      go_wp2
      clear k1
      go_loopw [7, 6] (fun vx vl wr => ∃ x : Nat, x ≤ W ∧ vx = .int .i64 x ∧ Hid (wr.ownsRow wy.heap.size 21 1 vl x ((glyphs S x y).map (Value.int .i32))) ∧ Hid (Below wy.heap.size wy wr)) (fun vx _ _ => (W - intOf vx).toNat)
      case atStart => exact ⟨0, Nat.zero_le _, rfl, World.ownsRow_nil _ _ _ _, Below.refl _ _⟩
      case round =>
        obtain ⟨x, hx, rfl, HOx, HBx⟩ := hrel
        have hs2 := HBx.out.size
        have HBX := run.hid (HBo.out.trans (HBx.out.mono hs1))
        have k0 := (HBX.out.cell (p := ⟨b, 0, none⟩) hbl).trans E0.out
        generalize wr = wx at *
        by_cases hxl : x < W
        · have HL := run.hid (fun k hk => partB_le S x y k hk)
          have HPS := run.hid (fun k => partB_succ S x y k)
          have H8 := run.hid (show cellByte S x y = partB S x y 8 from rfl)
          have H00 := run.hid (show partB S x y 0 = 0 from rfl)
          generalize partB S x y = pB at *
          go_wp2
          clear k0
          go_loopw [9, 8] (fun vi vn wr => ∃ i : Nat, i ≤ 8 ∧ vi = .int .i64 i ∧ vn = .int .i64 (pB i) ∧ Hid (∃ n, wr = wx.drewN n)) (fun vi _ _ => (8 - intOf vi).toNat)
          case atStart => exact ⟨0, by omega, rfl, by rw [H00.out]; rfl, ⟨0, rfl⟩⟩
          case round =>
            obtain ⟨i, hi, rfl, rfl, HD⟩ := hrel
            by_cases hil : i < 8
            · have hle := HL.out i (by omega)
              have hbv := bitv_le i hil
              have HPi := run.hid (HPS.out i)
              have hBW : Below w1.heap.size w1 wr := by obtain ⟨n, rfl⟩ := HD.out; exact HBX.out.trans (drewN_below _ _ n)
              have HBW := run.hid hBW
              clear hBW
              have hI : inside W H (2 * x + i / 4 : Nat) (4 * y + i % 4 : Nat) = true := by unfold inside; simp; omega
              have HA := run.hid (rhas_any B b g W H S (2 * x + i / 4 : Nat) (4 * y + i % 4 : Nat) wr (HS1.out.below HBW.out))
              rw [hI, Bool.true_and] at HA
              have e1 : ((2 * x + i / 4 : Nat) : Int) = 2 * (x : Int) + (i : Int) / 4 := by omega
              have e2 : ((4 * y + i % 4 : Nat) : Int) = 4 * (y : Int) + (i : Int) % 4 := by omega
              rw [e1, e2] at HA HPi
              clear e1 e2 hI
              generalize hS : S (2 * (x : Int) + (i : Int) / 4) (4 * (y : Int) + (i : Int) % 4) = sv at *
              clear hS
              have hc3 := (HBW.out.cell (p := ⟨r, i, none⟩) (by simp; omega)).trans (HC.out i hil)
              go_wp2_with fail
              refine HA.out.mono ?_
              rintro e w3 ⟨rfl, n3, rfl⟩
              have HD3 : Hid (∃ n, wr.drewN n3 = wx.drewN n) := by obtain ⟨n, rfl⟩ := HD.out; exact ⟨n + n3, by rw [World.drewN_drewN]⟩
              clear HA HD HBW
              cases sv with
              | true =>
                simp only [if_true] at HPi
                generalize bitv i = bv at *
                go_wp2
                clear hc3
                go_roundw
                case rel => exact ⟨i + 1, by omega, by go_num, by rw [HPi.out]; go_num, HD3⟩
                case measure => simp [intOf]; omega
              | false =>
                simp only [Bool.false_eq_true, if_false, Nat.add_zero] at HPi
                clear hc3
                go_wp2
                go_roundw
                case rel => exact ⟨i + 1, by omega, by go_num, by rw [HPi.out], HD3⟩
                case measure => simp [intOf]; omega
            · obtain rfl : i = 8 := by omega
              have hle := HL.out 8 (by omega)
              obtain ⟨n3, hn3⟩ := HD.out
              have HB3 : Hid (Below wy.heap.size wy wr) := by rw [hn3]; exact HBx.out.trans (drewN_below _ _ n3)
              have HO3 : Hid (wr.ownsRow wy.heap.size 21 1 u6 x ((glyphs S x y).map (Value.int .i32))) := by rw [hn3]; exact run.own_below HOx.out (drewN_below _ _ n3)
              have hs3 := HB3.out.size
              clear hn3 HD HOx HBx HBX
              have HGx := run.hid (HG.out x)
              rw [H8.out] at HGx
              clear H8 H00 HPS HL
              generalize pB 8 = nb at *
              by_cases h0 : nb = 0
              · subst h0
                rw [show glyphC 0 = 32 from rfl] at HGx
                go_wp2_with (at_builtin; refine run.wpList_append_any _ rfl _ _ 61 rfl wy.heap.size 21 i0 (.int .i32 0) 1 4 Tryd.underlying61 hi0 hz0 hz1 hz2 rfl (by decide) _ _ _ rfl (HO3.out.alloc _) _ 1 [.int .i32 32] rfl (run.readsN_new wr [.int .i32 32] 1 1 _ rfl) (by intro u hu; simp only [List.mem_singleton] at hu; subst hu; rfl) (by unfold maxLen; omega) (by omega) (by simp; omega) ?_)
                intro v7 w7 hown7 hgrow7 _ _
                have hb7 := run.below_append (HB3.out.alloc hs3 _) (HO3.out.alloc _) hgrow7 (by simp; omega)
                have HO7 : Hid (w7.ownsRow wy.heap.size 21 1 v7 (x + 1) ((glyphs S (x + 1) y).map (Value.int .i32))) := by show World.ownsRow _ _ _ _ _ _ _; rw [HGx.out]; exact hown7
                have HB7 := run.hid hb7
                clear hown7 hgrow7 hb7 HO3 HB3
                go_wp2
                go_roundw
                case rel => exact ⟨x + 1, by omega, by go_num, HO7, HB7⟩
                case measure => simp [intOf]; omega
              · have hg : glyphC nb = 10240 + (nb : Int) := by unfold glyphC; rw [if_neg h0]
                rw [hg] at HGx
                clear hg
                go_wp2_with (at_builtin; refine run.wpList_append_any _ rfl _ _ 61 rfl wy.heap.size 21 i0 (.int .i32 0) 1 4 Tryd.underlying61 hi0 hz0 hz1 hz2 rfl (by decide) _ _ _ rfl (HO3.out.alloc _) _ 1 [.int .i32 (10240 + (nb : Int))] rfl (run.readsN_new wr [.int .i32 (10240 + (nb : Int))] 1 1 _ rfl) (by intro u hu; simp only [List.mem_singleton] at hu; subst hu; rfl) (by unfold maxLen; omega) (by omega) (by simp; omega) ?_)
                intro v7 w7 hown7 hgrow7 _ _
                have hb7 := run.below_append (HB3.out.alloc hs3 _) (HO3.out.alloc _) hgrow7 (by simp; omega)
                have HO7 : Hid (w7.ownsRow wy.heap.size 21 1 v7 (x + 1) ((glyphs S (x + 1) y).map (Value.int .i32))) := by show World.ownsRow _ _ _ _ _ _ _; rw [HGx.out]; exact hown7
                have HB7 := run.hid hb7
                clear hown7 hgrow7 hb7 HO3 HB3
                go_wp2
                go_roundw
                case rel => exact ⟨x + 1, by omega, by go_num, HO7, HB7⟩
                case measure => simp [intOf]; omega
        · obtain rfl : x = W := by omega
          have hs := run_str_own2 (P := Tryd.prog) 61 9 21 Tryd.underlying61 Tryd.underlying21 Tryd.underlying9 HOx.out
          change (convert _ _ _).run _ _ = .ok (.string (rowS S x y)) _ at hs
          have HOo2 : Hid (wx.ownsRow w1.heap.size 9 1 u4 y (rowsV S x y)) := run.own_below HOo.out HBx.out
          clear HOx HBx HOo HG
          have hs4 : w1.heap.size ≤ wx.heap.size := by omega
          generalize rowS S x y = rt at *
          go_wp2_with (at_builtin; refine run.wpList_append_any _ rfl _ _ 59 rfl w1.heap.size 9 is (.string ByteArray.empty) 1 16 Tryd.underlying59 his sz0 sz1 sz2 rfl (by decide) _ _ _ rfl (HOo2.out.alloc _) _ 1 [.string rt] rfl (run.readsN_new wx [.string rt] 1 1 _ rfl) (by intro u hu; simp only [List.mem_singleton] at hu; subst hu; rfl) (by unfold maxLen; omega) (by omega) (by simp; omega) ?_)
          intro v7 w7 hown7 hgrow7 _ _
          have hb7 := run.below_append (HBX.out.alloc hs4 _) (HOo2.out.alloc _) hgrow7 (by simp; omega)
          have HO7 : Hid (w7.ownsRow w1.heap.size 9 1 v7 (y + 1) (rowsV S x (y + 1))) := by show World.ownsRow _ _ _ _ _ _ _; rw [HRS.out]; exact hown7
          have HB7 := run.hid hb7
          clear hown7 hgrow7 hb7 HOo2 HBX HBo hs k0
          go_wp2
          go_roundw
          case rel => exact ⟨y + 1, by omega, by go_num, HO7, HB7⟩
          case measure => simp [intOf]; omega
    · obtain rfl : y = H := by omega
      have HF := run.hid (HB0.out.trans (HBo.out.mono (by omega)))
      have HF2 := run.hid (run.own_mono HOo.out (show r ≤ w1.heap.size by omega))
      go_wp2
      go_ret
      exact ⟨_, rfl, by rw [HR.out]; exact HF2.out, by rw [HR.out]; exact HF.out⟩
end Go.Proofs.YtbfheehaagcmeaaDoor.can
namespace Go.Proofs.YtbfheehaagcmeaaDoor.can
open Go.RowKit Go.Proofs
set_option linter.unusedVariables false

/-- the points that have a dot -/
def kept1 (p : Nat × Nat) : Option (Int × Int) := match dotT p.1, dotT p.2 with | some x, some y => some (x, y) | _, _ => none
def kept (l : List (Nat × Nat)) : List (Int × Int) := l.filterMap kept1
/-- a line's dots -/
def segL (p q : Int × Int) : List (Int × Int) := lineL p.1 p.2 q.1 q.2 (lineN p.1 p.2 q.1 q.2).toNat
/-- the dots of a way from p on -/
def wayL : Int × Int → List (Int × Int) → List (Int × Int)
  | _, [] => []
  | p, q :: r => segL p q ++ wayL q r
theorem wayL_snoc : ∀ (p : Int × Int) (l : List (Int × Int)) (q : Int × Int), wayL p (l ++ [q]) = wayL p l ++ segL (l.getLastD p) q
  | p, [], q => by simp [wayL]
  | p, r :: l, q => by
    simp only [List.cons_append, wayL]
    rw [wayL_snoc r l q, List.append_assoc, List.getLastD_cons]
theorem last_take : ∀ (i : Nat) (r : List (Int × Int)) (p : Int × Int), i ≤ r.length → (r.take i).getLastD p = (p :: r).getD i (0, 0)
  | 0, r, p, _ => by simp
  | i + 1, [], p, h => by simp at h
  | i + 1, q :: r, p, h => by
    rw [List.take_succ_cons, List.getLastD_cons, last_take i r q (by simpa using h)]
    simp
theorem plots_app' (S : Int → Int → Bool) (l l' : List (Int × Int)) : plots S (l ++ l') = plots (plots S l) l' := by unfold plots; rw [List.foldl_append]
theorem step_kept (st : Option (Int × Int) × (Int → Int → Bool)) (p : Nat × Nat) : pathStep st p = match kept1 p with | none => st | some q => (some q, plots st.2 (segL (st.1.getD q) q)) := by
  unfold pathStep kept1 segL
  cases dotT p.1 <;> cases dotT p.2 <;> rfl
theorem path_some : ∀ (l : List (Nat × Nat)) (p : Int × Int) (S : Int → Int → Bool), (pathT (some p, S) l).2 = plots S (wayL p (kept l))
  | [], p, S => rfl
  | a :: l, p, S => by
    show (pathT (pathStep (some p, S) a) l).2 = _
    rw [step_kept]
    unfold kept
    cases h : kept1 a with
    | none => rw [List.filterMap_cons_none h]; exact path_some l p S
    | some q =>
      rw [List.filterMap_cons_some h]
      show (pathT (some q, plots S (segL p q)) l).2 = plots S (segL p q ++ wayL q (kept l))
      rw [path_some l q, plots_app']
theorem path_none : ∀ (l : List (Nat × Nat)) (S : Int → Int → Bool), (pathT (none, S) l).2 = match kept l with | [] => S | p :: r => plots S (segL p p ++ wayL p r)
  | [], S => rfl
  | a :: l, S => by
    show (pathT (pathStep (none, S) a) l).2 = _
    rw [step_kept]
    unfold kept
    cases h : kept1 a with
    | none => rw [List.filterMap_cons_none h]; exact path_none l S
    | some q =>
      rw [List.filterMap_cons_some h]
      show (pathT (some q, plots S (segL q q)) l).2 = plots S (segL q q ++ wayL q (kept l))
      rw [path_some l q, plots_app']
theorem segL_self (p : Int × Int) : segL p p = [p] := by
  unfold segL
  have : (lineN p.1 p.2 p.1 p.2).toNat = 0 := by unfold lineN; omega
  rw [this]
  rfl
theorem segL_head (p q : Int × Int) : p ∈ segL p q := by unfold segL lineL; simp
/-- what the document sets -/
def refPathT (S : Int → Int → Bool) : List (Int × Int) → Int → Int → Bool
  | [] => S
  | [p] => plot S p.1 p.2
  | p :: r => plots S (wayL p r)
theorem path_ref (l : List (Nat × Nat)) (S : Int → Int → Bool) (a b : Int) : refPathT S (kept l) a b = (pathT (none, S) l).2 a b := by
  rw [path_none]
  cases h : kept l with
  | nil => rfl
  | cons p r =>
    cases r with
    | nil =>
      show plot S p.1 p.2 a b = plots S (segL p p ++ wayL p []) a b
      rw [segL_self]; rfl
    | cons q r =>
      show plots S (wayL p (q :: r)) a b = plots S (segL p p ++ wayL p (q :: r)) a b
      rw [segL_self, plots_eq, plots_eq]
      congr 1
      rw [decide_eq_decide]
      have hm : p ∈ wayL p (q :: r) := List.mem_append.2 (.inl (segL_head p q))
      constructor
      · intro hx; exact List.mem_append.2 (.inr hx)
      · intro hx
        rcases List.mem_append.1 hx with h1 | h1
        · rw [List.mem_singleton] at h1; rw [h1]; exact hm
        · exact h1
theorem kept_plane {l : List (Nat × Nat)} {p : Int × Int} (h : p ∈ kept l) : inPlane p.1 = true ∧ inPlane p.2 = true := by
  obtain ⟨a, -, ha⟩ := List.mem_filterMap.1 h
  unfold kept1 at ha
  cases h1 : dotT a.1 with
  | none => rw [h1] at ha; cases ha
  | some x =>
    cases h2 : dotT a.2 with
    | none => rw [h1, h2] at ha; cases ha
    | some y =>
      rw [h1, h2] at ha
      cases ha
      exact ⟨dot_plane h1, dot_plane h2⟩
theorem kept_take {l : List (Nat × Nat)} {k : Nat} (h : k < l.length) : kept (l.take (k + 1)) = kept (l.take k) ++ (kept1 (l.getD k (0, 0))).toList := by
  unfold kept
  rw [List.take_succ_eq_append_getElem h, List.filterMap_append]
  congr 1
  have : l.getD k (0, 0) = l[k] := by simp [List.getD_eq_getElem?_getD, h]
  rw [this]
  cases hk : kept1 l[k] <;> simp [hk]
theorem kept_len (l : List (Nat × Nat)) : (kept l).length ≤ l.length := List.length_filterMap_le _ _
/-- the dots of the first lines -/
def wayTo (P : List (Int × Int)) (i : Nat) : List (Int × Int) := match P with | [] => [] | p :: r => wayL p (r.take i)
theorem wayTo_next {P : List (Int × Int)} {i : Nat} (h : i + 1 < P.length) : wayTo P (i + 1) = wayTo P i ++ segL (P.getD i (0, 0)) (P.getD (i + 1) (0, 0)) := by
  cases P with
  | nil => simp at h
  | cons p r =>
    have hr : i < r.length := by simpa using h
    show wayL p (r.take (i + 1)) = wayL p (r.take i) ++ _
    rw [List.take_succ_eq_append_getElem hr, wayL_snoc]
    rw [last_take i r p (by omega)]
    have e2 : (p :: r).getD (i + 1) (0, 0) = r[i] := by simp [List.getD_eq_getElem?_getD, hr]
    rw [e2]
theorem wayTo_end (p : Int × Int) (r : List (Int × Int)) : wayTo (p :: r) r.length = wayL p r := by
  show wayL p (r.take r.length) = _
  rw [List.take_length]
theorem wayTo_zero (P : List (Int × Int)) : wayTo P 0 = [] := by cases P <;> rfl
theorem ref_end {S S1 : Int → Int → Bool} {P : List (Int × Int)} {m i : Nat} (hm : P.length = m) (h1 : ¬ i + 1 < m) (h2 : i + 1 ≤ max m 1) (hS : S1 = (if m = 1 then plot S (P.getD 0 (0, 0)).1 (P.getD 0 (0, 0)).2 else S)) : plots S1 (wayTo P i) = refPathT S P := by
  cases P with
  | nil =>
    obtain rfl : m = 0 := by simpa using hm.symm
    rw [hS, if_neg (by omega)]
    rfl
  | cons p r =>
    cases r with
    | nil =>
      obtain rfl : m = 1 := by simpa using hm.symm
      obtain rfl : i = 0 := by omega
      rw [hS, if_pos rfl]
      rfl
    | cons q r =>
      have hl : (q :: r).length + 1 = m := by simpa using hm
      have hi : i = (q :: r).length := by simp at hl h1 h2 ⊢; omega
      have hn : m ≠ 1 := by simp at hl; omega
      rw [hS, if_neg hn, hi, wayTo_end]
      rfl
end Go.Proofs.YtbfheehaagcmeaaDoor.can
namespace Go.Proofs.YtbfheehaagcmeaaDoor.can
open Go.RowKit Go.Proofs Go.Proofs.YtbfheehaagcmeaaDoor.flo
set_option linter.unusedVariables false

theorem info_int : (Tryd.prog.info? 3).map (fun i => (i.zero, i.size, i.bytes)) = some (some (.int .i64 0), 1, 8) := by kernel_rfl
theorem apart_left {w : World} {B e sz m n' : Nat} {vx vy v7 : Value} {ys : List Value} {my : Nat} (st : run.Step w vx m v7 n') (ap : ∀ k, vx.ownBlock = some k → vy.ownBlock ≠ some k) (hy : w.ownsRow B e sz vy my ys) : ∀ k, v7.ownBlock = some k → vy.ownBlock ≠ some k := by
  intro k hk hk'
  rcases st with ⟨g, c, e1, e2⟩ | hs
  · exact ap k (by rw [e1]; rw [e2] at hk; exact hk) hk'
  · have h1 := hs k hk
    have h2 := (hy.lt k hk').2
    omega
theorem apart_right {w : World} {B e sz m n' : Nat} {v7 vy v8 : Value} {xs : List Value} {mx : Nat} (st : run.Step w vy m v8 n') (ap : ∀ k, v7.ownBlock = some k → vy.ownBlock ≠ some k) (hx : w.ownsRow B e sz v7 mx xs) : ∀ k, v7.ownBlock = some k → v8.ownBlock ≠ some k := by
  intro k hk hk'
  rcases st with ⟨g, c, e1, e2⟩ | hs
  · exact ap k hk (by rw [e1]; rw [e2] at hk'; exact hk')
  · have h1 := hs k hk'
    have h2 := (hx.lt k hk).2
    omega
def xsV (P : List (Int × Int)) : List Value := P.map fun p => .int .i64 p.1
def ysV (P : List (Int × Int)) : List Value := P.map fun p => .int .i64 p.2
structure Two2 (B : Nat) (vx vy : Value) (P : List (Int × Int)) (w : World) : Prop where
  xs : w.ownsRow B 3 1 vx P.length (xsV P)
  ys : w.ownsRow B 3 1 vy P.length (ysV P)
  apart : ∀ k, vx.ownBlock = some k → vy.ownBlock ≠ some k
theorem Two2.below {B : Nat} {vx vy : Value} {P : List (Int × Int)} {w w' : World} (h : Two2 B vx vy P w) (hb : Below w.heap.size w w') : Two2 B vx vy P w' := ⟨run.own_below h.xs hb, run.own_below h.ys hb, h.apart⟩

set_option maxRecDepth 100000 in
set_option maxHeartbeats 4000000 in
theorem rpath_any (B b g W H : Nat) (S : Int → Int → Bool) (l : List (Nat × Nat)) (a : Option Addr) (cap : Nat) (w : World) (h : RCan B b g W H S w)
    (hR : run.ReadsN 2 w (.slice a l.length cap) l.length (cellsP l)) (hlen : l.length * 16 ≤ 140737488355328) :
    Calls Tryd.prog 32 #[.pointer (some ⟨b, 0, none⟩), .slice a l.length cap] w fun e w' => e = .returned (.tuple #[]) ∧ RCan B b g W H (pathT (none, S) l).2 w' ∧ ∃ w1, Below w.heap.size w w1 ∧ w1.grownBy w' (some g) := by
  obtain ⟨i0, hi0, hz0, hz1, hz2⟩ := info_parts info_int
  obtain ⟨N, hN⟩ : ∃ N, N = l.length := ⟨_, rfl⟩
  have HRR := run.hid (fun w' (hb : Below w.heap.size w w') => hR.below hb)
  rw [← hN] at HRR hlen ⊢
  have HN := run.hid hN
  have hNl : N ≤ 8796093022208 := by omega
  have HLEN := run.hid hlen
  have HH := run.hid h
  clear hN hR hlen h
  go_enter Tryd.func32, Tryd.ntmps32
  go_wp2
  go_loopw [6, 4, 5] (fun kv vx vy wr => ∃ k : Nat, k ≤ N ∧ kv = .int .i64 k ∧ Hid (Two2 w.heap.size vx vy (kept (l.take k)) wr) ∧ Hid (Below w.heap.size w wr)) (fun kv _ _ _ => N - (intOf kv).toNat)
  case atStart => exact ⟨0, Nat.zero_le _, rfl, ⟨World.ownsRow_nil _ _ _ _, World.ownsRow_nil _ _ _ _, fun k hk => by simp [Value.ownBlock] at hk⟩, Below.refl _ _⟩
  case round =>
    obtain ⟨k, hk, rfl, HT, HB⟩ := hrel
    have hsz := HB.out.size
    by_cases hlt : k < N
    · have hRx := HRR.out _ HB.out
      rw [HN.out] at hRx
      obtain ⟨pb, off, rfl, hb, hcl⟩ := readsP hRx (by rw [← HN.out]; exact hlt)
      obtain ⟨hc1, hc2⟩ := hcl k (by rw [← HN.out]; exact hlt)
      have HK := run.hid (kept_take (l := l) (k := k) (by rw [← HN.out]; exact hlt))
      have HKL := run.hid (Nat.le_trans (kept_len (l.take k)) (by rw [List.length_take]; exact Nat.min_le_left _ _) : (kept (l.take k)).length ≤ k)
      obtain ⟨⟨p1, p2⟩, hp⟩ : ∃ p, p = l.getD k (0, 0) := ⟨_, rfl⟩
      rw [← hp] at hc1 hc2 HK
      have HW1 := run.hid (fun w => whole_any p1 w)
      have HW2 := run.hid (fun w => whole_any p2 w)
      have HK1 := run.hid (show kept1 (p1, p2) = match dotT p1, dotT p2 with | some x, some y => some (x, y) | _, _ => none from rfl)
      generalize kept (l.take k) = P at *
      obtain ⟨P', hP'⟩ : ∃ P', P' = kept (l.take (k + 1)) := ⟨_, rfl⟩
      rw [← hP'] at HK
      have HP' := run.hid hP'
      clear hP'
      generalize kept1 (p1, p2) = kp at *
      generalize dotT p1 = d1 at *
      generalize dotT p2 = d2 at *
      have HC2 := run.hid hc2
      clear hcl hRx hp hc2
      go_wp2_with fail
      refine (HW1.out _).mono ?_
      rintro e w2 ⟨rfl, n2, rfl⟩
      have hc2 := HC2.out
      have HT2 := run.hid (HT.out.below (drewN_below _ wr n2))
      have HB2 := run.hid (HB.out.trans (drewN_below _ wr n2))
      clear hc1 HT HB
      go_wp2_with fail
      refine (HW2.out _).mono ?_
      rintro e w2 ⟨rfl, n3, rfl⟩
      rw [World.drewN_drewN]
      have hT3 := HT2.out.below (drewN_below _ (wr.drewN n2) n3)
      have hB3 := HB2.out.trans (drewN_below _ (wr.drewN n2) n3)
      rw [World.drewN_drewN] at hT3 hB3
      have HT3 := run.hid hT3
      have HB3 := run.hid hB3
      have hs3 : w.heap.size ≤ (wr.drewN (n2 + n3)).heap.size := hB3.size
      clear hT3 hB3 HT2 HB2 hc2 HW1 HW2 HC2
      generalize wr.drewN (n2 + n3) = wq at *
      have hm := HKL.out
      cases d1 with
      | none =>
        have hP : P' = P := by rw [HK.out, HK1.out]; simp
        have HP := run.hid hP
        clear hP HK HK1
        go_wp2
        go_roundw
        case rel => exact ⟨k + 1, by omega, by go_num, by rw [← HP'.out, HP.out]; exact HT3, HB3⟩
        case measure => simp [intOf]; omega
      | some x =>
        cases d2 with
        | none =>
          have hP : P' = P := by rw [HK.out, HK1.out]; simp
          have HP := run.hid hP
          clear hP HK HK1
          go_wp2
          go_roundw
          case rel => exact ⟨k + 1, by omega, by go_num, by rw [← HP'.out, HP.out]; exact HT3, HB3⟩
          case measure => simp [intOf]; omega
        | some y =>
          have hP : P' = P ++ [(x, y)] := by rw [HK.out, HK1.out]; rfl
          have HP := run.hid hP
          clear hP HK HK1
          have HX := run.hid HT3.out.xs
          have HY := run.hid HT3.out.ys
          have HA := run.hid HT3.out.apart
          clear HT3
          generalize hB0 : w.heap.size = B0 at *
          have HB0 := run.hid hB0
          clear hB0
          generalize hm0 : P.length = m at *
          have HM := run.hid hm0
          clear hm0
          have hm2 : m ≤ k := hm
          go_wp2_with (at_builtin; refine run.wpList_append_any _ rfl _ _ 107 rfl B0 3 i0 (.int .i64 0) 1 8 Tryd.underlying107 hi0 hz0 hz1 hz2 rfl (by decide) _ _ _ rfl (HX.out.alloc _) _ 1 [.int .i64 x] rfl (run.readsN_new wq [.int .i64 x] 1 1 _ rfl) (by intro u hu; simp only [List.mem_singleton] at hu; subst hu; rfl) (by unfold maxLen; omega) (by omega) (by simp; omega) ?_)
          intro v7 w7 hown7 hgrow7 _ hst7
          have hY7 := run.own_kept (HY.out.alloc (.cells #[.int .i64 x] 3)) hgrow7 (fun k hk hk' => HA.out k hk' hk)
          have hA7 := apart_left hst7 HA.out (HY.out.alloc (.cells #[.int .i64 x] 3))
          have hb7 := run.below_append (HB3.out.alloc hs3 _) (HX.out.alloc _) hgrow7 (by simp; omega)
          have HY7 := run.hid hY7
          have HA7 := run.hid hA7
          have HX7 := run.hid hown7
          have HB7 := run.hid hb7
          have hs7 : B0 ≤ w7.heap.size := by have := hb7.size; rw [HB0.out] at this; exact this
          clear hown7 hgrow7 hst7 hY7 hA7 hb7 HX HY HA HB3
          go_wp2_with (at_builtin; refine run.wpList_append_any _ rfl _ _ 107 rfl B0 3 i0 (.int .i64 0) 1 8 Tryd.underlying107 hi0 hz0 hz1 hz2 rfl (by decide) _ _ _ rfl (HY7.out.alloc _) _ 1 [.int .i64 y] rfl (run.readsN_new w7 [.int .i64 y] 1 1 _ rfl) (by intro u hu; simp only [List.mem_singleton] at hu; subst hu; rfl) (by unfold maxLen; omega) (by omega) (by simp; omega) ?_)
          intro v8 w8 hown8 hgrow8 _ hst8
          have hX8 := run.own_kept (HX7.out.alloc (.cells #[.int .i64 y] 3)) hgrow8 HA7.out
          have hA8 := apart_right hst8 HA7.out (HX7.out.alloc (.cells #[.int .i64 y] 3))
          have hb8 := run.below_append (HB7.out.alloc hs7 _) (HY7.out.alloc _) hgrow8 (by simp; omega)
          have e8 : (P ++ [(x, y)]).length = m + 1 := by rw [List.length_append, HM.out]; rfl
          have HT8 : Hid (Two2 B0 v7 v8 (P ++ [(x, y)]) w8) := ⟨by rw [e8]; unfold xsV; rw [List.map_append]; exact hX8, by rw [e8]; unfold ysV; rw [List.map_append]; exact hown8, hA8⟩
          have HB8 := run.hid hb8
          clear hX8 hA8 hb8 e8 hown8 hgrow8 hst8 HX7 HY7 HA7 HB7
          go_wp2
          go_roundw
          case rel => exact ⟨k + 1, by omega, by go_num, by rw [← HP'.out, HP.out, HB0.out]; exact HT8, by rw [HB0.out]; exact HB8⟩
          case measure => simp [intOf]; omega
    · obtain rfl : k = N := by omega
      have hKP : kept (l.take k) = kept l := by rw [List.take_of_length_le (by rw [← HN.out]; exact Nat.le_refl _)]
      rw [hKP] at HT
      clear hKP
      have hml : (kept l).length ≤ k := by rw [HN.out]; exact kept_len l
      have HPR := run.hid (fun a b => path_ref l S a b)
      have HPL := run.hid (fun p (hp : p ∈ kept l) => kept_plane hp)
      obtain ⟨SF, hSF⟩ : ∃ SF, SF = (pathT (none, S) l).2 := ⟨_, rfl⟩
      rw [← hSF] at HPR
      have HSF := run.hid hSF
      clear hSF
      generalize kept l = P at *
      have HCW := run.hid (HH.out.below HB.out)
      have hgl : g < w.heap.size := by obtain ⟨-, -, d, h, -⟩ := HH.out; exact h.lt.2
      generalize wr = w1 at *
      have HX := run.hid HT.out.xs
      have HY := run.hid HT.out.ys
      clear HT HH hlt
      obtain ⟨m, hm⟩ : ∃ m, P.length = m := ⟨_, rfl⟩
      rw [hm] at HX HY hml
      have HM := run.hid hm
      clear hm
      obtain ⟨ax, cx, rfl⟩ := run.own_value HX.out
      obtain ⟨ay, cy, rfl⟩ := run.own_value HY.out
      obtain ⟨S1, hS1⟩ : ∃ S1, S1 = (if m = 1 then plot S (P.getD 0 (0, 0)).1 (P.getD 0 (0, 0)).2 else S) := ⟨_, rfl⟩
      have HS1 := run.hid hS1
      clear hS1
      go_upto_if 50 with fail
      go_cut [58] from 51 to 58 (fun v wx => RCan B b g W H S1 wx ∧ w1.grownBy wx (some g))
      case first =>
        by_cases h1 : m = 1
        · subst h1
          obtain ⟨gx, cx2, ex⟩ := own_some HX.out (by omega)
          obtain ⟨gy, cy2, ey⟩ := own_some HY.out (by omega)
          simp only [Value.slice.injEq, true_and] at ex ey
          obtain ⟨rfl, rfl⟩ := ex
          obtain ⟨rfl, rfl⟩ := ey
          obtain ⟨⟨q1, q2⟩, rfl⟩ : ∃ q, P = [q] := List.length_eq_one_iff.1 HM.out
          have kx : w1.cell? ⟨gx, 0, none⟩ = some (.int .i64 q1) := HX.out.cellAt 0 (by omega)
          have ky : w1.cell? ⟨gy, 0, none⟩ = some (.int .i64 q2) := HY.out.cellAt 0 (by omega)
          have lx := (HX.out.lt gx rfl).1
          have ly := (HY.out.lt gy rfl).1
          have HE : Hid (S1 = plot S q1 q2) := by show S1 = _; rw [HS1.out, if_pos rfl]; rfl
          have HDT := run.hid (fun n => rdot_any B b g W H S q1 q2 (w1.drewN n) (HCW.out.below (drewN_below _ w1 n)))
          rw [← HE.out] at HDT
          have kk0 : ∀ (D : Nat → Bool) W', (w1.grownBy W' (some g) ∧ (D 7 = false → ∃ k, W' = w1.drewN k) ∧ (D 7 = true → RCan B b g W H S1 W')) → W'.cell? ⟨gx, 0 + 0 * 1, none⟩ = some (.int .i64 q1) := fun D W' hC => hC.1.cell kx (by simp; omega)
          have kk1 : ∀ (D : Nat → Bool) W', (w1.grownBy W' (some g) ∧ (D 7 = false → ∃ k, W' = w1.drewN k) ∧ (D 7 = true → RCan B b g W H S1 W')) → W'.cell? ⟨gy, 0 + 0 * 1, none⟩ = some (.int .i64 q2) := fun D W' hC => hC.1.cell ky (by simp; omega)
          clear kx ky
          go_upto_region 11 with fail
          --R11
          obtain ⟨it1, hn1, hn2⟩ : ∃ it, Tryd.prog.info? 3 = some it ∧ it.size = 1 := ⟨i0, hi0, hz1⟩
          refine lex.region (fun d W' => w1.grownBy W' (some g) ∧ (d 7 = false → ∃ k, W' = w1.drewN k) ∧ (d 7 = true → RCan B b g W H S1 W')) (by kernel_rfl) (by kernel_rfl) (by kernel_rfl) (⟨drewN_grown w1 1 _, fun _ => ⟨1, rfl⟩, (fun h => by cases h)⟩) ?_
          refine lex.begin 85 rfl ?_
          refine lex.o_pure (.pointer (some ⟨b, 0, none⟩)) (fun D W' hC => lex.w_move rfl rfl) ?_
          refine lex.o_pure (Value.slice (some ⟨gx, 0, none⟩) 1 cx) (fun D W' hC => lex.w_move rfl rfl) ?_
          refine lex.o_pure (.pointer (some ⟨gx, 0 + 0 * 1, none⟩)) (fun D W' hC => lex.run_at (i := 0) (size := 1) rfl rfl rfl (by omega) Tryd.underlying107 hn1 hn2) ?_
          refine lex.o_pure (.int .i64 q1) (fun D W' hC => lex.run_load rfl rfl Tryd.underlying3 rfl (kk0 D W' hC)) ?_
          refine lex.o_pure (Value.slice (some ⟨gy, 0, none⟩) 1 cy) (fun D W' hC => lex.w_move rfl rfl) ?_
          refine lex.o_pure (.pointer (some ⟨gy, 0 + 0 * 1, none⟩)) (fun D W' hC => lex.run_at (i := 0) (size := 1) rfl rfl rfl (by omega) Tryd.underlying107 hn1 hn2) ?_
          refine lex.o_pure (.int .i64 q2) (fun D W' hC => lex.run_load rfl rfl Tryd.underlying3 rfl (kk1 D W' hC)) ?_
          refine lex.o_callE (.bool (inside W H q1 q2)) 28 #[.pointer (some ⟨b, 0, none⟩), .int .i64 q1, .int .i64 q2] (fun _ _ _ => lex.run_fn rfl rfl rfl (enters_of Tryd.func28 (by kernel_rfl) rfl)) (fun D W' h0 hC => ?_) ?_
          · obtain ⟨hg, hk, -⟩ := hC
            obtain ⟨k, rfl⟩ := hk h0
            refine (HDT.out k).mono ?_
            rintro e w2 ⟨rfl, hc2, hg2⟩
            exact ⟨rfl, run.grown_trans (drewN_grown w1 k _) hg2 (.inl rfl), (fun h => by cases h), fun _ => hc2⟩
          refine lex.o_end_at { tmps := #[Value.pointer (some ⟨b, 0, none⟩), Value.slice a k cap, undef, undef, Value.slice (some ⟨gx, 0, none⟩) 1 cx, Value.slice (some ⟨gy, 0, none⟩) 1 cy, Value.int IntKind.i64 ↑k, u7, u8, u9, u10, undef, Value.int IntKind.i64 ↑k, Value.slice a k cap, Value.int IntKind.i64 ↑k, Value.bool false, u16, u17, u18, u19, u20, u21, u22, u23, u24, u25, u26, u27, u28, u29, u30, u31, u32, u33, u34, u35, u36, u37, u38, u39, u40, u41, u42, u43, u44, u45, u46, u47, Value.slice (some ⟨gx, 0, none⟩) 1 cx, Value.int IntKind.i64 ↑1, Value.bool (↑1 == 1), .pointer (some ⟨b, 0, none⟩), Value.slice (some ⟨gx, 0, none⟩) 1 cx, .pointer (some ⟨gx, 0 + 0 * 1, none⟩), .int .i64 q1, Value.slice (some ⟨gy, 0, none⟩) 1 cy, .pointer (some ⟨gy, 0 + 0 * 1, none⟩), .int .i64 q2, .bool (inside W H q1 q2), undef, undef, undef, undef, undef, undef, undef, undef, undef, undef, undef, undef, undef, undef, undef, undef, undef, undef, undef, undef, undef, undef, undef, undef, undef, undef], defers := [] } (by kernel_rfl) ?_
          rintro w' d hd ⟨hg, -, hc⟩
          go_wp2
          go_meet
          case rel => exact ⟨hc (hd 7 (by decide)), hg⟩
          --END R11
        · have hq : ((m : Int) == 1) = false := by simp; omega
          have HE := run.hid (show S1 = S by rw [HS1.out, if_neg h1])
          clear HS1
          go_wp2
          go_meet
          case rel => exact ⟨by rw [HE.out]; exact HCW.out, World.grownBy.refl _ _⟩
      obtain ⟨hc1, hg1⟩ := hcut
      have HC1 := run.hid hc1
      have HG1 := run.hid hg1
      have HZ := run.hid (wayTo_zero P)
      clear hc1 hg1
      go_wp2
      go_loopw [11] (fun vi wr => ∃ i : Nat, vi = .int .i64 ((i : Int) + 1) ∧ i + 1 ≤ max m 1 ∧ Hid (RCan B b g W H (plots S1 (wayTo P i)) wr) ∧ Hid (w1.grownBy wr (some g))) (fun vi _ => (m - intOf vi).toNat)
      case atStart => exact ⟨0, rfl, by omega, by rw [HZ.out]; exact HC1, HG1⟩
      case round =>
        obtain ⟨i, rfl, him, HCr, HGr⟩ := hrel
        by_cases hil : i + 1 < m
        · obtain ⟨gx, cx2, ex⟩ := own_some HX.out (by omega)
          obtain ⟨gy, cy2, ey⟩ := own_some HY.out (by omega)
          simp only [Value.slice.injEq, true_and] at ex ey
          obtain ⟨rfl, rfl⟩ := ex
          obtain ⟨rfl, rfl⟩ := ey
          have hmP := HM.out
          have getx : ∀ j, j < m → w1.cell? ⟨gx, j, none⟩ = some (.int .i64 (P.getD j (0, 0)).1) := fun j hj => by
            rw [HX.out.cellAt j (by omega)]; unfold xsV; rw [List.getElem?_map, List.getElem?_eq_getElem (by omega)]; simp [List.getD_eq_getElem?_getD, show j < P.length by omega]
          have gety : ∀ j, j < m → w1.cell? ⟨gy, j, none⟩ = some (.int .i64 (P.getD j (0, 0)).2) := fun j hj => by
            rw [HY.out.cellAt j (by omega)]; unfold ysV; rw [List.getElem?_map, List.getElem?_eq_getElem (by omega)]; simp [List.getD_eq_getElem?_getD, show j < P.length by omega]
          have mem : ∀ j, j < m → P.getD j (0, 0) ∈ P := fun j hj => by
            rw [List.getD_eq_getElem?_getD, List.getElem?_eq_getElem (by omega)]; exact List.getElem_mem _
          have lx := (HX.out.lt gx rfl).1
          have ly := (HY.out.lt gy rfl).1
          have c0 := getx i (by omega)
          have c1 := gety i (by omega)
          have c2 := getx (i + 1) hil
          have c3 := gety (i + 1) hil
          obtain ⟨i1, i2⟩ := HPL.out _ (mem i (by omega))
          obtain ⟨i3, i4⟩ := HPL.out _ (mem (i + 1) hil)
          have hsn : plots S1 (wayTo P (i + 1)) = plots (plots S1 (wayTo P i)) (lineL (P.getD i (0, 0)).1 (P.getD i (0, 0)).2 (P.getD (i + 1) (0, 0)).1 (P.getD (i + 1) (0, 0)).2 (lineN (P.getD i (0, 0)).1 (P.getD i (0, 0)).2 (P.getD (i + 1) (0, 0)).1 (P.getD (i + 1) (0, 0)).2).toNat) := by
            rw [wayTo_next (by omega), plots_app']; rfl
          clear getx gety mem hmP
          generalize (P.getD i (0, 0)).1 = q1 at *
          generalize (P.getD i (0, 0)).2 = q2 at *
          generalize (P.getD (i + 1) (0, 0)).1 = q3 at *
          generalize (P.getD (i + 1) (0, 0)).2 = q4 at *
          have HDT := run.hid (fun n => rline_any B b g W H (plots S1 (wayTo P i)) q1 q2 q3 q4 (wr.drewN n) (HCr.out.below (drewN_below _ wr n)) ⟨i1, i2, i3, i4⟩)
          generalize plots (plots S1 (wayTo P i)) (lineL q1 q2 q3 q4 (lineN q1 q2 q3 q4).toNat) = S2 at *
          have HSN := run.hid hsn.symm
          have kk0 : ∀ (D : Nat → Bool) W', (wr.grownBy W' (some g) ∧ (D 19 = false → ∃ k, W' = wr.drewN k) ∧ (D 19 = true → RCan B b g W H S2 W')) → W'.cell? ⟨gx, 0 + i * 1, none⟩ = some (.int .i64 q1) := fun D W' hC => by rw [Nat.zero_add, Nat.mul_one]; exact hC.1.cell (HGr.out.cell c0 (by simp; omega)) (by simp; omega)
          have kk1 : ∀ (D : Nat → Bool) W', (wr.grownBy W' (some g) ∧ (D 19 = false → ∃ k, W' = wr.drewN k) ∧ (D 19 = true → RCan B b g W H S2 W')) → W'.cell? ⟨gy, 0 + i * 1, none⟩ = some (.int .i64 q2) := fun D W' hC => by rw [Nat.zero_add, Nat.mul_one]; exact hC.1.cell (HGr.out.cell c1 (by simp; omega)) (by simp; omega)
          have kk2 : ∀ (D : Nat → Bool) W', (wr.grownBy W' (some g) ∧ (D 19 = false → ∃ k, W' = wr.drewN k) ∧ (D 19 = true → RCan B b g W H S2 W')) → W'.cell? ⟨gx, 0 + (i + 1) * 1, none⟩ = some (.int .i64 q3) := fun D W' hC => by rw [Nat.zero_add, Nat.mul_one]; exact hC.1.cell (HGr.out.cell c2 (by simp; omega)) (by simp; omega)
          have kk3 : ∀ (D : Nat → Bool) W', (wr.grownBy W' (some g) ∧ (D 19 = false → ∃ k, W' = wr.drewN k) ∧ (D 19 = true → RCan B b g W H S2 W')) → W'.cell? ⟨gy, 0 + (i + 1) * 1, none⟩ = some (.int .i64 q4) := fun D W' hC => by rw [Nat.zero_add, Nat.mul_one]; exact hC.1.cell (HGr.out.cell c3 (by simp; omega)) (by simp; omega)
          clear c0 c1 c2 c3 hsn
          have hi1 : ((i + 1 : Nat) : Int) = (i : Int) + 1 := by omega
          go_upto_region 15 with fail
          --R15
          obtain ⟨it1, hn1, hn2⟩ : ∃ it, Tryd.prog.info? 3 = some it ∧ it.size = 1 := ⟨i0, hi0, hz1⟩
          refine lex.region (fun d W' => wr.grownBy W' (some g) ∧ (d 19 = false → ∃ k, W' = wr.drewN k) ∧ (d 19 = true → RCan B b g W H S2 W')) (by kernel_rfl) (by kernel_rfl) (by kernel_rfl) (⟨drewN_grown wr 1 _, fun _ => ⟨1, rfl⟩, (fun h => by cases h)⟩) ?_
          refine lex.begin 85 rfl ?_
          refine lex.o_pure (.pointer (some ⟨b, 0, none⟩)) (fun D W' hC => lex.w_move rfl rfl) ?_
          refine lex.o_pure (Value.slice (some ⟨gx, 0, none⟩) m cx) (fun D W' hC => lex.w_move rfl rfl) ?_
          refine lex.o_pure (Value.int IntKind.i64 (↑i + 1)) (fun D W' hC => lex.w_move rfl rfl) ?_
          refine lex.o_pure (.int .i64 (i : Nat)) (fun D W' hC => lex.run_sub rfl rfl rfl (by omega) (by omega)) ?_
          refine lex.o_pure (.pointer (some ⟨gx, 0 + i * 1, none⟩)) (fun D W' hC => lex.run_at (i := i) (size := 1) rfl rfl rfl (by omega) Tryd.underlying107 hn1 hn2) ?_
          refine lex.o_pure (.int .i64 q1) (fun D W' hC => lex.run_load rfl rfl Tryd.underlying3 rfl (kk0 D W' hC)) ?_
          refine lex.o_pure (Value.slice (some ⟨gy, 0, none⟩) m cy) (fun D W' hC => lex.w_move rfl rfl) ?_
          refine lex.o_pure (Value.int IntKind.i64 (↑i + 1)) (fun D W' hC => lex.w_move rfl rfl) ?_
          refine lex.o_pure (.int .i64 (i : Nat)) (fun D W' hC => lex.run_sub rfl rfl rfl (by omega) (by omega)) ?_
          refine lex.o_pure (.pointer (some ⟨gy, 0 + i * 1, none⟩)) (fun D W' hC => lex.run_at (i := i) (size := 1) rfl rfl rfl (by omega) Tryd.underlying107 hn1 hn2) ?_
          refine lex.o_pure (.int .i64 q2) (fun D W' hC => lex.run_load rfl rfl Tryd.underlying3 rfl (kk1 D W' hC)) ?_
          refine lex.o_pure (Value.slice (some ⟨gx, 0, none⟩) m cx) (fun D W' hC => lex.w_move rfl rfl) ?_
          refine lex.o_pure (Value.int IntKind.i64 (↑i + 1)) (fun D W' hC => lex.w_move rfl rfl) ?_
          refine lex.o_pure (.pointer (some ⟨gx, 0 + (i + 1) * 1, none⟩)) (fun D W' hC => lex.run_at (i := (i + 1)) (size := 1) rfl rfl rfl (by omega) Tryd.underlying107 hn1 hn2) ?_
          refine lex.o_pure (.int .i64 q3) (fun D W' hC => lex.run_load rfl rfl Tryd.underlying3 rfl (kk2 D W' hC)) ?_
          refine lex.o_pure (Value.slice (some ⟨gy, 0, none⟩) m cy) (fun D W' hC => lex.w_move rfl rfl) ?_
          refine lex.o_pure (Value.int IntKind.i64 (↑i + 1)) (fun D W' hC => lex.w_move rfl rfl) ?_
          refine lex.o_pure (.pointer (some ⟨gy, 0 + (i + 1) * 1, none⟩)) (fun D W' hC => lex.run_at (i := (i + 1)) (size := 1) rfl rfl rfl (by omega) Tryd.underlying107 hn1 hn2) ?_
          refine lex.o_pure (.int .i64 q4) (fun D W' hC => lex.run_load rfl rfl Tryd.underlying3 rfl (kk3 D W' hC)) ?_
          refine lex.o_callE (.int .i64 0) 30 #[.pointer (some ⟨b, 0, none⟩), .int .i64 q1, .int .i64 q2, .int .i64 q3, .int .i64 q4] (fun _ _ _ => lex.run_fn rfl rfl rfl (enters_of Tryd.func30 (by kernel_rfl) rfl)) (fun D W' h0 hC => ?_) ?_
          · obtain ⟨hg, hk, -⟩ := hC
            obtain ⟨k, rfl⟩ := hk h0
            refine (HDT.out k).mono ?_
            rintro e w2 ⟨rfl, hc2, hg2⟩
            exact ⟨rfl, run.grown_trans (drewN_grown wr k _) hg2 (.inl rfl), (fun h => by cases h), fun _ => hc2⟩
          refine lex.o_end_at { tmps := #[Value.pointer (some ⟨b, 0, none⟩), Value.slice a k cap, undef, undef, Value.slice (some ⟨gx, 0, none⟩) m cx, Value.slice (some ⟨gy, 0, none⟩) m cy, Value.int IntKind.i64 ↑k, u7, u8, u9, u10, Value.int IntKind.i64 (↑i + 1), Value.int IntKind.i64 ↑k, Value.slice a k cap, Value.int IntKind.i64 ↑k, Value.bool false, u16, u17, u18, u19, u20, u21, u22, u23, u24, u25, u26, u27, u28, u29, u30, u31, u32, u33, u34, u35, u36, u37, u38, u39, u40, u41, u42, u43, u44, u45, u46, u47, Value.slice (some ⟨gx, 0, none⟩) m cx, Value.int IntKind.i64 ↑m, Value.bool ((m : Int) == 1), u51, u52, u53, u54, u55, u56, u57, u58, Value.int IntKind.i64 (↑i + 1), Value.slice (some ⟨gx, 0, none⟩) m cx, Value.int IntKind.i64 ↑m, Value.bool (decide ((i : Int) + 1 < (m : Int))), u63, u64, .pointer (some ⟨b, 0, none⟩), Value.slice (some ⟨gx, 0, none⟩) m cx, Value.int IntKind.i64 (↑i + 1), .int .i64 (i : Nat), .pointer (some ⟨gx, 0 + i * 1, none⟩), .int .i64 q1, Value.slice (some ⟨gy, 0, none⟩) m cy, Value.int IntKind.i64 (↑i + 1), .int .i64 (i : Nat), .pointer (some ⟨gy, 0 + i * 1, none⟩), .int .i64 q2, Value.slice (some ⟨gx, 0, none⟩) m cx, Value.int IntKind.i64 (↑i + 1), .pointer (some ⟨gx, 0 + (i + 1) * 1, none⟩), .int .i64 q3, Value.slice (some ⟨gy, 0, none⟩) m cy, Value.int IntKind.i64 (↑i + 1), .pointer (some ⟨gy, 0 + (i + 1) * 1, none⟩), .int .i64 q4, .int .i64 0], defers := [] } (by kernel_rfl) ?_
          rintro w' d hd ⟨hg, -, hc⟩
          have HC5 := run.hid (hc (hd 19 (by decide)))
          have HG5 := run.hid (run.grown_trans HGr.out hg (.inl rfl))
          clear hc hg kk0 kk1 kk2 kk3 HGr HCr HDT
          go_wp2
          go_roundw
          case rel => exact ⟨i + 1, by go_num, by omega, by rw [← HSN.out]; exact HC5, HG5⟩
          case measure => simp [intOf]; omega
          --END R15
        · have hE := ref_end HM.out hil him HS1.out
          have HF : Hid (RCan B b g W H SF wr) := HCr.out.mono fun x y => by rw [hE]; exact HPR.out x y
          clear HCr HC1 hE
          go_wp2
          go_end0
          exact ⟨rfl, by rw [← HSF.out]; exact HF.out, w1, HB.out, HGr.out⟩
end Go.Proofs.YtbfheehaagcmeaaDoor.can
