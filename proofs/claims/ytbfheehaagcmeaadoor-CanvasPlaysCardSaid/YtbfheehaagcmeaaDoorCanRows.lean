/-
  The walks of the layer canvas: the cells as characters.
-/
import Derived.Test.YtbfheehaagcmeaaDoorCanDotA
import Derived.Laws.Cover4
import Derived.Deep.DeepCutAuto
namespace Go.Proofs.YtbfheehaagcmeaaDoor.can
open Go.RowKit Go.Proofs
set_option linter.unusedVariables false

/-- a text of characters -/
abbrev strOf (l : List Int) : ByteArray := runesBytes l

theorem run_str_row {P : Program} (w : World) (src dst e : TypeId) (g n c : Nat) (t : TypeId) (f : Nat → Int) (hs : P.underlying src = some (.slice e)) (he : P.underlying e = some (.int .i32)) (hd : P.underlying dst = some .string)
    (h : w.rowIs g t n fun i => .int .i32 (f i)) : (convert src dst (.slice (some ⟨g, 0, none⟩) n c)).run P w = .ok (.string (strOf ((List.range n).map f))) w := by
  have hr := run_convert_runes (P := P) w src dst e ⟨g, 0, none⟩ n c ((List.range n).map f) (by simp) hs he hd (fun j hj => by
    have hj' : j < n := by simpa using hj
    rw [run.add_none, Nat.zero_add, h.cell hj']
    simp [List.getD_eq_getElem?_getD, hj'])
  rw [hr, List.take_of_length_le (by simp)]

theorem own_of_rowIs {w : World} {B g n : Nat} {t : TypeId} {f : Nat → Value} (h : w.rowIs g t n f) (hB : B ≤ g) (hn : n ≤ maxLen) : w.ownsRow B t 1 (.slice (some ⟨g, 0, none⟩) n n) n ((List.range n).map f) := by
  obtain ⟨c, hb, hs, hc⟩ := h
  refine ⟨by simp, .inr ⟨g, n, c, rfl, hB, hb, Nat.le_refl _, hn, by omega, ?_⟩⟩
  apply List.ext_getElem?
  intro i
  rw [Nat.mul_one, List.take_of_length_le (by simp; omega)]
  rcases Nat.lt_or_ge i n with hi | hi
  · rw [Array.getElem?_toList, hc i hi]; simp [hi]
  · rw [List.getElem?_eq_none (by simp; omega), List.getElem?_eq_none (by simp; omega)]

theorem info_str : (Tryd.prog.info? 9).map (fun i => (i.zero, i.size, i.bytes)) = some (some (.string ByteArray.empty), 1, 16) := by kernel_rfl
theorem info_i32 : (Tryd.prog.info? 21).map (fun i => (i.zero, i.size, i.bytes)) = some (some (.int .i32 0), 1, 4) := by kernel_rfl

def glyphC (c : Nat) : Int := if c = 0 then 32 else 10240 + c
def rowC (d : Nat → Nat) (W y : Nat) : ByteArray := strOf ((List.range W).map fun x => glyphC (d (y * W + x)))

theorem Canv.grown {w w' : World} {b g W H k : Nat} {d : Nat → Nat} (h : Canv w b g W H d) (hg : w.grownBy w' (some k)) (h1 : b ≠ k) (h2 : g ≠ k) : Canv w' b g W H d :=
  h.of_block (hg.block b h.lt.1 (by simpa using h1)) (hg.block g h.lt.2 (by simpa using h2))

def partRow (d : Nat → Nat) (W y x : Nat) : Nat → Value := fun j => .int .i32 (if j < x then glyphC (d (y * W + j)) else 0)
theorem part_blank {w : World} {r W y x : Nat} {d : Nat → Nat} {f : Nat → Value} (h : w.rowIs r 21 W fun j => if j = x then .int .i32 32 else partRow d W y x j) (hc : d (y * W + x) = 0) : w.rowIs r 21 W (partRow d W y (x + 1)) :=
  h.congr fun j _ => by
    by_cases e : j = x
    · subst e; rw [if_pos rfl]; unfold partRow glyphC; rw [if_pos (by omega), if_pos hc]
    · rw [if_neg e]; unfold partRow
      by_cases h1 : j < x
      · rw [if_pos h1, if_pos (by omega)]
      · rw [if_neg h1, if_neg (by omega)]
theorem part_dots {w : World} {r W y x : Nat} {d : Nat → Nat} {f : Nat → Value} (h : w.rowIs r 21 W fun j => if j = x then .int .i32 32 else partRow d W y x j) (hc : d (y * W + x) ≠ 0) : (w.setCell ⟨r, x, none⟩ (.int .i32 (10240 + (d (y * W + x) : Int)))).rowIs r 21 W (partRow d W y (x + 1)) :=
  (h.set x _).congr fun j _ => by
    by_cases e : j = x
    · subst e; rw [if_pos rfl]; unfold partRow glyphC; rw [if_pos (by omega), if_neg hc]
    · rw [if_neg e, if_neg e]; unfold partRow
      by_cases h1 : j < x
      · rw [if_pos h1, if_pos (by omega)]
      · rw [if_neg h1, if_neg (by omega)]
theorem part_full {d : Nat → Nat} {W y : Nat} {w : World} {r : Nat} (h : w.rowIs r 21 W (partRow d W y W)) : w.rowIs r 21 W fun x => .int .i32 (glyphC (d (y * W + x))) :=
  h.congr fun j hj => by unfold partRow; rw [if_pos hj]

def partOut (d : Nat → Nat) (W y : Nat) : Nat → Value := fun j => .string (if j < y then rowC d W j else ByteArray.empty)
theorem out_next {w : World} {o H W y : Nat} {d : Nat → Nat} (h : w.rowIs o 9 H (partOut d W y)) : (w.setCell ⟨o, y, none⟩ (.string (rowC d W y))).rowIs o 9 H (partOut d W (y + 1)) :=
  (h.set y _).congr fun j _ => by
    by_cases e : j = y
    · subst e; rw [if_pos rfl]; unfold partOut; rw [if_pos (by omega)]
    · rw [if_neg e]; unfold partOut
      by_cases h1 : j < y
      · rw [if_pos h1, if_pos (by omega)]
      · rw [if_neg h1, if_neg (by omega)]

set_option maxHeartbeats 4000000 in
theorem rows_c (b g W H : Nat) (d : Nat → Nat) (w : World) (h : Canv w b g W H d) :
    Calls Tryd.prog 23 #[.pointer (some ⟨b, 0, none⟩)] w fun e w' => ∃ v, e = .returned v ∧ w'.ownsRow w.heap.size 9 1 v H ((List.range H).map fun y => .string (rowC d W y)) ∧ Below w.heap.size w w' := by
  have b1 := h.wide
  have b2 := h.high
  have b3 := h.size
  have e0 := h.h0
  have e1 := h.h1
  have hmk := run_make_row' (P := Tryd.prog) 59 9 (.string ByteArray.empty) 16 Tryd.underlying59 info_str rfl .i64 .i64 H (by omega) (by omega) w
  have HMR := run.hid (fun w => run_make_row' (P := Tryd.prog) 61 21 (.int .i32 0) 4 Tryd.underlying61 info_i32 rfl .i64 .i64 W (by omega) (by omega) w)
  have HH := run.hid h
  obtain ⟨l1, l2⟩ := h.lt
  have HO := run.hid (World.rowIs_made w (.string ByteArray.empty) H 9)
  have HB0 := run.hid (run.below_one w (.cells (madeCells #[.string ByteArray.empty] H) 9))
  clear h
  go_enter Tryd.func23, Tryd.ntmps23
  go_wp2
  clear e0 e1 hmk
  go_loopw [17] (fun v wr => ∃ y : Nat, y ≤ H ∧ v = .int .i64 y ∧ Hid (wr.rowIs w.heap.size 9 H (partOut d W y)) ∧ Hid (Below w.heap.size w wr)) (fun v _ => H - (intOf v).toNat)
  case atStart => exact ⟨0, Nat.zero_le _, rfl, HO.out.congr (fun j _ => rfl), HB0⟩
  case round =>
    obtain ⟨y, hy, rfl, HOr, HBr⟩ := hrel
    by_cases hlt : y < H
    · have HC : Hid (Canv wr b g W H d) := HH.out.of_block (HBr.out.block b l1) (HBr.out.block g l2)
      have e0 := HC.out.h0
      have hmk := HMR.out wr
      obtain ⟨k1, k2⟩ := HC.out.lt
      have k3 := HOr.out.lt
      have HR := run.hid (World.rowIs_made wr (.int .i32 0) W 21)
      have HB1 := run.hid (run.below_one wr (.cells (madeCells #[.int .i32 0] W) 21))
      have HC1 := run.hid (HC.out.of_block (HB1.out.block b k1) (HB1.out.block g k2))
      have HO1 := run.hid (HOr.out.alloc (.cells (madeCells #[.int .i32 0] W) 21))
      have HB2 := run.hid (HBr.out.trans (HB1.out.mono HBr.out.size))
      have k4 : w.heap.size ≤ wr.heap.size := HBr.out.size
      clear HC HOr HBr HB1
      go_wp2
      clear e0 hmk
      generalize wr.alloc (.cells (madeCells #[.int .i32 0] W) 21) = wz at *
      generalize wr.heap.size = r at *
      go_loopw [27] (fun v wr => ∃ x : Nat, x ≤ W ∧ v = .int .i64 x ∧ Hid (wr.rowIs r 21 W (partRow d W y x)) ∧ Hid (wz.grownBy wr (some r))) (fun v _ => W - (intOf v).toNat)
      case atStart => exact ⟨0, Nat.zero_le _, rfl, HR.out.congr (fun j _ => rfl), World.grownBy.refl _ _⟩
      case round =>
        obtain ⟨x, hx, rfl, HRr, HGr⟩ := hrel
        by_cases hlx : x < W
        · have hcl := HRr.out.cell hlx
          have hfz := HRr.out.frozen x
          have HR2 := run.hid (HRr.out.set x (.int .i32 32))
          have HG2 := run.hid (run.grown_trans HGr.out (setCell_grown wr r x (.int .i32 32)) (.inl rfl))
          clear HRr HGr
          go_upto_region 12 with fail
          clear hcl hfz
          generalize wr.setCell ⟨r, x, none⟩ (.int .i32 32) = w2 at *
          have HC2 := run.hid (HC1.out.grown HG2.out (show b ≠ r by omega) (show g ≠ r by omega))
          have e0 := HC2.out.h0
          have e2 := HC2.out.h2
          obtain ⟨q, hq⟩ : ∃ q, q = y * W := ⟨_, rfl⟩
          have hqx : q + x < W * H := by
            have h1 := Nat.mul_le_mul_right W (show y + 1 ≤ H by omega)
            rw [Nat.add_mul, Nat.one_mul, Nat.mul_comm H W] at h1
            omega
          have hrow := HC2.out.row.cell hqx
          obtain ⟨c, hcc⟩ : ∃ c, c = d (q + x) := ⟨_, rfl⟩
          have hcs : c < 256 := by rw [hcc]; exact HC2.out.small _ hqx
          rw [← hcc] at hrow
          have hm : IntKind.i64.wrap ((y : Int) * (W : Int)) = q := by
            have e : (y : Int) * (W : Int) = ((y * W : Nat) : Int) := by push_cast; rfl
            rw [e, ← hq, IntWalk.i64_in _ (by omega)]
          have hix : (q : Int) + (x : Int) < (W : Int) * (H : Int) := by
            have e : (W : Int) * (H : Int) = ((W * H : Nat) : Int) := by push_cast; rfl
            rw [e]; omega
          have hqs : q ≤ 1048576 := by omega
          have HQ := run.hid (show c = d (y * W + x) by rw [hcc, hq])
          clear hcc hq hqx
          go_quiet (fail)
          clear e0 e2 hrow hm hix
          have HR3 : Hid ((w2.drewN nq).rowIs r 21 W fun j => if j = x then .int .i32 32 else partRow d W y x j) := HR2.out.of_block rfl
          have HG3 : Hid (wz.grownBy (w2.drewN nq) (some r)) := run.grown_trans HG2.out (drewN_grown w2 nq (some r)) (.inl rfl)
          clear HR2 HG2 HC2
          by_cases hc0 : c = 0
          · have HN := run.hid (part_blank (f := fun _ => undef) HR3.out (HQ.out.symm.trans hc0))
            subst hc0
            clear HR3 HQ
            go_wp2
            go_roundw
            case rel => exact ⟨x + 1, by omega, by go_num, HN, HG3⟩
            case measure => simp [intOf]; omega
          · have HN := run.hid (part_dots (f := fun _ => undef) HR3.out (fun e => hc0 (HQ.out.trans e)))
            rw [← HQ.out] at HN
            have HG4 := run.hid (run.grown_trans HG3.out (setCell_grown (w2.drewN nq) r x (.int .i32 (10240 + (c : Int)))) (.inl rfl))
            have hcl := HR3.out.cell hlx
            have hfz := HR3.out.frozen x
            have hb : ((c : Int) != 0) = true := by simp; omega
            clear HR3 HG3 HQ
            go_wp2
            go_roundw
            case rel => exact ⟨x + 1, by omega, by go_num, HN, HG4⟩
            case measure => simp [intOf]; omega
        · obtain rfl : x = W := by omega
          have HF := run.hid (part_full HRr.out)
          have HS := run.hid (run_str_row (P := Tryd.prog) wr 61 9 21 r x x 21 _ Tryd.underlying61 Tryd.underlying21 Tryd.underlying9 HF.out)
          have hs : (convert 61 9 (.slice (some ⟨r, 0, none⟩) x x)).run Tryd.prog wr = .ok (.string (rowC d x y)) wr := HS.out
          have HO2 := run.hid (HO1.out.of_block (HGr.out.block w.heap.size HO1.out.lt (by simp; omega)))
          have hcl := HO2.out.cell hlt
          have hfz := HO2.out.frozen y
          have HO3 := run.hid (out_next HO2.out)
          have HB3 := run.hid ((HB2.out.grown HGr.out HB2.out.size (by rintro k ⟨⟩; omega)).setCell (p := ⟨w.heap.size, y, none⟩) (Nat.le_refl _) (.string (rowC d x y)))
          clear HF HS HO2 HB2 HGr HRr HO1 HR
          go_wp2
          go_roundw
          case rel => exact ⟨y + 1, by omega, by go_num, HO3, HB3⟩
          case measure => simp [intOf]; omega
    · obtain rfl : y = H := by omega
      have HF := run.hid (own_of_rowIs (B := w.heap.size) HOr.out (Nat.le_refl _) (by unfold maxLen; omega))
      clear HOr
      go_wp2
      go_ret
      refine ⟨_, rfl, ?_, HBr.out⟩
      have := HF.out
      rwa [show (List.range y).map (partOut d W y) = (List.range y).map (fun j => Value.string (rowC d W j)) from List.map_congr_left (fun j hj => by unfold partOut; rw [if_pos (by simpa using hj)])] at this

end Go.Proofs.YtbfheehaagcmeaaDoor.can
