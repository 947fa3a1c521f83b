/-
  The walks of the layer canvas: a bar.
-/
import Derived.Test.YtbfheehaagcmeaaDoorCanDivs
import Derived.Test.YtbfheehaagcmeaaDoorCanRows
import Derived.Lib.MinMax
namespace Go.Proofs.YtbfheehaagcmeaaDoor.can
open Go.RowKit Go.Proofs
set_option linter.unusedVariables false

theorem div_any (hi lo y : Nat) (w : World) (h0 : lo < 18446744073709551616) (hy : hi < y) (hy2 : y < 18446744073709551616) :
    Calls Tryd.prog 40 #[.int .u64 hi, .int .u64 lo, .int .u64 y] w fun e w' => (∃ r : Value, e = .returned (.tuple #[.int .u64 (((hi * 2 ^ 64 + lo) / y : Nat) : Int), r])) ∧ Below w.heap.size w w' := by
  rcases Nat.eq_zero_or_pos hi with h | h
  · subst h
    rw [Nat.zero_mul, Nat.zero_add]
    exact div_small lo y w h0 (by omega) hy2
  · exact div_big hi lo y w h0 h hy hy2

/-- how wide something is -/
def wideT (w : Int) : Int := min (max w 0) 4096
/-- a bar's eighths -/
def eighthsT (n d w : Int) : Int := if 1 ≤ d then min (max n 0) d * (8 * wideT w) / d else 0
def barC (e : Int) (i : Nat) : Int := if 8 ≤ e - 8 * i then 0x2588 else if 0 < e - 8 * i then 0x2590 - (e - 8 * i) else 32
def barT (n d w : Int) : ByteArray := strOf ((List.range (wideT w).toNat).map (barC (eighthsT n d w)))

theorem eighths_bd (n d w : Int) : 0 ≤ eighthsT n d w ∧ eighthsT n d w ≤ 32768 := by
  unfold eighthsT
  split
  · rename_i hd
    have h1 : 0 ≤ min (max n 0) d ∧ min (max n 0) d ≤ d := by omega
    have h2 : 0 ≤ wideT w ∧ wideT w ≤ 4096 := by unfold wideT; omega
    generalize min (max n 0) d = m at *
    generalize wideT w = z at *
    refine ⟨Int.ediv_nonneg (Int.mul_nonneg h1.1 (by omega)) (by omega), ?_⟩
    have h3 : m * (8 * z) ≤ d * (8 * z) := Int.mul_le_mul_of_nonneg_right h1.2 (by omega)
    have h4 := Int.ediv_le_ediv (by omega : 0 < d) h3
    rw [Int.mul_comm d, Int.mul_ediv_cancel _ (by omega)] at h4
    omega
  · omega

def partBar (e : Int) (i : Nat) : Nat → Value := fun j => .int .i32 (if j < i then barC e j else 0)
theorem bar_next {w : World} {r W i : Nat} {e : Int} (h : w.rowIs r 21 W (partBar e i)) {v : Int} (hv : v = barC e i) : (w.setCell ⟨r, i, none⟩ (.int .i32 v)).rowIs r 21 W (partBar e (i + 1)) := by
  subst hv
  exact (h.set i _).congr fun j _ => by
    by_cases e : j = i
    · subst e; rw [if_pos rfl]; unfold partBar; rw [if_pos (by omega)]
    · rw [if_neg e]; unfold partBar
      by_cases h1 : j < i
      · rw [if_pos h1, if_pos (by omega)]
      · rw [if_neg h1, if_neg (by omega)]

set_option maxHeartbeats 4000000 in
theorem bar_any (n d w0 : Int) (w : World) (hn : -9223372036854775808 ≤ n ∧ n ≤ 9223372036854775807) (hd : -9223372036854775808 ≤ d ∧ d ≤ 9223372036854775807) (hw : -9223372036854775808 ≤ w0 ∧ w0 ≤ 9223372036854775807) :
    Calls Tryd.prog 14 #[.int .i64 n, .int .i64 d, .int .i64 w0] w fun e w' => e = .returned (.string (barT n d w0)) ∧ Below w.heap.size w w' := by
  obtain ⟨W, hW⟩ : ∃ W : Nat, min (max w0 0) 4096 = (W : Int) := ⟨(min (max w0 0) 4096).toNat, by omega⟩
  have hWb : W ≤ 4096 := by omega
  have HE := run.hid (show barT n d w0 = strOf ((List.range W).map (barC (eighthsT n d w0))) by unfold barT wideT; rw [hW, Int.toNat_natCast])
  obtain ⟨eb1, eb2⟩ := eighths_bd n d w0
  have hmk := run_make_row' (P := Tryd.prog) 61 21 (.int .i32 0) 4 Tryd.underlying61 info_i32 rfl .i64 .i64 W (by omega) (by omega) w
  have HR := run.hid (World.rowIs_made w (.int .i32 0) W 21)
  have HB := run.hid (run.below_one w (.cells (madeCells #[.int .i32 0] W) 21))
  obtain ⟨E, hE⟩ : ∃ E : Int, E = eighthsT n d w0 := ⟨_, rfl⟩
  rw [← hE] at eb1 eb2 HE
  have HEE := run.hid hE
  clear hE
  have HWW := run.hid hW
  go_enter Tryd.func14, Tryd.ntmps14
  go_upto_if 21 with fail
  clear hmk hW
  have hsz : (w.alloc (.cells (madeCells #[.int .i32 0] W) 21)).heap.size = w.heap.size + 1 := by simp
  generalize w.alloc (.cells (madeCells #[.int .i32 0] W) 21) = w1 at *
  generalize hr : w.heap.size = r at *
  go_cut [8] (fun c wx => c = .int .i64 E ∧ Below w1.heap.size w1 wx)
  case first =>
    by_cases hd1 : 1 ≤ d
    · obtain ⟨N, hN⟩ : ∃ N : Nat, min (max n 0) d = (N : Int) := ⟨(min (max n 0) d).toNat, by omega⟩
      obtain ⟨Z, hZ⟩ : ∃ Z : Nat, (8 : Int) * (W : Int) = (Z : Int) := ⟨8 * W, by omega⟩
      obtain ⟨D, rfl⟩ : ∃ D : Nat, d = (D : Int) := ⟨d.toNat, by omega⟩
      have hND : N ≤ D := by omega
      have hZb : Z ≤ 32768 := by omega
      have HEQ : Hid (E = ((N * Z / D : Nat) : Int)) := by
        show E = _
        rw [HEE.out]; unfold eighthsT wideT
        rw [if_pos hd1, HWW.out, hN, hZ]
        push_cast; rfl
      have HM := run.hid (Tryd.bits_Mul64 N Z (by omega) (by omega) w1)
      have hlt : N * Z < D * 18446744073709551616 := by
        have h1 : N * Z ≤ D * Z := Nat.mul_le_mul_right _ hND
        have h2 : D * Z < D * 18446744073709551616 := Nat.mul_lt_mul_of_pos_left (by omega) (by omega)
        omega
      have HDD := run.hid (fun w => div_any (N * Z / 18446744073709551616) (N * Z % 18446744073709551616) D w (Nat.mod_lt _ (by decide)) (by rw [Nat.div_lt_iff_lt_mul (by decide)]; exact hlt) (by omega))
      have HF : Hid (N * Z / 18446744073709551616 * 2 ^ 64 + N * Z % 18446744073709551616 = N * Z) := by
        have h1 := Nat.div_add_mod (N * Z) 18446744073709551616
        rw [Nat.mul_comm] at h1
        exact h1
      clear hlt
      go_wp2_with fail
      refine HM.out.mono ?_
      rintro e w' ⟨rfl, rfl⟩
      go_wp2_with fail
      refine (HDD.out _).mono ?_
      rintro e w' ⟨⟨rr, rfl⟩, hbl⟩
      rw [HF.out, ← HEQ.out]
      clear HF HEQ HDD HM
      go_wp2
      go_meet
      case rel => exact ⟨rfl, hbl⟩
    · have hd2 : d < 1 := by omega
      have HEQ : Hid (E = 0) := by show E = 0; rw [HEE.out]; unfold eighthsT; rw [if_neg hd1]
      go_wp2
      go_meet
      case rel => exact ⟨by rw [HEQ.out], Below.refl _ _⟩
  case rest =>
    obtain ⟨rfl, hbl⟩ := hcut
    have HR1 := run.hid (HR.out.of_block (hbl.block r (by omega)))
    have HB1 := run.hid (HB.out.trans (hbl.mono (by omega)))
    clear HR HB
    go_wp2
    go_loopw [46] (fun v wr => ∃ i : Nat, i ≤ W ∧ v = .int .i64 i ∧ Hid (wr.rowIs r 21 W (partBar E i)) ∧ Hid (Below r w wr)) (fun v _ => W - (intOf v).toNat)
    case atStart => exact ⟨0, Nat.zero_le _, rfl, HR1.out.congr (fun j _ => rfl), HB1⟩
    case round =>
      obtain ⟨i, hi, rfl, HRr, HBr⟩ := hrel
      by_cases hlt : i < W
      · have hcl := HRr.out.cell hlt
        have hfz := HRr.out.frozen i
        have hz : ∀ v : Int, v = barC E i → Hid ((wr.setCell ⟨r, i, none⟩ (.int .i32 v)).rowIs r 21 W (partBar E (i + 1))) := fun v hv => bar_next HRr.out hv
        have hB2 : ∀ v : Value, Hid (Below r w (wr.setCell ⟨r, i, none⟩ v)) := fun v => HBr.out.setCell (p := ⟨r, i, none⟩) (Nat.le_refl _) v
        have HZ := run.hid hz
        have HB2 := run.hid hB2
        clear hz hB2
        by_cases h8 : 8 ≤ E - 8 * i
        · have H1 := HZ.out _ (show (9608 : Int) = barC E i by unfold barC; rw [if_pos h8])
          have H2 := HB2.out (.int .i32 9608)
          clear HZ HB2
          go_wp2
          go_roundw
          case rel => exact ⟨i + 1, by omega, by go_num, H1, H2⟩
          case measure => simp [intOf]; omega
        have h8' : E - 8 * i < 8 := by omega
        by_cases h0 : 0 < E - 8 * i
        · have H1 := HZ.out _ (show (9616 : Int) - (E - 8 * (i : Int)) = barC E i by unfold barC; rw [if_neg h8, if_pos h0])
          have H2 := HB2.out (.int .i32 ((9616 : Int) - (E - 8 * (i : Int))))
          clear HZ HB2
          go_wp2
          go_roundw
          case rel => exact ⟨i + 1, by omega, by go_num, H1, H2⟩
          case measure => simp [intOf]; omega
        have h0' : E - 8 * i ≤ 0 := by omega
        · have H1 := HZ.out _ (show (32 : Int) = barC E i by unfold barC; rw [if_neg h8, if_neg h0])
          have H2 := HB2.out (.int .i32 32)
          clear HZ HB2
          go_wp2
          go_roundw
          case rel => exact ⟨i + 1, by omega, by go_num, H1, H2⟩
          case measure => simp [intOf]; omega
      · obtain rfl : i = W := by omega
        have hF : wr.rowIs r 21 i fun j => .int .i32 (barC E j) := HRr.out.congr fun j hj => by unfold partBar; rw [if_pos hj]
        have hs := run_str_row (P := Tryd.prog) wr 61 9 21 r i i 21 _ Tryd.underlying61 Tryd.underlying21 Tryd.underlying9 hF
        clear hF
        go_wp2
        go_ret
        exact ⟨by rw [HE.out]; rfl, by rw [hr]; exact HBr.out⟩

end Go.Proofs.YtbfheehaagcmeaaDoor.can
