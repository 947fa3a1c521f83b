/-
  The walk of the law CanvasRound.
-/
import Derived.Test.YtbfheehaagcmeaaDoorCanRoundW
import Derived.Test.YtbfheehaagcmeaaDoorCanPts
import Derived.Test.YtbfheehaagcmeaaDoorCanAlive
import Derived.Test.YtbfheehaagcmeaaDoorUtfUse
import Derived.Lib.MinMax
import Derived.Lib.QuietBelow
namespace Go.Proofs.YtbfheehaagcmeaaDoor.can
open Go.RowKit Go.Proofs Go.Proofs.YtbfheehaagcmeaaDoor.flo
set_option linter.unusedVariables false

theorem reads_i32 {w : World} {v : Value} {l : List Int} (h : run.Reads w v (utf.rv l)) {k : Nat} (hk : k < l.length) : ∃ b off c, v = .slice (some ⟨b, off, none⟩) l.length c ∧ b < w.heap.size ∧ w.cell? ⟨b, off + k, none⟩ = some (.int .i32 (l.getD k 0)) := by
  obtain ⟨a, c, rfl, hc, -⟩ := h
  obtain ⟨b, off, rfl, hlt, hcell⟩ := hc (by intro e; have := congrArg List.length e; rw [utf.rv_length, List.length_nil] at this; omega)
  exact ⟨b, off, c, by rw [utf.rv_length], hlt, hcell k _ (utf.rv_get hk)⟩
theorem eigL_take {l : List Int} {k : Nat} (h : k < l.length) : eigL (l.take (k + 1)) = eigL (l.take k) + eig (l.getD k 0) := by
  rw [List.take_succ_eq_append_getElem h, eigL_snoc]
  simp [List.getD_eq_getElem?_getD, h]
theorem eig_bd (c : Int) : 0 ≤ eig c ∧ eig c ≤ 8 := by unfold eig; split <;> omega
theorem eigL_bd : ∀ l : List Int, 0 ≤ eigL l ∧ eigL l ≤ 8 * l.length
  | [] => by simp [eigL]
  | c :: t => by
    have h1 := eigL_bd t
    have h2 := eig_bd c
    have e : eigL (c :: t) = eig c + eigL t := by simp [eigL]
    rw [e, List.length_cons]
    omega

set_option maxRecDepth 100000 in
set_option maxHeartbeats 1000000 in
theorem eighths_any (s : ByteArray) (w : World) (hs : s.size ≤ 16384) : Calls Tryd.prog 16 #[.string s] w fun e w' => e = .returned (.int .i64 (eigL (utf.runes (utf.bs s)))) ∧ Below w.heap.size w w' := by
  have hl := utf.runes_len s
  go_enter Tryd.func16, Tryd.ntmps16
  go_wp2_with fail
  refine (utf.runes_use s w (by omega) (by omega)).mono ?_
  rintro e w1 ⟨v, rfl, -, hr, hb, -⟩
  generalize hLe : utf.runes (utf.bs s) = L at *
  have HLE := run.hid hLe
  clear hLe
  have HR := run.hid hr
  obtain ⟨a, c, rfl, -, -⟩ := hr
  rw [utf.rv_length] at *
  have HB := run.hid hb
  have hw1 := hb.size
  clear hb
  generalize hN : L.length = N at *
  have HN := run.hid hN
  clear hN
  obtain ⟨EL, hEL⟩ : ∃ EL, EL = eigL L := ⟨_, rfl⟩
  have HEL := run.hid hEL
  clear hEL
  go_wp2
  go_loopw [4, 5] (fun vn vi wr => ∃ i : Nat, i ≤ N ∧ vi = .int .i64 i ∧ vn = .int .i64 (eigL (L.take i)) ∧ Below w1.heap.size w1 wr) (fun _ vi _ => (N - intOf vi).toNat)
  case atStart => exact ⟨0, by omega, rfl, rfl, Below.refl _ _⟩
  case round =>
    obtain ⟨i, hi, rfl, rfl, hbel⟩ := hrel
    by_cases hil : i < N
    · obtain ⟨b, off, c', e, hlt, hc⟩ := reads_i32 (HR.out.below hbel) (k := i) (by rw [HN.out]; exact hil)
      simp only [Value.slice.injEq] at e
      obtain ⟨rfl, -, rfl⟩ := e
      have HT := run.hid (eigL_take (l := L) (k := i) (by rw [HN.out]; exact hil))
      have hbd := eigL_bd (L.take i)
      have htl : (L.take i).length ≤ i := by simp; omega
      have hE : Hid (eig (L.getD i 0) = if 0x2588 ≤ L.getD i 0 ∧ L.getD i 0 ≤ 0x258f then 0x2590 - L.getD i 0 else 0) := rfl
      generalize L.getD i 0 = ch at *
      generalize eigL (L.take i) = ev at *
      generalize (L.take i).length = tl at *
      generalize eig ch = eg at *
      by_cases h1 : 0x2588 ≤ ch
      · by_cases h2 : ch ≤ 0x258f
        · have hg : eg = 0x2590 - ch := by have := hE.out; rw [if_pos ⟨h1, h2⟩] at this; exact this
          have HG := run.hid hg
          clear hE hg
          go_wp2
          go_roundw
          case rel => exact ⟨i + 1, by omega, by go_num, by rw [HT.out, HG.out]; try go_num, hbel⟩
          case measure => simp [intOf]; omega
        · have hg : eg = 0 := by have := hE.out; rw [if_neg (by omega)] at this; exact this
          have HG := run.hid hg
          clear hE hg
          go_wp2
          go_roundw
          case rel => exact ⟨i + 1, by omega, by go_num, by rw [HT.out, HG.out, Int.add_zero], hbel⟩
          case measure => simp [intOf]; omega
      · have hg : eg = 0 := by have := hE.out; rw [if_neg (by omega)] at this; exact this
        have HG := run.hid hg
        clear hE hg
        go_wp2
        go_roundw
        case rel => exact ⟨i + 1, by omega, by go_num, by rw [HT.out, HG.out, Int.add_zero], hbel⟩
        case measure => simp [intOf]; omega
    · obtain rfl : i = N := by omega
      have hfin : eigL (L.take i) = EL := by rw [HEL.out, List.take_of_length_le (by rw [HN.out]; exact Nat.le_refl _)]
      rw [hfin]
      clear hfin
      have HBB := run.hid (HB.out.trans (hbel.mono hw1))
      clear HB hbel
      go_wp2
      go_ret
      exact ⟨by rw [HLE.out, ← HEL.out]; rfl, HBB.out⟩

def Four (ps qs : List (Nat × Nat)) (k : Nat) : Prop := qs.map num2 = ps.map fun p => (Nat.repeat quad k (num2 p))
theorem four_zero (ps : List (Nat × Nat)) : Four ps ps 0 := by
  unfold Four
  apply List.map_congr_left
  intro p _
  rfl
theorem four_next {ps qs rs : List (Nat × Nat)} {k : Nat} (h : Four ps qs k) (hr : rs.map num2 = qs.map (fun p => turnT (num2 (0, 0)) (num2 (0, oneB)) (num2 p))) : Four ps rs (k + 1) := by
  unfold Four at *
  rw [hr]
  have e : qs.map (fun p => turnT (num2 (0, 0)) (num2 (0, oneB)) (num2 p)) = (qs.map num2).map quad := by rw [List.map_map]; rfl
  rw [e, h, List.map_map]
  rfl
theorem four_len {ps qs : List (Nat × Nat)} {k : Nat} (h : Four ps qs k) : qs.length = ps.length := by
  have := congrArg List.length h
  simpa using this
theorem four_get {ps qs : List (Nat × Nat)} (h : Four ps qs 4) {i : Nat} (hi : i < ps.length) (h1 : finW D (ps.getD i (0, 0)).1 = true) (h2 : finW D (ps.getD i (0, 0)).2 = true) :
    D.order (ps.getD i (0, 0)).1 (qs.getD i (0, 0)).1 = some .eq ∧ D.order (ps.getD i (0, 0)).2 (qs.getD i (0, 0)).2 = some .eq := by
  have hl := four_len h
  have e := congrArg (fun l => l[i]?) h
  simp only [List.getElem?_map] at e
  rw [List.getElem?_eq_getElem (by omega), List.getElem?_eq_getElem hi] at e
  simp only [Option.map_some, Option.some.injEq] at e
  rw [List.getD_eq_getElem?_getD, List.getElem?_eq_getElem hi] at *
  rw [List.getD_eq_getElem?_getD, List.getElem?_eq_getElem (by omega)]
  simp only [Option.getD_some] at *
  obtain ⟨f1, f2⟩ := four_turns (p := num2 ps[i]) (finO_num h1) (finO_num h2)
  have e2 : num2 qs[i] = quad (quad (quad (quad (num2 ps[i])))) := e
  rw [← e2] at f1 f2
  obtain ⟨x, hx, hxf, hxv⟩ := f1
  obtain ⟨y, hy, hyf, hyv⟩ := f2
  have hx' : numW D qs[i].1 = true ∧ x = qs[i].1 := by
    have : num qs[i].1 = some x := hx
    unfold num at this
    split at this
    · rename_i hn; simp at this; exact ⟨hn, this.symm⟩
    · cases this
  have hy' : numW D qs[i].2 = true ∧ y = qs[i].2 := by
    have : num qs[i].2 = some y := hy
    unfold num at this
    split at this
    · rename_i hn; simp at this; exact ⟨hn, this.symm⟩
    · cases this
  obtain ⟨n1, e1⟩ := hx'
  obtain ⟨n2, e3⟩ := hy'
  rw [e1] at hxv
  rw [e3] at hyv
  constructor
  · rw [order_key D hfD (fin_num h1) n1, key_val hxv.symm, cmp_def, if_neg (by omega), if_pos rfl]
  · rw [order_key D hfD (fin_num h2) n2, key_val hyv.symm, cmp_def, if_neg (by omega), if_pos rfl]

set_option maxRecDepth 100000 in
set_option maxHeartbeats 8000000 in
theorem lawRound_any (l : List (Nat × Nat)) (a : Option Addr) (cap : Nat) (n m d wd : Int) (w : World) (hR : run.ReadsN 2 w (.slice a l.length cap) l.length (cellsP l)) (hlen : l.length * 16 ≤ 140737488355328) (hn : -9223372036854775808 ≤ n ∧ n ≤ 9223372036854775807) (hm : -9223372036854775808 ≤ m ∧ m ≤ 9223372036854775807) (hd : -9223372036854775808 ≤ d ∧ d ≤ 9223372036854775807) (hwd : -9223372036854775808 ≤ wd ∧ wd ≤ 9223372036854775807) (hDots : Dots w) :
    Calls Tryd.prog 4 #[.slice a l.length cap, .int .i64 n, .int .i64 m, .int .i64 d, .int .i64 wd] w fun e w' => e = .returned (.bool true) ∧ Below w.heap.size w w' := by
  have HP := run.hid (points_any l a cap w hR hlen)
  have HT := run.hid (fun (qs : List (Nat × Nat)) (a : Option Addr) (cap : Nat) (hq : qs.length = l.length) (X : World) (h : run.Reads X (.slice a qs.length cap) (qs.map C)) => turn_any qs a cap (0, 0) (0, oneB) X h (by rw [hq]; exact hlen))
  have HB1 := run.hid (fun X => bar_any n d wd X hn hd hwd)
  have HB2 := run.hid (fun X => bar_any m d wd X hm hd hwd)
  have hlen2 : l.length ≤ 8796093022208 := by omega
  go_enter Tryd.func4, Tryd.ntmps4
  go_wp2_with fail
  refine HP.out.mono ?_
  rintro e w1 ⟨v1, rfl, hown1, hb1⟩
  obtain ⟨a1, c1, rfl⟩ := run.own_value hown1
  have HO1 := run.hid hown1
  have hs1 := hb1.size
  have HBW1 := run.hid hb1
  have HD1 := run.hid (hDots.below hb1 hDots.lt)
  clear hown1 hb1 HP hR
  generalize hN : l.length = N at *
  have HN := run.hid hN
  clear hN
  go_wp2
  go_loopw [12, 13] (fun vb vi wr => ∃ (i : Nat) (qs : List (Nat × Nat)) (ab : Option Addr) (cb : Nat), i ≤ 4 ∧ vi = .int .i64 i ∧ vb = .slice ab N cb ∧ Hid (Four l qs i) ∧ Hid (run.Reads wr (.slice ab N cb) (qs.map C)) ∧ Below w1.heap.size w1 wr) (fun _ vi _ => (4 - intOf vi).toNat)
  case atStart => exact ⟨0, l, a1, c1, by omega, rfl, rfl, four_zero l, run.reads_own HO1.out, Below.refl _ _⟩
  case round =>
    obtain ⟨i, qs, ab, cb, hi, rfl, rfl, HF4, HRQ, hbel⟩ := hrel
    have hql : qs.length = N := by rw [four_len HF4.out, HN.out]
    have HQL := run.hid hql
    clear hql
    by_cases hil : i < 4
    · have HTi := run.hid (HT.out qs ab cb HQL.out wr (by rw [HQL.out]; exact HRQ.out))
      rw [HQL.out] at HTi
      unfold C at HTi
      dsimp only at HTi
      go_wp2_with fail
      refine HTi.out.mono ?_
      rintro e w2 ⟨v2, rs, rfl, hown2, hr2, hf2, hb2⟩
      obtain ⟨a2, c2, rfl⟩ := run.own_value hown2
      have HF5 := run.hid (four_next HF4.out hr2)
      have HR5 := run.hid (run.reads_own hown2)
      have hbel2 := hbel.trans (hb2.mono hbel.size)
      clear hown2 hr2 hf2 hb2 HTi HF4 HRQ
      go_wp2
      go_roundw
      case rel => exact ⟨i + 1, rs, a2, c2, by omega, by go_num, rfl, HF5, HR5, hbel2⟩
      case measure => simp [intOf]; omega
    · obtain rfl : i = 4 := by omega
      have hsr := hbel.size
      have HO4 := run.hid (run.own_below HO1.out hbel)
      have HD4 := run.hid (HD1.out.below hbel HD1.out.lt)
      have HB4 := run.hid (HBW1.out.trans (hbel.mono hs1))
      clear HT hil HO1 HD1 HBW1 hbel
      go_wp2
      generalize wr = wz at *
      go_loopw [14] (fun vi wr => ∃ i : Nat, i ≤ N ∧ vi = .int .i64 i ∧ Below wz.heap.size wz wr) (fun vi _ => (N - intOf vi).toNat)
      case atStart => exact ⟨0, by omega, rfl, Below.refl _ _⟩
      case round =>
        obtain ⟨i, hi, rfl, hbel⟩ := hrel
        have hsr2 := hbel.size
        by_cases hil : i < N
        · obtain ⟨b, off, rfl, hlt1, hcell1⟩ := readsC (by rw [← HN.out] at *; exact run.reads_own (run.own_below HO4.out hbel)) (k := i) (by rw [HN.out]; exact hil)
          obtain ⟨b2, off2, rfl, hlt2, hcell2⟩ := readsC (l := qs) (by rw [HQL.out]; exact HRQ.out.below hbel) (k := i) (by rw [HQL.out]; exact hil)
          have c1' := hcell1 i (by rw [HN.out]; exact hil)
          have c2' := hcell2 i (by rw [HQL.out]; exact hil)
          have HO := run.hid (four_get HF4.out (i := i) (by rw [HN.out]; exact hil))
          generalize l.getD i (0, 0) = pt1 at *
          generalize qs.getD i (0, 0) = pt2 at *
          obtain ⟨x, y⟩ := pt1
          obtain ⟨x2, y2⟩ := pt2
          have hcp : ∀ w, (∃ k, w = wr.drewN k) → w.cell? ⟨b, off + i * 1, none⟩ = some (.complex .f64 x y) := by rintro w ⟨k, rfl⟩; rw [Nat.mul_one]; exact c1'
          have hcq : ∀ w, (∃ k, w = wr.drewN k) → w.cell? ⟨b2, off2 + i * 1, none⟩ = some (.complex .f64 x2 y2) := by rintro w ⟨k, rfl⟩; rw [Nat.mul_one]; exact c2'
          obtain ⟨ic, hi1, hi2⟩ : ∃ it, Tryd.prog.info? 44 = some it ∧ it.size = 1 := by
            have := info_c128
            cases h : Tryd.prog.info? 44 with
            | none => rw [h] at this; cases this
            | some it => rw [h] at this; simp at this; exact ⟨it, rfl, this.2.1⟩
          clear hcell1 hcell2 c1' c2'
          go_upto_region 12 with fail
          --REGION12
          cases hx : finW D x with
          | false =>
            refine lexv.region (fun W => ∃ k, W = wr.drewN k) (by kernel_rfl) (by kernel_rfl) ⟨1, rfl⟩ ?_
            refine lexv.begin 115 rfl ?_
            refine lexv.o_pure (.slice (some ⟨b, off, none⟩) N c1) (fun w hc => c_move rfl rfl) ?_
            refine lexv.o_pure (.int .i64 (i : Nat)) (fun w hc => c_move rfl rfl) ?_
            refine lexv.o_pure (.pointer (some ⟨b, off + i * 1, none⟩)) (fun w hc => lex.run_at (size := 1) rfl rfl rfl hil Tryd.underlying41 hi1 hi2) ?_
            refine lexv.o_pure (.complex .f64 x y) (fun w hc => lex.run_load rfl rfl Tryd.underlying44 rfl (hcp w hc)) ?_
            refine lexv.o_pure (.float .f64 x) (fun w hc => c_real rfl rfl) ?_
            refine lexv.o_pure (.slice (some ⟨b, off, none⟩) N c1) (fun w hc => c_move rfl rfl) ?_
            refine lexv.o_pure (.int .i64 (i : Nat)) (fun w hc => c_move rfl rfl) ?_
            refine lexv.o_pure (.pointer (some ⟨b, off + i * 1, none⟩)) (fun w hc => lex.run_at (size := 1) rfl rfl rfl hil Tryd.underlying41 hi1 hi2) ?_
            refine lexv.o_pure (.complex .f64 x y) (fun w hc => lex.run_load rfl rfl Tryd.underlying44 rfl (hcp w hc)) ?_
            refine lexv.o_pure (.float .f64 x) (fun w hc => c_real rfl rfl) ?_
            refine lexv.o_val (fun u => ∃ r, u = .float .f64 r ∧ num r = oop .sub (num x) (num x)) (fun w hc => c_subC rfl rfl rfl hc) ?_
            rintro u ⟨r1, rfl, hr1⟩
            refine lexv.o_pure (.bool false) (fun w hc => c_eql rfl rfl rfl (less_not hx hr1)) ?_
            refine lexv.o_pure (.bool false) (fun w hc => c_move rfl rfl) ?_
            refine lexv.o_skip ?_
            refine lexv.o_skip ?_
            refine lexv.o_skip ?_
            refine lexv.o_skip ?_
            refine lexv.o_skip ?_
            refine lexv.o_skip ?_
            refine lexv.o_skip ?_
            refine lexv.o_skip ?_
            refine lexv.o_skip ?_
            refine lexv.o_skip ?_
            refine lexv.o_skip ?_
            refine lexv.o_skip ?_
            refine lexv.o_pure (.bool false) (fun w hc => c_pick rfl rfl rfl) ?_
            refine lexv.o_pure (.bool false) (fun w hc => c_move rfl rfl) ?_
            refine lexv.o_skip ?_
            refine lexv.o_skip ?_
            refine lexv.o_skip ?_
            refine lexv.o_skip ?_
            refine lexv.o_skip ?_
            refine lexv.o_skip ?_
            refine lexv.o_skip ?_
            refine lexv.o_skip ?_
            refine lexv.o_skip ?_
            refine lexv.o_pure (.bool false) (fun w hc => c_pick rfl rfl rfl) ?_
            refine lexv.o_end_at { tmps := #[.slice a N cap, .int .i64 n, .int .i64 m, .int .i64 d, .int .i64 wd, undef, undef, undef, undef, undef, u10, .slice (some ⟨b, off, none⟩) N c1, .slice (some ⟨b2, off2, none⟩) N cb, .int .i64 (4 : Nat), .int .i64 (i : Nat), undef, undef, undef, .slice a N cap, .slice (some ⟨b, off, none⟩) N c1, .slice (some ⟨b, off, none⟩) N c1, .int .i64 (4 : Nat), .bool false, u23, u24, u25, u26, .slice (some ⟨b2, off2, none⟩) N cb, .int .i64 (N : Nat), .slice (some ⟨b, off, none⟩) N c1, .int .i64 (N : Nat), .bool false, .int .i64 (i : Nat), .slice (some ⟨b, off, none⟩) N c1, .int .i64 (N : Nat), .bool true, u36, u37, .slice (some ⟨b, off, none⟩) N c1, .int .i64 (i : Nat), .pointer (some ⟨b, off + i * 1, none⟩), .complex .f64 x y, .float .f64 x, .slice (some ⟨b, off, none⟩) N c1, .int .i64 (i : Nat), .pointer (some ⟨b, off + i * 1, none⟩), .complex .f64 x y, .float .f64 x, .float .f64 r1, .bool false, .bool false, undef, undef, undef, undef, undef, undef, undef, undef, undef, undef, undef, undef, .bool false, .bool false, undef, undef, undef, undef, undef, undef, undef, undef, undef, .bool false, undef, undef, undef, undef, undef, undef, undef, undef, undef, undef, undef, undef, undef, undef, undef, undef, undef, undef, undef, undef, undef, undef, undef, undef, undef, undef, undef, undef, undef, undef, undef, undef, undef, undef, undef, undef, undef, undef, undef, undef], defers := [] } (by kernel_rfl) ?_
            rintro w' ⟨k, rfl⟩
            have hbel2 := hbel.trans (drewN_below wz.heap.size wr k)
            clear hcp hcq hlt1 hlt2 hbel
            go_wp2
            go_roundw
            case rel => exact ⟨i + 1, by omega, by go_num, hbel2⟩
            case measure => simp [intOf]; omega
          | true =>
            cases hy : finW D y with
            | false =>
              refine lexv.region (fun W => ∃ k, W = wr.drewN k) (by kernel_rfl) (by kernel_rfl) ⟨1, rfl⟩ ?_
              refine lexv.begin 115 rfl ?_
              refine lexv.o_pure (.slice (some ⟨b, off, none⟩) N c1) (fun w hc => c_move rfl rfl) ?_
              refine lexv.o_pure (.int .i64 (i : Nat)) (fun w hc => c_move rfl rfl) ?_
              refine lexv.o_pure (.pointer (some ⟨b, off + i * 1, none⟩)) (fun w hc => lex.run_at (size := 1) rfl rfl rfl hil Tryd.underlying41 hi1 hi2) ?_
              refine lexv.o_pure (.complex .f64 x y) (fun w hc => lex.run_load rfl rfl Tryd.underlying44 rfl (hcp w hc)) ?_
              refine lexv.o_pure (.float .f64 x) (fun w hc => c_real rfl rfl) ?_
              refine lexv.o_pure (.slice (some ⟨b, off, none⟩) N c1) (fun w hc => c_move rfl rfl) ?_
              refine lexv.o_pure (.int .i64 (i : Nat)) (fun w hc => c_move rfl rfl) ?_
              refine lexv.o_pure (.pointer (some ⟨b, off + i * 1, none⟩)) (fun w hc => lex.run_at (size := 1) rfl rfl rfl hil Tryd.underlying41 hi1 hi2) ?_
              refine lexv.o_pure (.complex .f64 x y) (fun w hc => lex.run_load rfl rfl Tryd.underlying44 rfl (hcp w hc)) ?_
              refine lexv.o_pure (.float .f64 x) (fun w hc => c_real rfl rfl) ?_
              refine lexv.o_val (fun u => ∃ r, u = .float .f64 r ∧ num r = oop .sub (num x) (num x)) (fun w hc => c_subC rfl rfl rfl hc) ?_
              rintro u ⟨r1, rfl, hr1⟩
              refine lexv.o_pure (.bool true) (fun w hc => c_eql rfl rfl rfl (less_fin hx hr1)) ?_
              refine lexv.o_pure (.bool true) (fun w hc => c_move rfl rfl) ?_
              refine lexv.o_pure (.slice (some ⟨b, off, none⟩) N c1) (fun w hc => c_move rfl rfl) ?_
              refine lexv.o_pure (.int .i64 (i : Nat)) (fun w hc => c_move rfl rfl) ?_
              refine lexv.o_pure (.pointer (some ⟨b, off + i * 1, none⟩)) (fun w hc => lex.run_at (size := 1) rfl rfl rfl hil Tryd.underlying41 hi1 hi2) ?_
              refine lexv.o_pure (.complex .f64 x y) (fun w hc => lex.run_load rfl rfl Tryd.underlying44 rfl (hcp w hc)) ?_
              refine lexv.o_pure (.float .f64 y) (fun w hc => c_imag rfl rfl) ?_
              refine lexv.o_pure (.slice (some ⟨b, off, none⟩) N c1) (fun w hc => c_move rfl rfl) ?_
              refine lexv.o_pure (.int .i64 (i : Nat)) (fun w hc => c_move rfl rfl) ?_
              refine lexv.o_pure (.pointer (some ⟨b, off + i * 1, none⟩)) (fun w hc => lex.run_at (size := 1) rfl rfl rfl hil Tryd.underlying41 hi1 hi2) ?_
              refine lexv.o_pure (.complex .f64 x y) (fun w hc => lex.run_load rfl rfl Tryd.underlying44 rfl (hcp w hc)) ?_
              refine lexv.o_pure (.float .f64 y) (fun w hc => c_imag rfl rfl) ?_
              refine lexv.o_val (fun u => ∃ r, u = .float .f64 r ∧ num r = oop .sub (num y) (num y)) (fun w hc => c_subC rfl rfl rfl hc) ?_
              rintro u ⟨r2, rfl, hr2⟩
              refine lexv.o_pure (.bool false) (fun w hc => c_eql rfl rfl rfl (less_not hy hr2)) ?_
              refine lexv.o_pure (.bool false) (fun w hc => c_pick rfl rfl rfl) ?_
              refine lexv.o_pure (.bool false) (fun w hc => c_move rfl rfl) ?_
              refine lexv.o_skip ?_
              refine lexv.o_skip ?_
              refine lexv.o_skip ?_
              refine lexv.o_skip ?_
              refine lexv.o_skip ?_
              refine lexv.o_skip ?_
              refine lexv.o_skip ?_
              refine lexv.o_skip ?_
              refine lexv.o_skip ?_
              refine lexv.o_pure (.bool false) (fun w hc => c_pick rfl rfl rfl) ?_
              refine lexv.o_end_at { tmps := #[.slice a N cap, .int .i64 n, .int .i64 m, .int .i64 d, .int .i64 wd, undef, undef, undef, undef, undef, u10, .slice (some ⟨b, off, none⟩) N c1, .slice (some ⟨b2, off2, none⟩) N cb, .int .i64 (4 : Nat), .int .i64 (i : Nat), undef, undef, undef, .slice a N cap, .slice (some ⟨b, off, none⟩) N c1, .slice (some ⟨b, off, none⟩) N c1, .int .i64 (4 : Nat), .bool false, u23, u24, u25, u26, .slice (some ⟨b2, off2, none⟩) N cb, .int .i64 (N : Nat), .slice (some ⟨b, off, none⟩) N c1, .int .i64 (N : Nat), .bool false, .int .i64 (i : Nat), .slice (some ⟨b, off, none⟩) N c1, .int .i64 (N : Nat), .bool true, u36, u37, .slice (some ⟨b, off, none⟩) N c1, .int .i64 (i : Nat), .pointer (some ⟨b, off + i * 1, none⟩), .complex .f64 x y, .float .f64 x, .slice (some ⟨b, off, none⟩) N c1, .int .i64 (i : Nat), .pointer (some ⟨b, off + i * 1, none⟩), .complex .f64 x y, .float .f64 x, .float .f64 r1, .bool true, .bool true, .slice (some ⟨b, off, none⟩) N c1, .int .i64 (i : Nat), .pointer (some ⟨b, off + i * 1, none⟩), .complex .f64 x y, .float .f64 y, .slice (some ⟨b, off, none⟩) N c1, .int .i64 (i : Nat), .pointer (some ⟨b, off + i * 1, none⟩), .complex .f64 x y, .float .f64 y, .float .f64 r2, .bool false, .bool false, .bool false, undef, undef, undef, undef, undef, undef, undef, undef, undef, .bool false, undef, undef, undef, undef, undef, undef, undef, undef, undef, undef, undef, undef, undef, undef, undef, undef, undef, undef, undef, undef, undef, undef, undef, undef, undef, undef, undef, undef, undef, undef, undef, undef, undef, undef, undef, undef, undef, undef, undef, undef], defers := [] } (by kernel_rfl) ?_
              rintro w' ⟨k, rfl⟩
              have hbel2 := hbel.trans (drewN_below wz.heap.size wr k)
              clear hcp hcq hlt1 hlt2 hbel
              go_wp2
              go_roundw
              case rel => exact ⟨i + 1, by omega, by go_num, hbel2⟩
              case measure => simp [intOf]; omega
            | true =>
              obtain ⟨ho1, ho2⟩ := HO.out hx hy
              refine lexv.region (fun W => ∃ k, W = wr.drewN k) (by kernel_rfl) (by kernel_rfl) ⟨1, rfl⟩ ?_
              refine lexv.begin 115 rfl ?_
              refine lexv.o_pure (.slice (some ⟨b, off, none⟩) N c1) (fun w hc => c_move rfl rfl) ?_
              refine lexv.o_pure (.int .i64 (i : Nat)) (fun w hc => c_move rfl rfl) ?_
              refine lexv.o_pure (.pointer (some ⟨b, off + i * 1, none⟩)) (fun w hc => lex.run_at (size := 1) rfl rfl rfl hil Tryd.underlying41 hi1 hi2) ?_
              refine lexv.o_pure (.complex .f64 x y) (fun w hc => lex.run_load rfl rfl Tryd.underlying44 rfl (hcp w hc)) ?_
              refine lexv.o_pure (.float .f64 x) (fun w hc => c_real rfl rfl) ?_
              refine lexv.o_pure (.slice (some ⟨b, off, none⟩) N c1) (fun w hc => c_move rfl rfl) ?_
              refine lexv.o_pure (.int .i64 (i : Nat)) (fun w hc => c_move rfl rfl) ?_
              refine lexv.o_pure (.pointer (some ⟨b, off + i * 1, none⟩)) (fun w hc => lex.run_at (size := 1) rfl rfl rfl hil Tryd.underlying41 hi1 hi2) ?_
              refine lexv.o_pure (.complex .f64 x y) (fun w hc => lex.run_load rfl rfl Tryd.underlying44 rfl (hcp w hc)) ?_
              refine lexv.o_pure (.float .f64 x) (fun w hc => c_real rfl rfl) ?_
              refine lexv.o_val (fun u => ∃ r, u = .float .f64 r ∧ num r = oop .sub (num x) (num x)) (fun w hc => c_subC rfl rfl rfl hc) ?_
              rintro u ⟨r1, rfl, hr1⟩
              refine lexv.o_pure (.bool true) (fun w hc => c_eql rfl rfl rfl (less_fin hx hr1)) ?_
              refine lexv.o_pure (.bool true) (fun w hc => c_move rfl rfl) ?_
              refine lexv.o_pure (.slice (some ⟨b, off, none⟩) N c1) (fun w hc => c_move rfl rfl) ?_
              refine lexv.o_pure (.int .i64 (i : Nat)) (fun w hc => c_move rfl rfl) ?_
              refine lexv.o_pure (.pointer (some ⟨b, off + i * 1, none⟩)) (fun w hc => lex.run_at (size := 1) rfl rfl rfl hil Tryd.underlying41 hi1 hi2) ?_
              refine lexv.o_pure (.complex .f64 x y) (fun w hc => lex.run_load rfl rfl Tryd.underlying44 rfl (hcp w hc)) ?_
              refine lexv.o_pure (.float .f64 y) (fun w hc => c_imag rfl rfl) ?_
              refine lexv.o_pure (.slice (some ⟨b, off, none⟩) N c1) (fun w hc => c_move rfl rfl) ?_
              refine lexv.o_pure (.int .i64 (i : Nat)) (fun w hc => c_move rfl rfl) ?_
              refine lexv.o_pure (.pointer (some ⟨b, off + i * 1, none⟩)) (fun w hc => lex.run_at (size := 1) rfl rfl rfl hil Tryd.underlying41 hi1 hi2) ?_
              refine lexv.o_pure (.complex .f64 x y) (fun w hc => lex.run_load rfl rfl Tryd.underlying44 rfl (hcp w hc)) ?_
              refine lexv.o_pure (.float .f64 y) (fun w hc => c_imag rfl rfl) ?_
              refine lexv.o_val (fun u => ∃ r, u = .float .f64 r ∧ num r = oop .sub (num y) (num y)) (fun w hc => c_subC rfl rfl rfl hc) ?_
              rintro u ⟨r2, rfl, hr2⟩
              refine lexv.o_pure (.bool true) (fun w hc => c_eql rfl rfl rfl (less_fin hy hr2)) ?_
              refine lexv.o_pure (.bool true) (fun w hc => c_pick rfl rfl rfl) ?_
              refine lexv.o_pure (.bool true) (fun w hc => c_move rfl rfl) ?_
              refine lexv.o_pure (.slice (some ⟨b, off, none⟩) N c1) (fun w hc => c_move rfl rfl) ?_
              refine lexv.o_pure (.int .i64 (i : Nat)) (fun w hc => c_move rfl rfl) ?_
              refine lexv.o_pure (.pointer (some ⟨b, off + i * 1, none⟩)) (fun w hc => lex.run_at (size := 1) rfl rfl rfl hil Tryd.underlying41 hi1 hi2) ?_
              refine lexv.o_pure (.complex .f64 x y) (fun w hc => lex.run_load rfl rfl Tryd.underlying44 rfl (hcp w hc)) ?_
              refine lexv.o_pure (.slice (some ⟨b2, off2, none⟩) N cb) (fun w hc => c_move rfl rfl) ?_
              refine lexv.o_pure (.int .i64 (i : Nat)) (fun w hc => c_move rfl rfl) ?_
              refine lexv.o_pure (.pointer (some ⟨b2, off2 + i * 1, none⟩)) (fun w hc => lex.run_at (size := 1) rfl rfl rfl hil Tryd.underlying41 hi1 hi2) ?_
              refine lexv.o_pure (.complex .f64 x2 y2) (fun w hc => lex.run_load rfl rfl Tryd.underlying44 rfl (hcq w hc)) ?_
              refine lexv.o_pure (.bool false) (fun w hc => c_neq rfl rfl rfl ho1 ho2) ?_
              refine lexv.o_pure (.bool false) (fun w hc => c_pick rfl rfl rfl) ?_
              refine lexv.o_end_at { tmps := #[.slice a N cap, .int .i64 n, .int .i64 m, .int .i64 d, .int .i64 wd, undef, undef, undef, undef, undef, u10, .slice (some ⟨b, off, none⟩) N c1, .slice (some ⟨b2, off2, none⟩) N cb, .int .i64 (4 : Nat), .int .i64 (i : Nat), undef, undef, undef, .slice a N cap, .slice (some ⟨b, off, none⟩) N c1, .slice (some ⟨b, off, none⟩) N c1, .int .i64 (4 : Nat), .bool false, u23, u24, u25, u26, .slice (some ⟨b2, off2, none⟩) N cb, .int .i64 (N : Nat), .slice (some ⟨b, off, none⟩) N c1, .int .i64 (N : Nat), .bool false, .int .i64 (i : Nat), .slice (some ⟨b, off, none⟩) N c1, .int .i64 (N : Nat), .bool true, u36, u37, .slice (some ⟨b, off, none⟩) N c1, .int .i64 (i : Nat), .pointer (some ⟨b, off + i * 1, none⟩), .complex .f64 x y, .float .f64 x, .slice (some ⟨b, off, none⟩) N c1, .int .i64 (i : Nat), .pointer (some ⟨b, off + i * 1, none⟩), .complex .f64 x y, .float .f64 x, .float .f64 r1, .bool true, .bool true, .slice (some ⟨b, off, none⟩) N c1, .int .i64 (i : Nat), .pointer (some ⟨b, off + i * 1, none⟩), .complex .f64 x y, .float .f64 y, .slice (some ⟨b, off, none⟩) N c1, .int .i64 (i : Nat), .pointer (some ⟨b, off + i * 1, none⟩), .complex .f64 x y, .float .f64 y, .float .f64 r2, .bool true, .bool true, .bool true, .slice (some ⟨b, off, none⟩) N c1, .int .i64 (i : Nat), .pointer (some ⟨b, off + i * 1, none⟩), .complex .f64 x y, .slice (some ⟨b2, off2, none⟩) N cb, .int .i64 (i : Nat), .pointer (some ⟨b2, off2 + i * 1, none⟩), .complex .f64 x2 y2, .bool false, .bool false, undef, undef, undef, undef, undef, undef, undef, undef, undef, undef, undef, undef, undef, undef, undef, undef, undef, undef, undef, undef, undef, undef, undef, undef, undef, undef, undef, undef, undef, undef, undef, undef, undef, undef, undef, undef, undef, undef, undef, undef], defers := [] } (by kernel_rfl) ?_
              rintro w' ⟨k, rfl⟩
              have hbel2 := hbel.trans (drewN_below wz.heap.size wr k)
              clear hcp hcq hlt1 hlt2 hbel
              go_wp2
              go_roundw
              case rel => exact ⟨i + 1, by omega, by go_num, hbel2⟩
              case measure => simp [intOf]; omega
          --END12
        · obtain rfl : i = N := by omega
          have HD5 := run.hid (HD4.out.below hbel HD4.out.lt)
          have HB5 := run.hid (HB4.out.trans (hbel.mono HB4.out.size))
          have hlt5 := HB5.out.size
          obtain ⟨t1, t2, -, t4⟩ := bar_told n d wd
          obtain ⟨q1, q2, -, q4⟩ := bar_told m d wd
          have hmono1 : n ≤ m → eighthsT n d wd ≤ eighthsT m d wd := eighthsT_mono
          have hmono2 : m ≤ n → eighthsT m d wd ≤ eighthsT n d wd := eighthsT_mono
          have hk : min (max wd 0) 4096 = wideT wd := rfl
          clear hbel HD4 HB4 HO4 hil
          generalize barT n d wd = S1 at *
          generalize barT m d wd = S2 at *
          generalize eighthsT n d wd = e1 at *
          generalize eighthsT m d wd = e2 at *
          generalize wideT wd = kw at *
          have HW1 := run.hid (fun X => clu.width_any S1 X (by omega))
          have HW2 := run.hid (fun X => clu.width_any S2 X (by omega))
          have HE1 := run.hid (fun X => eighths_any S1 X t4)
          have HE2 := run.hid (fun X => eighths_any S2 X q4)
          rw [t1, ← hk] at HW1
          rw [q1, ← hk] at HW2
          rw [t2] at HE1
          rw [q2] at HE2
          clear t1 t2 t4 q1 q2 q4
          clear hk
          go_wp2_with fail
          refine (HB1.out wr).mono ?_
          rintro e w3 ⟨rfl, hb3⟩
          have hB3 := HB5.out.trans (hb3.mono hlt5)
          have HB3 := run.hid hB3
          have hs3 := hB3.size
          have HD6 := run.hid (HD5.out.below hb3 HD5.out.lt)
          clear HB5 HD5 hb3 hB3
          go_wp2_with fail
          refine (HB2.out w3).mono ?_
          rintro e w4 ⟨rfl, hb4⟩
          have hB4 := HB3.out.trans (hb4.mono hs3)
          have HB4 := run.hid hB4
          have hs4 := hB4.size
          have HD7 := run.hid (HD6.out.below hb4 HD6.out.lt)
          clear HB3 HD6 hb4 hB4
          go_wp2_with fail
          refine (HW1.out w4).mono ?_
          rintro e w5 ⟨rfl, hb5⟩
          have hB5 := HB4.out.trans (hb5.mono hs4)
          have HB5 := run.hid hB5
          have hs5 := hB5.size
          have HD8 := run.hid (HD7.out.below hb5 HD7.out.lt)
          clear HB4 HD7 hb5 hB5
          go_wp2_with fail
          refine (HW2.out w5).mono ?_
          rintro e w6 ⟨rfl, hb6⟩
          have hB6 := HB5.out.trans (hb6.mono hs5)
          have HB6 := run.hid hB6
          have hs6 := hB6.size
          have HD9 := run.hid (HD8.out.below hb6 HD8.out.lt)
          clear HB5 HD8 hb6 hB6
          go_wp2_with fail
          refine (HE1.out w6).mono ?_
          rintro e w7 ⟨rfl, hb7⟩
          have hB7 := HB6.out.trans (hb7.mono hs6)
          have HB7 := run.hid hB7
          have hs7 := hB7.size
          have HD10 := run.hid (HD9.out.below hb7 HD9.out.lt)
          clear HB6 HD9 hb7 hB7
          go_wp2_with fail
          refine (HE2.out w7).mono ?_
          rintro e w8 ⟨rfl, hb8⟩
          have hB8 := HB7.out.trans (hb8.mono hs7)
          have HB8 := run.hid hB8
          have hs8 := hB8.size
          have HD11 := run.hid (HD10.out.below hb8 HD10.out.lt)
          clear HB7 HD10 hb8 hB8
          by_cases hnm : n ≤ m
          · have h12 : e1 ≤ e2 := hmono1 hnm
            clear hmono1 hmono2
            go_wp2
            go_ret
            exact ⟨rfl, HB8.out⟩
          · have h21 : e2 ≤ e1 := hmono2 (by omega)
            clear hmono1 hmono2
            by_cases h12 : e1 ≤ e2
            · obtain rfl : e1 = e2 := by omega
              go_wp2_with fail
              refine (HE1.out w8).mono ?_
              rintro e w9 ⟨rfl, hb9⟩
              have hB9 := HB8.out.trans (hb9.mono hs8)
              have HB9 := run.hid hB9
              have hs9 := hB9.size
              have HD12 := run.hid (HD11.out.below hb9 HD11.out.lt)
              clear HB8 HD11 hb9 hB9
              go_wp2_with fail
              refine (HE2.out w9).mono ?_
              rintro e w10 ⟨rfl, hb10⟩
              have hB10 := HB9.out.trans (hb10.mono hs9)
              have HB10 := run.hid hB10
              have hs10 := hB10.size
              have HD13 := run.hid (HD12.out.below hb10 HD12.out.lt)
              clear HB9 HD12 hb10 hB10
              go_wp2_with fail
              refine (alive_any _ HD13.out).mono ?_
              rintro e w11 ⟨rfl, hb11⟩
              have HB11 := run.hid (HB10.out.trans (hb11.mono hs10))
              go_wp2
              go_ret
              exact ⟨rfl, HB11.out⟩
            · go_wp2
              go_ret
              exact ⟨rfl, HB8.out⟩
end Go.Proofs.YtbfheehaagcmeaaDoor.can
