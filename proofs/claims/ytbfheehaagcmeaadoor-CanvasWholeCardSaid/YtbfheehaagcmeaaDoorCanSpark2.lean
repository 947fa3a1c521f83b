/-
  The walk of the layer canvas's Spark.
-/
import Derived.Test.YtbfheehaagcmeaaDoorCanSpark
namespace Go.Proofs.YtbfheehaagcmeaaDoor.can
open Go.RowKit Go.Proofs Go.Proofs.YtbfheehaagcmeaaDoor.flo
set_option linter.unusedVariables false

theorem info_f64s : (Tryd.prog.info? 45).map (·.size) = some 1 := by kernel_rfl
theorem blank_next {w : World} {r W i : Nat} (h : w.rowIs r 21 W fun j => .int .i32 (if j < i then 32 else 0)) : (w.setCell ⟨r, i, none⟩ (.int .i32 32)).rowIs r 21 W fun j => .int .i32 (if j < i + 1 then 32 else 0) :=
  (h.set i _).congr fun j _ => by
    by_cases e : j = i
    · subst e; rw [if_pos rfl, if_pos (by omega)]
    · rw [if_neg e]
      by_cases h1 : j < i
      · rw [if_pos h1, if_pos (by omega)]
      · rw [if_neg h1, if_neg (by omega)]
theorem blank_full {w : World} {r W : Nat} {l : List Nat} (h : w.rowIs r 21 W fun j => .int .i32 (if j < W then 32 else 0)) : w.rowIs r 21 W (partS l W 0) :=
  h.congr fun j hj => by
    unfold partS sparkRow
    rw [if_pos hj]
    by_cases h1 : j < W - l.length
    · rw [if_pos (by omega), if_pos h1]
    · rw [if_neg (by omega)]
theorem spark_done {w : World} {r W : Nat} {l : List Nat} (hl : l.length ≤ W) (h : w.rowIs r 21 W (partS l W l.length)) : w.rowIs r 21 W fun j => .int .i32 (sparkRow l W j) :=
  h.congr fun j hj => by unfold partS; rw [if_pos (by omega)]

def loK (l : List Nat) (k : Nat) : Nat := loT (l.take k)
def hiK (l : List Nat) (k : Nat) : Nat := hiT (l.take k)
theorem loK_succ {l : List Nat} {k : Nat} (h : k < l.length) : loK l (k + 1) = (if finW D (l.getD k 0) then minB (loK l k) (l.getD k 0) else loK l k) ∧ hiK l (k + 1) = (if finW D (l.getD k 0) then maxB (hiK l k) (l.getD k 0) else hiK l k) :=
  ⟨foldl_take_succ _ _ l h, foldl_take_succ _ _ l h⟩

/-- cells that a slice of floats leads to -/
theorem reads_at {w : World} {a : Option Addr} {cap : Nat} {l : List Nat} (h : run.Reads w (.slice a l.length cap) (l.map F)) {k : Nat} (hk : k < l.length) : ∃ b off, a = some ⟨b, off, none⟩ ∧ b < w.heap.size ∧ ∀ k, k < l.length → w.cell? ⟨b, off + k, none⟩ = some (F (l.getD k 0)) := by
  obtain ⟨a0, c0, he, hc, hn⟩ := h
  simp only [Value.slice.injEq] at he
  obtain ⟨rfl, -, rfl⟩ := he
  obtain ⟨b, off, e, hb, hcl⟩ := hc (by intro e; have := congrArg List.length e; simp at this; rw [this] at hk; simp at hk)
  refine ⟨b, off, e, hb, fun k hk => hcl k _ ?_⟩
  rw [List.getElem?_map, List.getElem?_eq_getElem hk]
  simp [List.getD_eq_getElem?_getD, hk]

set_option maxRecDepth 100000 in
set_option maxHeartbeats 4000000 in
theorem spark_any (l : List Nat) (a : Option Addr) (cap : Nat) (w0 : Int) (w : World) (hR : run.Reads w (.slice a l.length cap) (l.map F)) (hcap : l.length ≤ cap) (hwf : ∀ v ∈ l, v < 18446744073709551616) (hlen : l.length ≤ 140737488355328) (hw : -9223372036854775808 ≤ w0 ∧ w0 ≤ 9223372036854775807) :
    Calls Tryd.prog 27 #[.slice a l.length cap, .int .i64 w0] w fun e w' => e = .returned (.string (sparkT l w0)) ∧ Below w.heap.size w w' := by
  obtain ⟨W, hW⟩ : ∃ W : Nat, min (max w0 0) 4096 = (W : Int) := ⟨(min (max w0 0) 4096).toNat, by omega⟩
  have hWb : W ≤ 4096 := by omega
  obtain ⟨L, hL⟩ : ∃ L, L = lastT l W := ⟨_, rfl⟩
  have HE := run.hid (show sparkT l w0 = strOf ((List.range W).map (sparkRow L W)) by unfold sparkT wideT; rw [hW, Int.toNat_natCast, hL])
  have hLl : L.length ≤ W ∧ L.length = l.length - (l.length - W) := by rw [hL]; unfold lastT; rw [List.length_drop]; omega
  have HLW : Hid (∀ k, k < L.length → L.getD k 0 < 18446744073709551616) := by
    intro k hk
    apply hwf
    have : L.getD k 0 ∈ L := by simp [List.getD_eq_getElem?_getD, hk]
    rw [hL] at this
    rw [hL]
    exact List.mem_of_mem_drop this
  have HRT := run.hid (fun w (h : run.Reads w (.slice a l.length cap) (l.map F)) => run_tail (P := Tryd.prog) w 68 45 Tryd.underlying68 info_f64s a cap (l.map F) (l.length - W) (by rw [List.length_map]; omega) (by rw [List.length_map]; exact hcap) (by rw [List.length_map]; exact h))
  simp only [List.length_map, ← List.map_drop] at HRT
  rw [show l.drop (l.length - W) = L from hL.symm, ← hLl.2] at HRT
  have HRd := run.hid hR
  have HBK : Hid (0 < l.length → ∀ ad, a = some ad → ad.block < w.heap.size) := by
    intro h0 ad e
    obtain ⟨b, off, e2, hb, -⟩ := reads_at hR h0
    rw [e2] at e; cases e; exact hb
  have HLL := run.hid hLl
  have HL0 := run.hid (show ¬ W < l.length → L = l by intro h; rw [hL]; unfold lastT; rw [show l.length - W = 0 by omega, List.drop_zero])
  have hmk := run_make_row' (P := Tryd.prog) 61 21 (.int .i32 0) 4 Tryd.underlying61 info_i32 rfl .i64 .i64 W (by omega) (by omega) w
  have HR := run.hid (World.rowIs_made w (.int .i32 0) W 21)
  have HB := run.hid (run.below_one w (.cells (madeCells #[.int .i32 0] W) 21))
  obtain ⟨hn1, hn2⟩ := hLl
  obtain ⟨N, hN⟩ : ∃ N, N = l.length := ⟨_, rfl⟩
  obtain ⟨n, hn⟩ : ∃ n, n = L.length := ⟨_, rfl⟩
  rw [← hN] at hlen hcap hn2 HRT HRd HL0 HBK ⊢
  rw [← hn] at hn1 hn2 HRT HLW
  have HNL := run.hid hN
  have Hn := run.hid hn
  clear hL hR hwf HLL hN hn
  have HWW := run.hid hW
  have HN2 := run.hid hn2
  have hn3 : n ≤ N := by omega
  clear hn2
  go_enter Tryd.func27, Tryd.ntmps27
  go_wp2
  clear hmk hW
  have hsz : (w.alloc (.cells (madeCells #[.int .i32 0] W) 21)).heap.size = w.heap.size + 1 := by simp
  have HRd1 := run.hid (HRd.out.below HB.out)
  generalize w.alloc (.cells (madeCells #[.int .i32 0] W) 21) = w1 at *
  generalize hr : w.heap.size = r at *
  go_loopw [23] (fun v wr => ∃ i : Nat, i ≤ W ∧ v = .int .i64 i ∧ Hid (wr.rowIs r 21 W fun j => .int .i32 (if j < i then 32 else 0)) ∧ Hid (w1.grownBy wr (some r))) (fun v _ => W - (intOf v).toNat)
  case atStart => exact ⟨0, Nat.zero_le _, rfl, HR.out.congr (fun j _ => rfl), World.grownBy.refl _ _⟩
  case round =>
    obtain ⟨i, hi, rfl, HRr, HGr⟩ := hrel
    by_cases hlt : i < W
    · have hcl := HRr.out.cell hlt
      have hfz := HRr.out.frozen i
      have H1 := run.hid (blank_next HRr.out)
      have H2 := run.hid (run.grown_trans HGr.out (setCell_grown wr r i (.int .i32 32)) (.inl rfl))
      clear HRr HGr
      go_wp2
      go_roundw
      case rel => exact ⟨i + 1, by omega, by go_num, H1, H2⟩
      case measure => simp [intOf]; omega
    · obtain rfl : i = W := by omega
      have HP := run.hid (blank_full (l := L) HRr.out)
      have HB2 := run.hid (HB.out.grown HGr.out (by omega) (by rintro k ⟨⟩; omega))
      have HRd2 := run.hid (HRd.out.below (by rw [hr]; exact HB2.out))
      have hsz2 := HB2.out.size
      clear HB HRd HRd1 HRr HGr HR hlt
      go_upto_if 33 with fail
      go_cut [0] (fun v wx => ∃ a' cap', v = .slice a' n cap' ∧ Hid (run.Reads wx (.slice a' n cap') (L.map F)) ∧ n ≤ cap' ∧ Hid (∀ b off, a' = some ⟨b, off, none⟩ → 0 < n → b < r) ∧ wx = wr)
      case first =>
        by_cases hgt : i < N
        · obtain ⟨a', cap', hrun, h2, h3, h4⟩ := HRT.out wr HRd2.out
          have H4 : Hid (∀ b off, a' = some ⟨b, off, none⟩ → 0 < n → b < r) := by
            intro b off e h0
            obtain ⟨ad, e1, e2⟩ := h4 _ e
            exact by have := HBK.out (by omega) ad e1; rw [e2] at this; exact this
          have H2 := run.hid h2
          have e1 : N - i = N - i := rfl
          rw [show ((N - i : Nat) : Int) = (N : Int) - (i : Int) by omega] at hrun
          clear h2 h4 e1 HRT
          go_wp2
          go_meet
          case rel => exact ⟨a', cap', rfl, H2, h3, H4, rfl⟩
        · have hLe := HL0.out hgt
          have hn2 := HN2.out
          obtain rfl : n = N := by omega
          clear hn2
          have hgt' : n ≤ i := by omega
          clear HRT
          go_wp2
          go_meet
          case rel => exact ⟨a, cap, rfl, by rw [hLe]; exact HRd2.out, hcap, fun b off e h0 => HBK.out h0 _ e, rfl⟩
      case rest =>
        obtain ⟨a', cap', rfl, HRx, hcx, HBR, rfl⟩ := hcut
        clear HRT HRd2 HL0
        go_wp2_with fail
        refine (inf_up _).mono ?_
        rintro e w' ⟨rfl, rfl⟩
        go_wp2_with fail
        refine (inf_down _).mono ?_
        rintro e w' ⟨rfl, rfl⟩
        go_wp2
        go_loop [44, 7, 8] (fun v lo hi => ∃ k : Nat, k ≤ n ∧ v = .int .i64 k ∧ lo = F (loK L k) ∧ hi = F (hiK L k)) (fun v _ _ => n - (intOf v).toNat)
        case atStart => exact ⟨0, Nat.zero_le _, rfl, rfl, rfl⟩
        case round =>
          obtain ⟨k, hk, rfl, rfl, rfl⟩ := hrel
          by_cases hlt : k < n
          · have hRx := HRx.out
            rw [Hn.out] at hRx
            obtain ⟨b, off, rfl, hb, hcl⟩ := reads_at hRx (by rw [← Hn.out]; exact hlt)
            have hc := hcl k (by rw [← Hn.out]; exact hlt)
            have hx := HLW.out k hlt
            have hs := loK_succ (l := L) (k := k) (by rw [← Hn.out]; exact hlt)
            have hlh := loHi (L.take k)
            have n1 : numW D (loK L k) = true := hlh.nlo
            have n2 : numW D (hiK L k) = true := hlh.nhi
            clear hRx hcl hlh
            generalize L.getD k 0 = x at *
            obtain ⟨p', hp'⟩ : ∃ p', p' = loK L (k + 1) := ⟨_, rfl⟩
            obtain ⟨q', hq'⟩ : ∃ q', q' = hiK L (k + 1) := ⟨_, rfl⟩
            have HS := run.hid hs
            clear hs
            have HN := run.hid (isnan_any x wc)
            have HI := run.hid (isinf_any x wc hx)
            rcases fin_cases x with ⟨f1, f2⟩ | ⟨f1, f2, f3⟩ | ⟨f1, f2, f3⟩
            · have h1 : loK L (k + 1) = loK L k := by rw [HS.out.1, f2]; rfl
              have h2 : hiK L (k + 1) = hiK L k := by rw [HS.out.2, f2]; rfl
              have H1 := run.hid h1
              have H2 := run.hid h2
              rw [f1] at HN
              clear h1 h2 HS HI f1 f2 hp' hq' n1 n2
              go_wp2_with fail
              refine HN.out.mono ?_
              rintro e w' ⟨rfl, rfl⟩
              go_wp2
              go_round
              case rel => exact ⟨k + 1, by omega, by go_num, by rw [H1.out], by rw [H2.out]⟩
              case measure => simp [intOf]; omega
            · have h1 : loK L (k + 1) = loK L k := by rw [HS.out.1, f3]; rfl
              have h2 : hiK L (k + 1) = hiK L k := by rw [HS.out.2, f3]; rfl
              have H1 := run.hid h1
              have H2 := run.hid h2
              rw [f1] at HN
              rw [f2, beq_self_eq_true] at HI
              clear h1 h2 HS f1 f2 f3 hp' hq' n1 n2
              go_wp2_with fail
              refine HN.out.mono ?_
              rintro e w' ⟨rfl, rfl⟩
              go_wp2_with fail
              refine HI.out.mono ?_
              rintro e w' ⟨rfl, rfl⟩
              go_wp2
              go_round
              case rel => exact ⟨k + 1, by omega, by go_num, by rw [H1.out], by rw [H2.out]⟩
              case measure => simp [intOf]; omega
            · have h1 : loK L (k + 1) = minB (loK L k) x := by rw [HS.out.1, f3]; rfl
              have h2 : hiK L (k + 1) = maxB (hiK L k) x := by rw [HS.out.2, f3]; rfl
              have H1 := run.hid h1
              have H2 := run.hid h2
              rw [f1] at HN
              rw [show (rungW D x == D.infRung) = false by simpa using f2] at HI
              have E1 := fun ts t => run_minB n1 (num_fin f3) ts t
              have E2 := fun ts t => run_maxB n2 (num_fin f3) ts t
              clear h1 h2 HS f1 f2 f3 hp' hq' n1 n2
              go_wp2_with fail
              refine HN.out.mono ?_
              rintro e w' ⟨rfl, rfl⟩
              go_wp2_with fail
              refine HI.out.mono ?_
              rintro e w' ⟨rfl, rfl⟩
              go_wp2
              go_round
              case rel => exact ⟨k + 1, by omega, by go_num, by rw [H1.out], by rw [H2.out]⟩
              case measure => simp [intOf]; omega
          · obtain rfl : k = n := by omega
            have hlo : loK L k = loT L := by unfold loK; rw [Hn.out, List.take_length]
            have hhi : hiK L k = hiT L := by unfold hiK; rw [Hn.out, List.take_length]
            rw [hlo, hhi]
            clear hlo hhi
            obtain ⟨lo, hlo⟩ : ∃ lo, lo = loT L := ⟨_, rfl⟩
            obtain ⟨hi, hhi⟩ : ∃ hi, hi = hiT L := ⟨_, rfl⟩
            rw [← hlo, ← hhi]
            have HLO := run.hid hlo
            have HHI := run.hid hhi
            clear hlo hhi
            go_wp2
            go_loopw [69] (fun v wr => ∃ j : Nat, j ≤ k ∧ v = .int .i64 j ∧ Hid (wr.rowIs r 21 i (partS L i j)) ∧ Hid (wc.grownBy wr (some r))) (fun v _ => k - (intOf v).toNat)
            case atStart => exact ⟨0, Nat.zero_le _, rfl, HP, World.grownBy.refl _ _⟩
            case round =>
              obtain ⟨j, hj, rfl, HQr, HGr⟩ := hrel
              by_cases hlt : j < k
              · have hRx := HRx.out
                rw [Hn.out] at hRx
                obtain ⟨b, off, rfl, hb, hcl⟩ := reads_at hRx (by rw [← Hn.out]; exact hlt)
                have hbr : b ≠ r := by have := HBR.out b off rfl (by omega); omega
                have hc := (World.cell?_of_block (w := wc) (a := ⟨b, off + j, none⟩) (HGr.out.block b hb (by simpa using hbr))).trans (hcl j (by rw [← Hn.out]; exact hlt))
                have hx := HLW.out j hlt
                have hm : L.getD j 0 ∈ L := by
                  have : j < L.length := by rw [← Hn.out]; exact hlt
                  simp [List.getD_eq_getElem?_getD, this]
                have HM := run.hid (fun h => between hm h)
                have HC := run.hid (show sparkC (L.getD j 0) lo hi = sparkC (L.getD j 0) (loT L) (hiT L) by rw [← HLO.out, ← HHI.out])
                have hcl2 := HQr.out.cell (show i - k + j < i by omega)
                have hfz2 := HQr.out.frozen (i - k + j)
                have HST := run.hid (fun v (hv : v = sparkC (L.getD j 0) lo hi) => spark_next (w := wr) (r := r) (W := i) (by rw [← Hn.out]; exact hn1) (by rw [← Hn.out]; exact hlt) HQr.out (hv.trans HC.out))
                have HSK := run.hid (fun (hv : 32 = sparkC (L.getD j 0) lo hi) => spark_skip (w := wr) (r := r) (W := i) (by rw [← Hn.out]; exact hn1) (by rw [← Hn.out]; exact hlt) HQr.out (hv.trans HC.out))
                rw [← Hn.out] at HST
                rw [← HLO.out, ← HHI.out] at HM
                clear hRx hcl hm
                generalize L.getD j 0 = x at *
                have HN := run.hid (isnan_any x wr)
                have HU := run.hid (isinf_up x wr)
                have HD := run.hid (isinf_down x wr hx)
                rcases fin_cases x with ⟨f1, f2⟩ | ⟨f1, f2, f3⟩ | ⟨f1, f2, f3⟩
                · have H1 := run.hid (HSK.out (by unfold sparkC; rw [if_pos f1]))
                  rw [f1] at HN
                  clear HST HSK HU HD HM HC f1 f2
                  go_wp2_with fail
                  refine HN.out.mono ?_
                  rintro e w' ⟨rfl, rfl⟩
                  go_wp2
                  go_roundw
                  case rel => exact ⟨j + 1, by omega, by go_num, H1, HGr⟩
                  case measure => simp [intOf]; omega
                · rw [f1] at HN
                  cases hp : pinfW x with
                  | true =>
                    have H1 := run.hid (HST.out 9608 (by unfold sparkC; rw [if_neg (by rw [f1]; simp), if_pos hp]))
                    have H2 := run.hid (run.grown_trans HGr.out (setCell_grown wr r (i - k + j) (.int .i32 9608)) (.inl rfl))
                    rw [hp] at HU
                    clear HST HSK HD HM HC f1 f2 f3 hp
                    go_wp2_with fail
                    refine HN.out.mono ?_
                    rintro e w' ⟨rfl, rfl⟩
                    go_wp2_with fail
                    refine HU.out.mono ?_
                    rintro e w' ⟨rfl, rfl⟩
                    go_wp2
                    go_roundw
                    case rel => exact ⟨j + 1, by omega, by go_num, H1, H2⟩
                    case measure => simp [intOf]; omega
                  | false =>
                    have hq : ninfW x = true := by
                      unfold pinfW at hp; unfold ninfW
                      rw [f2, beq_self_eq_true] at hp ⊢
                      simpa using hp
                    have H1 := run.hid (HST.out 9601 (by unfold sparkC; rw [if_neg (by rw [f1]; simp), if_neg (by rw [hp]; simp), if_pos hq]))
                    have H2 := run.hid (run.grown_trans HGr.out (setCell_grown wr r (i - k + j) (.int .i32 9601)) (.inl rfl))
                    rw [hp] at HU
                    rw [hq] at HD
                    clear HST HSK HM HC f1 f2 f3 hp hq
                    go_wp2_with fail
                    refine HN.out.mono ?_
                    rintro e w' ⟨rfl, rfl⟩
                    go_wp2_with fail
                    refine HU.out.mono ?_
                    rintro e w' ⟨rfl, rfl⟩
                    go_wp2_with fail
                    refine HD.out.mono ?_
                    rintro e w' ⟨rfl, rfl⟩
                    go_wp2
                    go_roundw
                    case rel => exact ⟨j + 1, by omega, by go_num, H1, H2⟩
                    case measure => simp [intOf]; omega
                · rw [f1] at HN
                  have hp : pinfW x = false := by unfold pinfW; rw [show (rungW D x == D.infRung) = false by simpa using f2]; rfl
                  have hq : ninfW x = false := by unfold ninfW; rw [show (rungW D x == D.infRung) = false by simpa using f2]; rfl
                  rw [hp] at HU
                  rw [hq] at HD
                  have HB3 := run.hid (HM.out f3)
                  have HST2 := run.hid (fun (v : Int) (hv : v = 9601 + blockT x lo hi) => HST.out v (by unfold sparkC; rw [if_neg (by rw [f1]; simp), if_neg (by rw [hp]; simp), if_neg (by rw [hq]; simp)]; exact hv))
                  clear HST HSK HM HC f1 f2 f3 hp hq
                  have hb3 := HB3.out
                  have Eh := bin_quo 45 (div_two hb3.hhi).1
                  have El := bin_quo 45 (div_two hb3.hlo).1
                  have Ev := bin_quo 45 (div_two hb3.hv).1
                  have Ed := bin_sub 45 (halves hb3.hhi hb3.hlo).1
                  have Ea := bin_sub 45 (halves hb3.hv hb3.hlo).1
                  have En := bin_neq 45 (below lo hi) 0
                  have HE2 := run.hid (fun h => parts hb3 h)
                  have HI2 := run.hid (fun h => eighth_int hb3 h)
                  clear hb3
                  unfold TWO at Eh El Ev
                  change binOp .sub 45 _ _ = pure (F (below lo hi)) at Ed
                  by_cases hz : D.order (below lo hi) 0 = some .eq
                  · have hk3 : blockT x lo hi = 3 := by unfold blockT; rw [if_pos hz]
                    rw [hz] at En
                    change binOp .neq 45 _ _ = pure (.bool false) at En
                    have H1 := run.hid (HST2.out 9604 (by rw [hk3]; rfl))
                    have H2 := run.hid (run.grown_trans HGr.out (setCell_grown wr r (i - k + j) (.int .i32 9604)) (.inl rfl))
                    clear HE2 HI2 HB3 HST2 hz hk3 Ev Ea
                    unfold TWO at Ed
                    generalize below lo hi = d at *
                    generalize fdiv hi 4611686018427387904 = h2 at *
                    generalize fdiv lo 4611686018427387904 = l2 at *
                    go_wp2_with fail
                    refine HN.out.mono ?_
                    rintro e w' ⟨rfl, rfl⟩
                    go_wp2_with fail
                    refine HU.out.mono ?_
                    rintro e w' ⟨rfl, rfl⟩
                    go_wp2_with fail
                    refine HD.out.mono ?_
                    rintro e w' ⟨rfl, rfl⟩
                    go_wp2
                    go_roundw
                    case rel => exact ⟨j + 1, by omega, by go_num, H1, H2⟩
                    case measure => simp [intOf]; omega
                  · obtain ⟨p1, p2, -, -, -⟩ := HE2.out hz
                    obtain ⟨i1, i2, i3, -⟩ := HI2.out hz
                    have Eq := bin_quo 45 p1
                    have Em := bin_mul 45 p2
                    have Ec := fun w => run_convert_float_int (P := Tryd.prog) w 45 3 .f64 .i64 (eighth x lo hi) (toI (eighth x lo hi)) (by rw [Tryd.underlying45]; rfl) Tryd.underlying3 (by
                      unfold floatToIntVal
                      have e : (FloatKind.f64.decode (eighth x lo hi)).toInt .zero = some (toI (eighth x lo hi)) := i1
                      rw [e]
                      simp only
                      rw [if_pos]
                      have h1 : IntKind.i64.min = -9223372036854775808 := by decide
                      have h2 : IntKind.i64.max = 9223372036854775807 := by decide
                      omega)
                    have hbn : (D.order (below lo hi) 0 != some .eq) = true := by simpa using hz
                    rw [hbn] at En
                    have hk4 : blockT x lo hi = min (toI (eighth x lo hi)) 7 := by unfold blockT; rw [if_neg hz]
                    obtain ⟨K, hK⟩ : ∃ K : Int, min (toI (eighth x lo hi)) 7 = K := ⟨_, rfl⟩
                    have hKb : 0 ≤ K ∧ K ≤ 7 := by omega
                    have H1 := run.hid (HST2.out (9601 + K) (by rw [hk4, hK]))
                    have H2 := run.hid (run.grown_trans HGr.out (setCell_grown wr r (i - k + j) (.int .i32 (9601 + K))) (.inl rfl))
                    clear HE2 HI2 HB3 HST2 hz hk4 p1 p2 i1 i2 i3 hbn
                    unfold TWO at Ed Ea Eq
                    unfold EIGHT at Em
                    generalize toI (eighth x lo hi) = n8 at *
                    generalize eighth x lo hi = e8 at *
                    generalize flo.part x lo hi = pt at *
                    generalize below lo hi = d at *
                    generalize fsub (fdiv x 4611686018427387904) (fdiv lo 4611686018427387904) = aa at *
                    generalize fdiv hi 4611686018427387904 = h2 at *
                    generalize fdiv lo 4611686018427387904 = l2 at *
                    generalize fdiv x 4611686018427387904 = x2 at *
                    go_wp2_with fail
                    refine HN.out.mono ?_
                    rintro e w' ⟨rfl, rfl⟩
                    go_wp2_with fail
                    refine HU.out.mono ?_
                    rintro e w' ⟨rfl, rfl⟩
                    go_wp2_with fail
                    refine HD.out.mono ?_
                    rintro e w' ⟨rfl, rfl⟩
                    go_wp2
                    go_roundw
                    case rel => exact ⟨j + 1, by omega, by go_num, H1, H2⟩
                    case measure => simp [intOf]; omega
              · obtain rfl : j = k := by omega
                have hF := spark_done (by rw [← Hn.out]; exact hn1) (by rw [← Hn.out]; exact HQr.out)
                have hs := run_str_row (P := Tryd.prog) wr 61 9 21 r i i 21 _ Tryd.underlying61 Tryd.underlying21 Tryd.underlying9 hF
                have HB4 := run.hid (HB2.out.grown HGr.out (by omega) (by rintro k ⟨⟩; omega))
                clear hF
                go_wp2
                go_ret
                exact ⟨by rw [HE.out]; rfl, by rw [hr]; exact HB4.out⟩

end Go.Proofs.YtbfheehaagcmeaaDoor.can
