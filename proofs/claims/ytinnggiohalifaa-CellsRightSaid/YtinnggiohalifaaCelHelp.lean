/-
  The walks of the helpers of the laws of layer cells: how long cells are, cells lent, cells compared.
-/
import Derived.Test.YtinnggiohalifaaCelUnit
namespace Go.Proofs.Ytinnggiohalifaa.cel
open Go Go.RowKit Go.Proofs
set_option linter.unusedVariables false

theorem reads5N {w : World} {a : Option Addr} {cap : Nat} {L : List CV} (h : Reads5 w (.slice a L.length cap) L) (h0 : a = none → cap = 0) : run.ReadsN 5 w (.slice a L.length cap) L.length (cells5 L) := by
  refine ⟨cells5_length L, a, cap, rfl, fun hne => ?_, h0⟩
  obtain ⟨a', cap', e, hc⟩ := h
  simp only [Value.slice.injEq] at e
  obtain ⟨rfl, -, rfl⟩ := e
  have hl : 0 < L.length := by
    rcases Nat.eq_zero_or_pos L.length with h | h
    · exfalso; apply hne; apply List.eq_nil_of_length_eq_zero; rw [cells5_length, h]
    · exact h
  obtain ⟨b, off, rfl, hb, -⟩ := hc 0 hl
  refine ⟨b, off, rfl, hb, fun j u hj => ?_⟩
  obtain ⟨k, hk, h1⟩ := cells5_at hj
  obtain ⟨b', off', e, -, c0, c1, c2, c3, c4⟩ := hc k hk
  simp only [Option.some.injEq, Addr.mk.injEq, and_true] at e
  obtain ⟨rfl, rfl⟩ := e
  rcases h1 with ⟨rfl, rfl⟩ | ⟨rfl, rfl⟩ | ⟨rfl, rfl⟩ | ⟨rfl, rfl⟩ | ⟨rfl, rfl⟩
  · exact c0
  · rw [← Nat.add_assoc]; exact c1
  · rw [← Nat.add_assoc]; exact c2
  · rw [← Nat.add_assoc]; exact c3
  · rw [← Nat.add_assoc]; exact c4

/-- how many bytes and items cells have, counted on from n; or that they are more than 2^27 -/
def longT : List CV → Nat → Nat × Bool
  | [], n => (n, false)
  | c :: t, n => if 134217728 < n + 1 + c.text.size then (n + 1 + c.text.size, true) else longT t (n + 1 + c.text.size)
theorem longT_at {L : List CV} {i n : Nat} (h : i < L.length) : longT (L.drop i) n = if 134217728 < n + 1 + (L.getD i z0).text.size then (n + 1 + (L.getD i z0).text.size, true) else longT (L.drop (i + 1)) (n + 1 + (L.getD i z0).text.size) := by
  rw [List.drop_eq_getElem_cons h]
  simp [longT, List.getD_eq_getElem?_getD, h]
theorem longT_fits : ∀ (L : List CV) (n : Nat), (longT L n).2 = false → n ≤ 134217728 → n + L.length ≤ 134217728 ∧ (∀ c ∈ L, c.text.size ≤ 134217728) ∧ (longT L n).1 ≤ 134217728 ∧ n ≤ (longT L n).1
  | [], n, _, hn => ⟨by simpa using hn, by simp, hn, Nat.le_refl _⟩
  | c :: t, n, h, hn => by
    unfold longT at h ⊢
    split at h
    · cases h
    · rename_i h1
      obtain ⟨h2, h3, h4, h5⟩ := longT_fits t _ h (by omega)
      rw [if_neg h1]
      refine ⟨by simp only [List.length_cons]; omega, fun d hd => ?_, h4, by omega⟩
      rcases List.mem_cons.1 hd with rfl | hd
      · omega
      · exact h3 d hd

set_option maxHeartbeats 1000000 in
theorem long_any (a : Option Addr) (cap : Nat) (L : List CV) (n : Nat) (w : World) (hR : Reads5 w (.slice a L.length cap) L) (hN : L.length ≤ 140737488355328) (hL : ∀ c ∈ L, c.text.size ≤ 140737488351232) (hn : n ≤ 134217728) :
    Calls Try.prog 17 #[.slice a L.length cap, .int .i64 n] w fun e w' => e = .returned (.tuple #[.int .i64 ((longT L n).1 : Nat), .bool (longT L n).2]) ∧ Below w.heap.size w w' := by
  have HA := run.hid (fun i (hi : i < L.length) => show ∃ b off, a = some ⟨b, off, none⟩ ∧ b < w.heap.size ∧ w.cell? ⟨b, off + i * 5, none⟩ = some (.string (L.getD i z0).text) ∧ (L.getD i z0).text.size ≤ 140737488351232 from by
    obtain ⟨a', c', e, hc⟩ := hR
    simp only [Value.slice.injEq] at e
    obtain ⟨rfl, -, -⟩ := e
    obtain ⟨b, off, rfl, hb, h0, -⟩ := hc i hi
    exact ⟨b, off, rfl, hb, h0, hL _ (by rw [List.getD_eq_getElem?_getD, List.getElem?_eq_getElem hi]; exact List.getElem_mem _)⟩)
  have HS := run.hid (fun i m (hi : i < L.length) => @longT_at L i m hi)
  have HE := run.hid (fun m => show longT (L.drop L.length) m = (m, false) from by rw [List.drop_length]; rfl)
  obtain ⟨r, hr⟩ : ∃ r, r = longT L n := ⟨_, rfl⟩
  rw [← hr]
  have H0 := run.hid (show r = longT (L.drop 0) n from hr)
  clear hR hL hr
  generalize hNN : L.length = N at *
  clear hNN
  go_enter Try.func17, Try.ntmps17
  go_wp2
  go_loopw [6, 1] (fun vi vn wr => ∃ i m : Nat, i ≤ N ∧ m ≤ 134217728 ∧ vi = .int .i64 i ∧ vn = .int .i64 m ∧ Hid (r = longT (L.drop i) m) ∧ Below w.heap.size w wr) (fun vi _ _ => ((N : Int) - intOf vi).toNat)
  case atStart => exact ⟨0, n, Nat.zero_le _, hn, rfl, rfl, H0, Below.refl _ _⟩
  case round =>
    obtain ⟨i, m, hi, hm, rfl, rfl, HI, hbel⟩ := hrel
    by_cases hlt : i < N
    · obtain ⟨b, off, rfl, hb, h0, hsz⟩ := HA.out i hlt
      replace h0 := (hbel.cell (p := ⟨b, off + i * 5, none⟩) hb).trans h0
      have HSi := run.hid (HI.out.trans (HS.out i m hlt))
      generalize L.getD i z0 = c at *
      obtain ⟨ct, cw, cs⟩ := c
      dsimp only at h0 hsz HSi
      have hsz2 : (ct.size : Int) ≤ 140737488351232 := by omega
      clear HA HS HE H0 HI
      by_cases hbig : 134217728 < m + 1 + ct.size
      · have hbig2 : (134217728 : Int) < (m : Int) + 1 + (ct.size : Int) := by omega
        have HF : Hid (r = (m + 1 + ct.size, true)) := by show r = _; rw [HSi.out, if_pos hbig]
        clear HSi hbig
        go_wp2
        go_ret2
        exact ⟨by rw [HF.out]; go_num, hbel⟩
      · have hbig2 : (m : Int) + 1 + (ct.size : Int) ≤ 134217728 := by omega
        have HF : Hid (r = longT (L.drop (i + 1)) (m + 1 + ct.size)) := by show r = _; rw [HSi.out, if_neg hbig]
        clear HSi
        go_wp2
        go_roundw
        case rel => exact ⟨i + 1, m + 1 + ct.size, by omega, by omega, by go_num, by go_num, HF, hbel⟩
        case measure => simp [intOf]; omega
    · obtain rfl : i = N := by omega
      have HF : Hid (r = (m, false)) := by show r = _; rw [HI.out, HE.out]
      clear HA HS HE H0 HI
      go_wp2
      go_ret2
      exact ⟨by rw [HF.out]; try rfl, hbel⟩

def bh1 : CV := ⟨⟨#[98, 101, 104, 105, 110, 100]⟩, 0, s0⟩
def bh2 : CV := ⟨⟨#[98, 101, 104, 105, 110, 100, 32, 105, 116]⟩, 0, s0⟩
def lentT (L : List CV) : List CV := L ++ [bh1, bh2]

set_option maxRecDepth 100000 in
set_option maxHeartbeats 2000000 in
theorem lent_any (a : Option Addr) (cap : Nat) (L : List CV) (w : World) (hR : Reads5 w (.slice a L.length cap) L) (h0 : a = none → cap = 0) (hN : L.length * 32 ≤ 140737488351232) :
    Calls Try.prog 19 #[.slice a L.length cap] w fun e w' => ∃ v, e = .returned v ∧ w'.ownsRow w.heap.size 44 5 v (L.length + 2) (cells5 (lentT L)) ∧ Below w.heap.size w w' := by
  obtain ⟨i, hi, hz0, hz1, hz2⟩ := info_parts info_cell
  have HRN := run.hid (reads5N hR h0)
  have H1 := run.hid (@one_cell5 L)
  have HCL := run.hid (show cells5 (lentT L) = cells5 L ++ [.string ⟨#[98, 101, 104, 105, 110, 100]⟩, .int .i8 0, .int .i32 0, .int .i32 0, .int .u8 0, .string ⟨#[98, 101, 104, 105, 110, 100, 32, 105, 116]⟩, .int .i8 0, .int .i32 0, .int .i32 0, .int .u8 0] from by unfold lentT; rw [cells5_append]; rfl)
  clear hR h0
  generalize cells5 (lentT L) = LT at *
  generalize cells5 L = C at *
  generalize L.length = N at *
  go_enter Try.func19, Try.ntmps19
  go_wp2_with (at_builtin; refine run.wpList_append_any _ rfl _ _ 35 rfl w.heap.size 44 i (.agg #[.string ⟨#[]⟩, .int .i8 0, .int .i32 0, .int .i32 0, .int .u8 0]) 5 32 Try.underlying35 hi hz0 hz1 hz2 rfl (by decide) _ 0 [] rfl ⟨rfl, .inl ⟨rfl, rfl⟩⟩ _ N C rfl HRN.out H1.out (by unfold maxLen; omega) (by omega) (Nat.le_refl _) ?_)
  intro v1 w1 hown1 hg1 hold1 hst1
  have hb1 := run.below_append (Below.refl w.heap.size w) (show w.ownsRow w.heap.size 44 5 (.slice none 0 0) 0 [] from ⟨rfl, .inl ⟨rfl, rfl⟩⟩) hg1 (Nat.le_refl _)
  have hs1 := hb1.size
  have HO := run.hid hown1
  have hbel := hb1.alloc hs1 (.cells #[.string ⟨#[98, 101, 104, 105, 110, 100]⟩, .int .i8 0, .int .i32 0, .int .i32 0, .int .u8 0, .string ⟨#[98, 101, 104, 105, 110, 100, 32, 105, 116]⟩, .int .i8 0, .int .i32 0, .int .i32 0, .int .u8 0] 44)
  clear hown1 hg1 hold1 hst1 HRN H1
  go_wp2_with (at_builtin; refine run.wpList_append_any _ rfl _ _ 35 rfl w.heap.size 44 i (.agg #[.string ⟨#[]⟩, .int .i8 0, .int .i32 0, .int .i32 0, .int .u8 0]) 5 32 Try.underlying35 hi hz0 hz1 hz2 rfl (by decide) _ N C rfl (HO.out.alloc _) _ 2 [.string ⟨#[98, 101, 104, 105, 110, 100]⟩, .int .i8 0, .int .i32 0, .int .i32 0, .int .u8 0, .string ⟨#[98, 101, 104, 105, 110, 100, 32, 105, 116]⟩, .int .i8 0, .int .i32 0, .int .i32 0, .int .u8 0] rfl (run.readsN_new w1 [.string ⟨#[98, 101, 104, 105, 110, 100]⟩, .int .i8 0, .int .i32 0, .int .i32 0, .int .u8 0, .string ⟨#[98, 101, 104, 105, 110, 100, 32, 105, 116]⟩, .int .i8 0, .int .i32 0, .int .i32 0, .int .u8 0] 2 5 _ rfl) (by intro u hu; simp only [List.mem_cons, List.not_mem_nil, or_false] at hu; rcases hu with rfl | rfl | rfl | rfl | rfl | rfl | rfl | rfl | rfl | rfl <;> rfl) (by unfold maxLen; omega) (by omega) (by simp; omega) ?_)
  intro v2 w2 hown2 hg2 hold2 hst2
  have hbel2 := run.below_append hbel (HO.out.alloc _) hg2 (by simp; omega)
  rw [← HCL.out] at hown2
  have HF := run.hid hown2
  clear hown2 hg2 hold2 hst2 HO HCL
  go_wp2
  go_ret
  exact ⟨_, rfl, HF.out, hbel2⟩

theorem reads_cell {w : World} {a : Option Addr} {cap : Nat} {L : List CV} (h : Reads5 w (.slice a L.length cap) L) {i : Nat} (hi : i < L.length) : ∃ b off, a = some ⟨b, off, none⟩ ∧ b < w.heap.size ∧ Cell5 w b (off + i * 5) (L.getD i z0) := by
  obtain ⟨a', c', e, hc⟩ := h
  simp only [Value.slice.injEq] at e
  obtain ⟨rfl, -, -⟩ := e
  obtain ⟨b, off, rfl, hb, h0, h1, h2, h3, h4⟩ := hc i hi
  exact ⟨b, off, rfl, hb, h0, h1, h2, h3, h4⟩
theorem list_ne {A B : List CV} (hl : A.length = B.length) {i : Nat} (hi : i < A.length) (h : A.getD i z0 ≠ B.getD i z0) : A ≠ B := fun e => h (by rw [e])
theorem list_eq {A B : List CV} (hl : A.length = B.length) (h : ∀ i, i < A.length → A.getD i z0 = B.getD i z0) : A = B := by
  apply List.ext_getElem hl
  intro i h1 h2
  have := h i h1
  simpa [List.getD_eq_getElem?_getD, h1, h2] using this

set_option maxRecDepth 100000 in
set_option maxHeartbeats 2000000 in
theorem same_any (a1 a2 : Option Addr) (c1 c2 : Nat) (A B : List CV) (w : World) (hA : Reads5 w (.slice a1 A.length c1) A) (hB : Reads5 w (.slice a2 B.length c2) B) (hN : A.length ≤ 140737488355328) :
    Calls Try.prog 21 #[.slice a1 A.length c1, .slice a2 B.length c2] w fun e w' => e = .returned (.bool (decide (A = B))) ∧ Below w.heap.size w w' := by
  obtain ⟨it, hinf, -, hsz, -⟩ := info_parts info_cell
  by_cases hl : A.length = B.length
  · have HA := run.hid (fun i (hi : i < A.length) => reads_cell hA hi)
    have HB := run.hid (fun i (hi : i < A.length) => reads_cell hB (i := i) (by omega))
    have HNE := run.hid (fun i (hi : i < A.length) h => @list_ne A B hl i hi h)
    have HEQ := run.hid (fun h => @list_eq A B hl h)
    have hD : ∀ b, (A = B ↔ b = true) → decide (A = B) = b := fun b h => by rw [Bool.eq_iff_iff]; simpa using h
    have HD := run.hid hD
    rw [← hl]
    clear hA hB hl hD
    generalize decide (A = B) = r at *
    generalize A.length = N at *
    go_enter Try.func21, Try.ntmps21
    go_wp2
    go_loopw [5] (fun vi wr => ∃ i : Nat, i ≤ N ∧ vi = .int .i64 i ∧ Hid (∀ k, k < i → A.getD k z0 = B.getD k z0) ∧ Below w.heap.size w wr) (fun vi _ => ((N : Int) - intOf vi).toNat)
    case atStart => exact ⟨0, Nat.zero_le _, rfl, run.hid (fun k hk => by omega), Below.refl _ _⟩
    case round =>
      obtain ⟨i, hi, rfl, HI, hbel⟩ := hrel
      by_cases hlt : i < N
      · obtain ⟨b1, o1, rfl, hb1, hc1⟩ := HA.out i hlt
        obtain ⟨b2, o2, rfl, hb2, hc2⟩ := HB.out i hlt
        have HC1 := run.hid (fun (X : World) (h : Below w.heap.size w X) => hc1.below h hb1)
        have HC2 := run.hid (fun (X : World) (h : Below w.heap.size w X) => hc2.below h hb2)
        have HN := run.hid (fun h => HNE.out i hlt h)
        have HX := run.hid (fun (h : A.getD i z0 = B.getD i z0) => show ∀ k, k < i + 1 → A.getD k z0 = B.getD k z0 from fun k hk => by
          rcases Nat.lt_or_ge k i with h2 | h2
          · exact HI.out k h2
          · obtain rfl : k = i := by omega
            exact h)
        clear HA HB hc1 hc2 HI HEQ HNE
        generalize A.getD i z0 = x at *
        generalize B.getD i z0 = y at *
        have HBL := run.hid hbel
        clear hbel
        go_upto_region 6 with fail
        refine lx.region (fun D X => Below wr.heap.size wr X) (by kernel_rfl) (by kernel_rfl) (by kernel_rfl) (drewB (Below.refl _ _)) ?_
        refine lx.begin 26 rfl ?_
        refine lx.o_pure (.slice (some ⟨b1, o1, none⟩) N c1) (fun _ _ h => by first | rfl | kernel_rfl) ?_
        refine lx.o_pure (.int .i64 (i : Nat)) (fun _ _ h => by first | rfl | kernel_rfl) ?_
        refine lx.o_pure (.pointer (some ⟨b1, o1 + i * 5, none⟩)) (fun D X hC => lx.run_at rfl rfl rfl hlt Try.underlying35 hinf hsz) ?_
        refine lx.o_pure x.val (fun D X hC => run_load5 rfl rfl (HC1.out _ (HBL.out.trans (hC.mono HBL.out.size)))) ?_
        refine lx.o_pure (.slice (some ⟨b2, o2, none⟩) N c2) (fun _ _ h => by first | rfl | kernel_rfl) ?_
        refine lx.o_pure (.int .i64 (i : Nat)) (fun _ _ h => by first | rfl | kernel_rfl) ?_
        refine lx.o_pure (.pointer (some ⟨b2, o2 + i * 5, none⟩)) (fun D X hC => lx.run_at rfl rfl rfl hlt Try.underlying35 hinf hsz) ?_
        refine lx.o_pure y.val (fun D X hC => run_load5 rfl rfl (HC2.out _ (HBL.out.trans (hC.mono HBL.out.size)))) ?_
        by_cases hxy : x = y
        · refine lx.o_pure (.bool false) (fun D X hC => run_necell_f rfl rfl rfl hxy) ?_
          refine lx.o_end ?_
          simp only [lx.ov]
          rintro X d hd hC
          have HF := run.hid (HBL.out.trans (hC.mono HBL.out.size))
          have HK := run.hid (HX.out hxy)
          clear hC hd HBL HC1 HC2 HX HN hxy
          go_simp
          go_wp2
          go_roundw
          case rel => exact ⟨i + 1, by omega, by go_num, HK, HF.out⟩
          case measure => simp [intOf]; omega
        · refine lx.o_pure (.bool true) (fun D X hC => run_necell_t rfl rfl rfl hxy) ?_
          refine lx.o_end ?_
          simp only [lx.ov]
          rintro X d hd hC
          have HF := run.hid (HBL.out.trans (hC.mono HBL.out.size))
          have HK := run.hid (HN.out hxy)
          have HR : Hid (r = false) := HD.out false (by simpa using HK.out)
          clear hC hd HBL HC1 HC2 HX HN hxy
          go_simp
          go_wp2
          go_ret
          exact ⟨by rw [HR.out]; try rfl, HF.out⟩
      · obtain rfl : i = N := by omega
        have HR : Hid (r = true) := HD.out true (by simpa using HEQ.out HI.out)
        clear HA HB HNE HEQ HI
        go_wp2
        go_ret
        exact ⟨by rw [HR.out]; try rfl, hbel⟩
  · have HR : decide (A = B) = false := decide_eq_false fun e => hl (by rw [e])
    rw [HR]
    clear HR hA hB
    generalize A.length = n at *
    generalize B.length = m at *
    go_enter Try.func21, Try.ntmps21
    go_wp2
    go_ret
    exact ⟨rfl, Below.refl _ _⟩

set_option maxRecDepth 100000 in
set_option maxHeartbeats 2000000 in
theorem stays_any (a1 a2 : Option Addr) (c1 c2 : Nat) (A L : List CV) (w : World) (hA : Reads5 w (.slice a1 A.length c1) A) (hL : Reads5 w (.slice a2 L.length c2) L) (h0 : a2 = none → c2 = 0) (hN : L.length * 32 ≤ 140737488351232) (hM : A.length ≤ 140737488355328) :
    Calls Try.prog 22 #[.slice a1 A.length c1, .slice a2 L.length c2] w fun e w' => e = .returned (.bool (decide (A = lentT L))) ∧ Below w.heap.size w w' := by
  have HL := run.hid (fun w hL => lent_any a2 c2 L w hL h0 hN)
  have HS := run.hid (fun w (hA : Reads5 w (.slice a1 A.length c1) A) a c hB => same_any a1 a c1 c A (lentT L) w hA hB hM)
  have hll : (lentT L).length = L.length + 2 := by unfold lentT; simp
  have HA := run.hid hA
  have HLL := run.hid (HL.out w hL)
  clear hA hL HL h0
  have HX := run.hid (fun w' v (h : w'.ownsRow w.heap.size 44 5 v (L.length + 2) (cells5 (lentT L))) => show Reads5 w' v (lentT L) from reads5_own (by rw [hll]; exact h))
  have HY := run.hid hll
  clear hll
  generalize decide (A = lentT L) = r at *
  generalize A.length = n at *
  generalize L.length = m at *
  go_enter Try.func22, Try.ntmps22
  go_wp2_with fail
  refine HLL.out.mono ?_
  rintro e w1 ⟨v, rfl, hown, hb1⟩
  have hrd := HX.out w1 v hown
  obtain ⟨a, c, rfl, -⟩ := id hrd
  have HC := run.hid (HS.out w1 (HA.out.below hb1) a c hrd)
  rw [HY.out] at HC hown
  clear hrd hown HS HLL
  rw [HY.out]
  go_wp2_with fail
  refine HC.out.mono ?_
  rintro e w2 ⟨rfl, hb2⟩
  go_wp2
  go_ret
  exact ⟨rfl, hb1.trans (hb2.mono hb1.size)⟩
end Go.Proofs.Ytinnggiohalifaa.cel
