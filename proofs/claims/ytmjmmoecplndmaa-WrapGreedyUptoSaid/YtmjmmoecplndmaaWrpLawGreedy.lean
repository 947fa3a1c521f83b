/-
  The walk of the law WrapGreedy.
-/
import Derived.Test.YtmjmmoecplndmaaWrpGreedyPlain
import Derived.Test.YtmjmmoecplndmaaWrpLines
import Derived.Test.YtmjmmoecplndmaaWrpLawWakes
import Derived.Deep.DeepCutAuto
import Derived.Deep.CutBlock
import Derived.Lib.QuietBelow
namespace Go.Proofs.Ytmjmmoecplndmaa.wrp
open Go.RowKit Go.Proofs
open Go.Proofs.Ytmjmmoecplndmaa.wid Go.Proofs.Ytmjmmoecplndmaa.utf Go.Proofs.Ytmjmmoecplndmaa.clu
set_option linter.unusedVariables false

theorem cells4_gets {L : List LV} {i : Nat} (h : i < L.length) (x0 : LV) : (cells4 L)[i * 4]? = some (.string (L.getD i x0).text) ∧ (cells4 L)[i * 4 + 1]? = some (.int .i64 (L.getD i x0).width) ∧ (cells4 L)[i * 4 + 2]? = some (.int .i8 (L.getD i x0).fin) ∧ (cells4 L)[i * 4 + 3]? = some (.string (L.getD i x0).lost) := by
  have e : cells4 L = cells4 (L.take i) ++ (lcells (L.getD i x0) ++ cells4 (L.drop (i + 1))) := by
    have e2 : L = L.take i ++ (L.getD i x0 :: L.drop (i + 1)) := by
      conv => lhs; rw [← List.take_append_drop i L, List.drop_eq_getElem_cons h]
      simp [List.getD_eq_getElem?_getD, h]
    conv => lhs; rw [e2]
    rw [cells4_append]; rfl
  have hl : (cells4 (L.take i)).length = i * 4 := by rw [cells4_length, List.length_take]; congr 1; omega
  rw [e]
  refine ⟨?_, ?_, ?_, ?_⟩
  all_goals
    rw [List.getElem?_append_right (by omega)]
    simp [hl, lcells]
/-- lines to be read -/
def RLs (w : World) (v : Value) (L : List LV) : Prop :=
  ∃ a cap, v = .slice a L.length cap ∧ ∀ i, i < L.length → ∃ b off, a = some ⟨b, off, none⟩ ∧ b < w.heap.size ∧ w.cell? ⟨b, off + i * 4, none⟩ = some (.string (L.getD i ⟨e0, 0, 0, e0⟩).text) ∧ w.cell? ⟨b, off + i * 4 + 1, none⟩ = some (.int .i64 (L.getD i ⟨e0, 0, 0, e0⟩).width) ∧
    w.cell? ⟨b, off + i * 4 + 2, none⟩ = some (.int .i8 (L.getD i ⟨e0, 0, 0, e0⟩).fin) ∧ w.cell? ⟨b, off + i * 4 + 3, none⟩ = some (.string (L.getD i ⟨e0, 0, 0, e0⟩).lost)
theorem rls_own {w : World} {base : Nat} {v : Value} {L : List LV} (h : w.ownsRow base 26 4 v L.length (cells4 L)) : RLs w v L := by
  obtain ⟨a, cap, rfl⟩ := run.own_value h
  refine ⟨a, cap, rfl, fun i hi => ?_⟩
  rcases h.2 with ⟨h1, h2⟩ | ⟨g, cap', cur, h1, -, hg, -, -, -, -⟩
  · omega
  simp only [Value.slice.injEq] at h1
  obtain ⟨rfl, -, rfl⟩ := h1
  obtain ⟨c0, c1, c2, c3⟩ := cells4_gets hi ⟨e0, 0, 0, e0⟩
  have hlt := (Array.getElem?_eq_some_iff.1 hg).1
  have hl : (cells4 L).length = L.length * 4 := cells4_length L
  refine ⟨g, 0, rfl, hlt, ?_, ?_, ?_, ?_⟩
  · rw [show 0 + i * 4 = i * 4 by omega]; exact (h.cellAt (i * 4) (by omega)).trans c0
  · rw [show 0 + i * 4 + 1 = i * 4 + 1 by omega]; exact (h.cellAt (i * 4 + 1) (by omega)).trans c1
  · rw [show 0 + i * 4 + 2 = i * 4 + 2 by omega]; exact (h.cellAt (i * 4 + 2) (by omega)).trans c2
  · rw [show 0 + i * 4 + 3 = i * 4 + 3 by omega]; exact (h.cellAt (i * 4 + 3) (by omega)).trans c3
theorem RLs.below {w w' : World} {v : Value} {L : List LV} (h : RLs w v L) (hb : Below w.heap.size w w') : RLs w' v L := by
  obtain ⟨a, cap, rfl, h⟩ := h
  refine ⟨a, cap, rfl, fun i hi => ?_⟩
  obtain ⟨b, off, ha, hlt, h0, h1, h2, h3⟩ := h i hi
  exact ⟨b, off, ha, Nat.lt_of_lt_of_le hlt hb.size, (hb.cell (p := ⟨b, off + i * 4, none⟩) hlt).trans h0, (hb.cell (p := ⟨b, off + i * 4 + 1, none⟩) hlt).trans h1, (hb.cell (p := ⟨b, off + i * 4 + 2, none⟩) hlt).trans h2, (hb.cell (p := ⟨b, off + i * 4 + 3, none⟩) hlt).trans h3⟩

theorem linesT_len (s : ByteArray) (wd mode : Int) (hs : s.size ≤ 1048576) : (linesT s wd mode).length ≤ 4194305 := by
  unfold linesT
  split
  · simp
  · have hfl : (flow s).length ≤ 4194304 := by have := flow_len s; omega
    have h2 := linesTo_len wd.toNat (modeOf mode) (rowsT (flow s)) _ (Nat.le_refl _)
    have h3 := weigh_take (rowsT (flow s)) (rowsT (flow s)).length
    have h4 := rowsT_weigh (flow s)
    omega
/-- what the walk asks of a line -/
structure GW (M : Nat) (wd : Int) (nb cb : Bool) (N : Nat) (i : Nat) (x y : LV) : Prop where
  tx : x.text.size ≤ M
  ls : x.lost.size ≤ M
  wid : clu.width x.text = x.width
  wsm : x.width ≤ 2 * M
  le : nb = false → ¬ wd < (x.width : Int)
  non : nb = true → ¬ 1 < (x.fin : Int)
  lost : x.lost ≠ e0 → oneOk x.lost ∧ ¬ (((wide (runes (bs x.lost)) : Nat) : Int) ≤ wd) ∧ (x.width : Int) = wd
  fins : x.fin ≤ 3
  nxt : x.lost = e0 → 2 ≤ x.fin → i + 1 < N ∧ (x.fin = 2 → cb = false) ∧
     (x.fin = 3 → restOf y ≠ [] ∧ ¬ (x.width : Int) + (((restOf y).getD 0 t0).2 : Int) ≤ wd ∧ (cb = false → (∀ k, k < (flow x.text).length → ((flow x.text).getD k t0).1 ≠ sp) ∧ ((restOf y).getD 0 t0).1 ≠ sp)) ∧
     (x.fin = 2 → (wordF (decide (y.fin = 3)) (restOf y) (x.width + 1) true).2 = true → ¬ ((wordF (decide (y.fin = 3)) (restOf y) (x.width + 1) true).1 : Int) ≤ wd)
def z0 : LV := ⟨e0, 0, 0, e0⟩
theorem width_small (s : ByteArray) : clu.width s ≤ 2 * s.size := by
  unfold clu.width
  have h1 := wsum_le (cl (runes (bs s)))
  have h2 := cl_length _ (runes (bs s)) (Nat.le_refl _)
  have h3 := runes_len s
  omega
theorem greedy_walk {s : ByteArray} {wd mode : Int} {i : Nat} (hi : i < (linesT s wd mode).length) :
    GW (4 * s.size + 2) wd (mode == 2) (mode == 1) (linesT s wd mode).length i ((linesT s wd mode).getD i z0) ((linesT s wd mode).getD (i + 1) z0) := by
  have h1 : 1 ≤ wd := by
    rcases Int.lt_or_le wd 1 with h | h
    · unfold linesT at hi
      rw [if_pos h] at hi
      simp at hi
    · exact h
  have hx : (linesT s wd mode)[i]? = some ((linesT s wd mode).getD i z0) := by rw [List.getD_eq_getElem?_getD, List.getElem?_eq_getElem hi]; rfl
  have h := lines_greedy s wd mode hx
  have hwd : ((wd.toNat : Nat) : Int) = wd := Int.toNat_of_nonneg (by omega)
  have hm2 : (mode == 2) = true ↔ modeOf mode = 2 := by
    rw [beq_iff_eq]
    unfold modeOf
    split
    · constructor <;> intro e <;> omega
    · split <;> constructor <;> intro e <;> omega
  have hm0 : (mode == 2) = false → (mode == 1) = false → modeOf mode = 0 := by
    intro ha hb
    rw [beq_eq_false_iff_ne] at ha hb
    unfold modeOf
    rw [if_neg hb, if_neg ha]
  have hm1 : modeOf mode = 0 → (mode == 1) = false := by
    intro e
    rw [beq_eq_false_iff_ne]
    intro e2
    unfold modeOf at e
    rw [if_pos e2] at e
    cases e
  generalize linesT s wd mode = L at *
  generalize L.getD i z0 = x at *
  have hw := width_small x.text
  have hws : x.width ≤ 2 * (4 * s.size + 2) := by
    rw [h.wid] at hw
    have := h.size.1
    omega
  refine ⟨h.size.1, by have := h.size.2; omega, h.wid, hws, fun hn => ?_, fun hn => ?_, fun hl => ?_, h.fins, fun hl h2 => ?_⟩
  · have := h.le (fun e => by rw [hm2.2 e] at hn; cases hn)
    omega
  · have := h.none (hm2.1 hn)
    omega
  · obtain ⟨ha, hb, hc⟩ := h.lost hl
    exact ⟨ha, by omega, by omega⟩
  · obtain ⟨y, hy, ha, hb, hc⟩ := h.next hl h2
    have hyL := (List.getElem?_eq_some_iff.1 hy).1
    have hy2 : L.getD (i + 1) z0 = y := by rw [List.getD_eq_getElem?_getD, hy]; rfl
    rw [hy2]
    refine ⟨hyL, fun h2f => hm1 (ha h2f), fun h3f => ?_, fun h2f hwh => ?_⟩
    · obtain ⟨p, q, r⟩ := hb h3f
      refine ⟨p, by omega, fun hcb => ?_⟩
      have hnb : (mode == 2) = false := by
        rw [← Bool.not_eq_true]
        intro e
        have := h.none (hm2.1 e)
        omega
      obtain ⟨r1, r2⟩ := r (hm0 hnb hcb)
      exact ⟨fun k hk => r1 _ (getD_mem t0 hk), r2⟩
    · have := hc h2f hwh
      omega
theorem box4 {w : World} {g : Nat} {a b c d : Value} {t : TypeId} (h : w.heap[g]? = some (.cells #[a, b, c, d] t (0, 0))) : w.cell? ⟨g, 0, none⟩ = some a ∧ w.cell? ⟨g, 1, none⟩ = some b ∧ w.cell? ⟨g, 2, none⟩ = some c ∧ w.cell? ⟨g, 3, none⟩ = some d := by
  simp [World.cell?, h]
/-- a line of a list of lines, told of a block -/
def LineAt (w : World) (b off i : Nat) (x : LV) : Prop :=
  w.cell? ⟨b, off + i * 4, none⟩ = some (.string x.text) ∧ w.cell? ⟨b, off + i * 4 + 1, none⟩ = some (.int .i64 x.width) ∧ w.cell? ⟨b, off + i * 4 + 2, none⟩ = some (.int .i8 x.fin) ∧ w.cell? ⟨b, off + i * 4 + 3, none⟩ = some (.string x.lost)

theorem rest_wide (y : LV) : ∀ q ∈ restOf y, q.2 ≤ 2 := by
  unfold restOf
  split
  · exact fun q hq => (flow_ok _ q hq).2
  · exact fun q hq => (flow_ok _ q hq).2
theorem rest_len {M : Nat} {y : LV} (h1 : y.text.size ≤ M) (h2 : y.lost.size ≤ M) : (restOf y).length ≤ 4 * M := by
  unfold restOf
  have a := flow_len y.text
  have b := flow_len y.lost
  split <;> omega
theorem drop_at {Z : List TV} {k : Nat} (h : k < Z.length) : Z.drop k = Z.getD k t0 :: Z.drop (k + 1) := by
  rw [List.drop_eq_getElem_cons h]
  simp [List.getD_eq_getElem?_getD, h]
theorem word_next {e3 : Bool} {Z : List TV} {n : Nat} {wh : Bool} {k : Nat} (h : k < Z.length) (hs : (Z.getD k t0).1 ≠ sp) : wordF e3 (Z.drop k) n wh = wordF e3 (Z.drop (k + 1)) (n + (Z.getD k t0).2) (decide (k + 1 < Z.length) || !e3) := by
  rw [drop_at h]
  conv => lhs; unfold wordF
  rw [if_neg hs]
  congr 2
  by_cases hk : k + 1 < Z.length
  · rw [decide_eq_true hk, decide_eq_true]
    intro e
    have := congrArg List.length e
    rw [List.length_drop, List.length_nil] at this
    omega
  · rw [decide_eq_false hk, decide_eq_false]
    intro e
    apply e
    rw [List.drop_eq_nil_iff]
    omega
theorem word_stop {e3 : Bool} {Z : List TV} {n : Nat} {wh : Bool} {k : Nat} (h : k < Z.length) (hs : (Z.getD k t0).1 = sp) : wordF e3 (Z.drop k) n wh = (n, wh) := by
  rw [drop_at h]
  unfold wordF
  rw [if_pos hs]
theorem word_end {e3 : Bool} {Z : List TV} {n : Nat} {wh : Bool} : wordF e3 (Z.drop Z.length) n wh = (n, wh) := by
  rw [List.drop_length]
  rfl

set_option maxRecDepth 100000 in
set_option maxHeartbeats 4000000 in
theorem lawGreedy_any (s : ByteArray) (wd mode : Int) (w : World) (hs : s.size ≤ 1048576) : Calls Try.prog 3 #[.string s, .int .i64 wd, .int .i8 mode] w fun e w' => e = .returned (.bool true) ∧ Below w.heap.size w w' := by
  have HK := run.hid (fun w => wakes_any w)
  have HL := run.hid (fun w => lines_any s wd mode w (by omega))
  have HG := run.hid (fun i hi => @greedy_walk s wd mode i hi)
  have HN := run.hid (linesT_len s wd mode hs)
  obtain ⟨nb, hnb⟩ : ∃ nb : Bool, (mode == 2) = nb := ⟨_, rfl⟩
  obtain ⟨cb, hcb⟩ : ∃ cb : Bool, (mode == 1) = cb := ⟨_, rfl⟩
  rw [hnb, hcb] at HG
  generalize linesT s wd mode = L at *
  have hMs : 4 * s.size + 2 ≤ 4194306 := by omega
  generalize 4 * s.size + 2 = M at *
  go_enter Try.func3, Try.ntmps3
  go_wp2_with fail
  refine (HL.out _).mono ?_
  rintro e w1 ⟨v1, rfl, hown1, hb1⟩
  have HR1 := run.hid (rls_own hown1)
  have hs1 := hb1.size
  have HB1 := run.hid hb1
  clear hown1 HL hb1
  obtain ⟨a1, c1, rfl, hcl⟩ := HR1.out
  have HCL := run.hid hcl
  clear hcl HR1
  generalize hN : L.length = N at *
  go_upto_region 4 with fail
  clear hnb hcb
  go_wp2_with fail
  go_loopw [10] (fun vi wr => ∃ i : Nat, i ≤ N ∧ vi = .int .i64 i ∧ Below w1.heap.size w1 wr) (fun vi _ => ((N : Int) - intOf vi).toNat)
  case atStart => exact ⟨0, by omega, rfl, Below.refl _ _⟩
  case round =>
    obtain ⟨i, hi, rfl, hbel⟩ := hrel
    by_cases hlt : i < N
    · have HGi := run.hid (HG.out i hlt)
      obtain ⟨b1, o1, rfl, hlb1, x0, x1, x2, x3⟩ := HCL.out i hlt
      have HNX : Hid (i + 1 < N → ∀ X, Below w1.heap.size w1 X → LineAt X b1 o1 (i + 1) (L.getD (i + 1) z0)) := fun h X hX => by
        obtain ⟨b', o', e, -, y0, y1, y2, y3⟩ := HCL.out (i + 1) h
        simp only [Option.some.injEq, Addr.mk.injEq, and_true] at e
        obtain ⟨rfl, rfl⟩ := e
        exact ⟨(hX.cell (p := ⟨b1, o1 + (i + 1) * 4, none⟩) hlb1).trans y0, (hX.cell (p := ⟨b1, o1 + (i + 1) * 4 + 1, none⟩) hlb1).trans y1, (hX.cell (p := ⟨b1, o1 + (i + 1) * 4 + 2, none⟩) hlb1).trans y2, (hX.cell (p := ⟨b1, o1 + (i + 1) * 4 + 3, none⟩) hlb1).trans y3⟩
      have HYS : Hid (i + 1 < N → (L.getD (i + 1) z0).text.size ≤ M ∧ (L.getD (i + 1) z0).lost.size ≤ M) := fun h => ⟨(HG.out (i + 1) h).tx, (HG.out (i + 1) h).ls⟩
      replace x0 := (hbel.cell (p := ⟨b1, o1 + i * 4, none⟩) hlb1).trans x0
      replace x1 := (hbel.cell (p := ⟨b1, o1 + i * 4 + 1, none⟩) hlb1).trans x1
      replace x2 := (hbel.cell (p := ⟨b1, o1 + i * 4 + 2, none⟩) hlb1).trans x2
      replace x3 := (hbel.cell (p := ⟨b1, o1 + i * 4 + 3, none⟩) hlb1).trans x3
      change wr.cell? ⟨b1, o1 + i * 4, none⟩ = some (.string (L.getD i z0).text) at x0
      change wr.cell? ⟨b1, o1 + i * 4 + 1, none⟩ = some (.int .i64 (L.getD i z0).width) at x1
      change wr.cell? ⟨b1, o1 + i * 4 + 2, none⟩ = some (.int .i8 (L.getD i z0).fin) at x2
      change wr.cell? ⟨b1, o1 + i * 4 + 3, none⟩ = some (.string (L.getD i z0).lost) at x3
      generalize L.getD (i + 1) z0 = y at *
      generalize L.getD i z0 = x at *
      have hNl := HN.out
      clear HG HCL HN hN
      obtain ⟨tt, tw, tf, tl⟩ := x
      have htt : tt.size ≤ M := HGi.out.tx
      have htw : tw ≤ 2 * M := HGi.out.wsm
      have htl : tl.size ≤ M := HGi.out.ls
      have hsz := hbel.size
      dsimp only at x0 x1 x2 x3
      go_upto_region 8 with fail
      have hbel2 := hbel.alloc hsz (.cells #[.string tt, .int .i64 tw, .int .i8 tf, .string tl] 26)
      have hbx := run.heap_new wr (.cells #[.string tt, .int .i64 tw, .int .i8 tf, .string tl] 26)
      generalize wr.alloc (.cells #[.string tt, .int .i64 tw, .int .i8 tf, .string tl] 26) = wB at *
      generalize wr.heap.size = g at *
      clear x0 x1 x2 x3 hbel
      have HGL := run.hid (fun (h : nb = false) => show ¬ wd < (tw : Int) from HGi.out.le h)
      have HGF := run.hid (fun (h : nb = true) => show ¬ 1 < (tf : Int) from HGi.out.non h)
      have HW : Hid (∀ d os, Calls Try.prog 5 #[.string tt] (Sort.grow (redrawn wB d) os) fun e w'' => e = .returned (.int .i64 tw) ∧ ∃ p : Regrown, w'' = Sort.grow (redrawn wB p.d) p.os) := fun d os => by
        have h := width_any tt (Sort.grow (redrawn wB d) os) (by omega)
        rw [show clu.width tt = tw from HGi.out.wid] at h
        exact Calls.regrown_of h
      obtain ⟨c0, c1', c2, c3⟩ := box4 hbx
      go_cut [61] (fun c wx => c = .bool false ∧ wx.heap[g]? = some (.cells #[.string tt, .int .i64 tw, .int .i8 tf, .string tl] 26 (0, 0)) ∧ Below w1.heap.size w1 wx)
      case first =>
        as_aux_lemma =>
          have q0 := fun d os => cell_regrown c0 d os
          have q1 := fun d os => cell_regrown c1' d os
          have q2 := fun d os => cell_regrown c2 d os
          have hdone : ∀ dq osq, (Sort.grow (redrawn wB dq) osq).heap[g]? = some (.cells #[.string tt, .int .i64 tw, .int .i8 tf, .string tl] 26 (0, 0)) ∧ Below w1.heap.size w1 (Sort.grow (redrawn wB dq) osq) := fun dq osq => ⟨((below_regrown wB dq osq).block g (Array.getElem?_eq_some_iff.1 hbx).1).trans hbx, hbel2.trans ((below_regrown wB dq osq).mono hbel2.size)⟩
          have HD := run.hid hdone
          clear hdone HNX HK HB1 HGi hbx hbel2 c0 c1' c2 c3
          cases nb with
          | false =>
            have hle : decide (wd < (tw : Int)) = false := decide_eq_false (HGL.out rfl)
            clear HGL HGF
            refine wp_region_quiet_below (by kernel_rfl) (by kernel_rfl) ?_
            repeat (quiet_step (exact HW.out _ _))
            refine wpQuiet_nil ?_
            intro _ hw'
            obtain ⟨⟨dq, osq⟩, hw''⟩ := hw'
            subst hw''
            go_wp2
            go_meet
            exact ⟨rfl, HD.out _ _⟩
          | true =>
            have hle : decide (1 < (tf : Int)) = false := decide_eq_false (HGF.out rfl)
            clear HGL HGF
            refine wp_region_quiet_below (by kernel_rfl) (by kernel_rfl) ?_
            repeat (quiet_step (exact HW.out _ _))
            refine wpQuiet_nil ?_
            intro _ hw'
            obtain ⟨⟨dq, osq⟩, hw''⟩ := hw'
            subst hw''
            go_wp2
            go_meet
            exact ⟨rfl, HD.out _ _⟩
      obtain ⟨rfl, hbxc, hbelc⟩ := hcut
      clear hbel2 hbx HW HGL HGF c0 c1' c2 c3 hsz
      generalize wc = w2 at *
      obtain ⟨c0, c1', c2, c3⟩ := box4 hbxc
      have hsz2 := hbelc.size
      have hgl : g < w2.heap.size := (Array.getElem?_eq_some_iff.1 hbxc).1
      have hlE := toList_eq_iff tl e0
      have hlE0 : (tl.toList == e0.toList) = (tl.toList == ([] : List UInt8)) := by rw [show e0.toList = ([] : List UInt8) from by simp [e0, ByteArray.toList_eq]]
      by_cases hl : tl = e0
      · clear hlE hlE0
        subst hl
        obtain hft : tf < 2 ∨ 2 ≤ tf := by omega
        unfold e0 at c3
        rcases hft with hf | hf
        · have hf1 : (tf : Int) < 2 := by omega
          have HRB := run.hid hbelc
          clear HNX HK HGi hbelc hbxc HYS
          go_wp2
          go_roundw
          case rel => exact ⟨i + 1, by omega, by go_num, HRB.out⟩
          case measure => simp [intOf]; omega
        · obtain ⟨hiN, hcb2, h3, h2⟩ := HGi.out.nxt rfl hf
          have hf3 : tf ≤ 3 := HGi.out.fins
          obtain ⟨hyt, hyl⟩ := HYS.out hiN
          have HY := run.hid (HNX.out hiN)
          obtain ⟨yt, yw, yf, yl⟩ := y
          dsimp only at hcb2 h3 h2 hyt hyl hf3
          obtain ⟨y0, y1, y2, y3⟩ := HY.out w2 hbelc
          dsimp only at y0 y1 y2 y3
          have H3 := run.hid h3
          have H2 := run.hid h2
          have HB2 := run.hid hbelc
          have HBX := run.hid hbxc
          have HCB := run.hid hcb2
          have HK2 := run.hid HK
          have hge : decide ((N : Int) ≤ (i : Int) + 1) = false := decide_eq_false (by omega)
          have hnl2 : ¬ (tf : Int) < 2 := by omega
          have hf3i : (tf : Int) ≤ 3 := by omega
          clear HNX HK HGi hbelc hbxc h3 h2 hcb2 HYS hf
          go_upto_region 15 with fail
          go_cut [100] (fun c wx => c = .bool false ∧ wx = w2)
          case first =>
            as_aux_lemma =>
              clear HK2 H3 H2 HY y0 y1 y2 y3
              cases cb with
              | false =>
                go_wp2
                go_meet
                exact ⟨rfl, rfl⟩
              | true =>
                have hne2 : ((tf : Int) == 2) = false := by
                  rw [beq_eq_false_iff_ne]
                  intro e
                  exact absurd (HCB.out (by omega)) (by simp)
                go_wp2
                go_meet
                exact ⟨rfl, rfl⟩
          obtain ⟨rfl, hww⟩ := hcut
          replace hww := hww.symm
          subst hww
          clear hge
          have hN1 : (i : Int) + 1 < (N : Int) := by omega
          have HFY := run.hid (flow_any yt w2 (by omega))
          go_wp2_with fail
          refine HFY.out.mono ?_
          rintro e w3 ⟨v3, rfl, hown3, hb3⟩
          obtain ⟨a3, k3, rfl⟩ := run.own_value hown3
          have HR3 := run.hid (rs_own hown3)
          have hb13 := HB2.out.trans (hb3.mono hsz2)
          obtain ⟨y0, y1, y2, y3⟩ := HY.out w3 hb13
          dsimp only at y0 y1 y2 y3
          have hs3 := hb3.size
          have HB3 := run.hid hb3
          clear HFY hown3 hb3 hb13
          obtain ⟨jb, hjb⟩ : ∃ jb : Bool, (yl.toList == ([] : List UInt8)) = jb := ⟨_, rfl⟩
          have hyE := toList_eq_iff yl e0
          have hyE0 : (yl.toList == e0.toList) = (yl.toList == ([] : List UInt8)) := by rw [show e0.toList = ([] : List UInt8) from by simp [e0, ByteArray.toList_eq]]
          rw [hyE0, hjb] at hyE
          have HJE := run.hid hyE
          clear hyE hyE0
          go_upto_if 114 with fail
          have HZW := run.hid (rest_wide ⟨yt, yw, yf, yl⟩)
          have hZl := rest_len (y := ⟨yt, yw, yf, yl⟩) hyt hyl
          have HZT : Hid (jb = true → restOf ⟨yt, yw, yf, yl⟩ = flow yt) := fun h => by
            have e := HJE.out
            unfold restOf
            rw [if_pos (of_decide_eq_true (e.symm.trans h))]
          have HZF : Hid (jb = false → restOf ⟨yt, yw, yf, yl⟩ = flow yl) := fun h => by
            have e := HJE.out
            unfold restOf
            rw [if_neg (of_decide_eq_false (e.symm.trans h))]
          generalize restOf ⟨yt, yw, yf, yl⟩ = Z at *
          clear HJE
          go_cut [14] (fun c wx => (∃ a k, c = .slice a Z.length k ∧ Hid (RS wx c Z)) ∧ Below w2.heap.size w2 wx)
          case first =>
            clear H2 H3 HZW HBX HCB HK2
            cases jb with
            | true =>
              have e := HZT.out rfl
              subst e
              go_wp2
              go_meet
              exact ⟨⟨_, _, rfl, HR3⟩, HB3.out⟩
            | false =>
              have e := HZF.out rfl
              subst e
              have HFL := run.hid (flow_any yl w3 (by omega))
              clear HZT HZF hZl
              go_wp2_with fail
              refine HFL.out.mono ?_
              rintro e w4 ⟨v4, rfl, hown4, hb4⟩
              obtain ⟨a4, k4, rfl⟩ := run.own_value hown4
              have HR4 := run.hid (rs_own hown4)
              have HB4 := run.hid (HB3.out.trans (hb4.mono hs3))
              clear hown4 hb4
              go_wp2
              go_meet
              exact ⟨⟨_, _, rfl, HR4⟩, HB4.out⟩
          obtain ⟨⟨a4, k4, rfl, HR4⟩, hb4⟩ := hcut
          generalize wc = w4 at *
          have hbx4 := (hb4.block g hgl).trans HBX.out
          clear c0 c1' c2 c3 HR3 HB3 hs3 y0 y1 y2 y3 hjb HZT HZF
          obtain ⟨c0, c1', c2, c3⟩ := box4 hbx4
          have hs4 := hb4.size
          have hbel4 := HB2.out.trans (hb4.mono hsz2)
          have HFT := run.hid (flow_any tt w4 (by omega))
          have hFl := flow_len tt
          clear hb4
          go_wp2_with fail
          refine HFT.out.mono ?_
          rintro e w5 ⟨v5, rfl, hown5, hb5⟩
          obtain ⟨a5, k5, rfl⟩ := run.own_value hown5
          have HR5 := run.hid (rs_own hown5)
          have HR4' := run.hid (HR4.out.below hb5)
          have hbel5 := hbel4.trans (hb5.mono hbel4.size)
          have hbx5 := (hb5.block g (Nat.lt_of_lt_of_le hgl hs4)).trans hbx4
          clear hown5 HFT c0 c1' c2 c3 HR4 hbel4 hbx4 hb5 HBX HB2 hsz2 hs4
          generalize flow tt = FX at *
          obtain ⟨c0, c1', c2, c3⟩ := box4 hbx5
          generalize hO : FX.length = O at *
          generalize hR : Z.length = R at *
          by_cases h3f : tf = 3
          · as_aux_lemma =>
              have he3 : ((tf : Int) == 3) = true := by rw [h3f]; rfl
              obtain ⟨hzn, hwl, hcc⟩ := H3.out h3f
              have hR1 : 1 ≤ R := by
                rcases Nat.eq_zero_or_pos R with h | h
                · exact absurd (List.length_eq_zero_iff.1 (hR.trans h)) hzn
                · exact h
              obtain ⟨aR, kR, eR, -, hcR⟩ := HR4'.out
              rw [hR] at eR
              simp only [Value.slice.injEq, true_and] at eR
              obtain ⟨rfl, rfl⟩ := eR
              obtain ⟨bR, oR, rfl, hbR, r0, r1⟩ := hcR 0 (by omega)
              rw [Nat.zero_mul, Nat.add_zero] at r0 r1
              have hq2 : (Z.getD 0 t0).2 ≤ 2 := HZW.out _ (getD_mem t0 (by omega))
              have HCC := run.hid hcc
              have HB5 := run.hid hbel5
              clear hcc hcR H3 H2 HZW hzn HR4' hR HCB HY hbel5
              generalize Z.getD 0 t0 = q0 at *
              obtain ⟨qs, qw⟩ := q0
              dsimp only at r0 r1 hwl hq2
              have hR0 : ((R : Int) == 0) = false := by rw [beq_eq_false_iff_ne]; omega
              have hd1 : decide ((tw : Int) + (qw : Int) ≤ wd) = false := decide_eq_false (by omega)
              have hOb : O ≤ 16777224 := by omega
              clear hwl
              go_upto_region 22 with fail
              go_quiet (fail)
              have hb6 : Below w5.heap.size w5 (w5.drewN nq) := ⟨rfl, rfl, rfl, Nat.le_refl _, fun _ _ => rfl⟩
              generalize w5.drewN nq = w6 at *
              replace r0 := (hb6.cell (p := ⟨bR, oR, none⟩) hbR).trans r0
              have HB6 := run.hid (HB5.out.trans (hb6.mono HB5.out.size))
              obtain ⟨aO, kO, eO, -, hcO⟩ := HR5.out.below hb6
              rw [hO] at eO hcO
              simp only [Value.slice.injEq, true_and] at eO
              obtain ⟨rfl, rfl⟩ := eO
              have HCO := run.hid hcO
              clear hcO HR5 hb6 HB5 r1 hR0 hd1 c0 c1' c2 c3 hbx5 hO
              cases cb with
              | false =>
                obtain ⟨hno, hq0⟩ := HCC.out rfl
                have HNO := run.hid hno
                have hspq := sp_eq qs
                rw [decide_eq_false hq0] at hspq
                clear hno HCC hq0
                go_wp2
                generalize wr = wz at *
                go_loop [16] (fun vi => ∃ k : Nat, k ≤ O ∧ vi = .int .i64 k) (fun vi => ((O : Int) - intOf vi).toNat)
                case atStart => exact ⟨0, by omega, rfl⟩
                case round =>
                  obtain ⟨k, hk, rfl⟩ := hrel
                  by_cases hkl : k < O
                  · obtain ⟨b5, o5, rfl, -, p0, -⟩ := HCO.out k hkl
                    have hns := HNO.out k hkl
                    have hsk := sp_eq (FX.getD k t0).1
                    rw [decide_eq_false hns] at hsk
                    generalize (FX.getD k t0).1 = tk at *
                    clear HCO HNO hns
                    go_wp2
                    go_round
                    case rel => exact ⟨k + 1, by omega, by go_num⟩
                    case measure => simp [intOf]; omega
                  · obtain rfl : k = O := by omega
                    clear HCO HNO hkl
                    go_wp2
                    go_roundw
                    case rel => exact ⟨i + 1, by omega, by go_num, HB6.out⟩
                    case measure => simp [intOf]; omega
              | true =>
                clear HCC HCO
                go_wp2
                generalize wr = wz at *
                go_loop [16] (fun vi => ∃ k : Nat, k ≤ O ∧ vi = .int .i64 k) (fun vi => ((O : Int) - intOf vi).toNat)
                case atStart => exact ⟨0, by omega, rfl⟩
                case round =>
                  obtain ⟨k, hk, rfl⟩ := hrel
                  by_cases hkl : k < O
                  · go_wp2
                    go_round
                    case rel => exact ⟨k + 1, by omega, by go_num⟩
                    case measure => simp [intOf]; omega
                  · obtain rfl : k = O := by omega
                    clear hkl
                    go_wp2
                    go_roundw
                    case rel => exact ⟨i + 1, by omega, by go_num, HB6.out⟩
                    case measure => simp [intOf]; omega
          · as_aux_lemma =>
              have he3 : ((tf : Int) == 3) = false := by rw [beq_eq_false_iff_ne]; omega
              have htf2 : tf = 2 := by omega
              have HWF := run.hid (H2.out htf2)
              clear H2 H3 HCB HR5 hO hFl HK2
              generalize hje : decide (yf = 3) = je at *
              have hyf : ((yf : Int) == 3) = je := by
                rw [← hje]
                by_cases h : yf = 3
                · rw [decide_eq_true h, h]; rfl
                · rw [decide_eq_false h, beq_eq_false_iff_ne]; omega
              have hyf2 : ((yf : Int) != 3) = !je := by rw [bne, hyf]
              have HHY := run.hid (HY.out w5 hbel5)
              have HB5 := run.hid hbel5
              obtain ⟨aR, kR, eR, -, hcR⟩ := HR4'.out
              rw [hR] at eR hcR
              simp only [Value.slice.injEq, true_and] at eR
              obtain ⟨rfl, rfl⟩ := eR
              have HCR := run.hid hcR
              generalize hWF : wordF je Z (tw + 1) true = WF at *
              have HST : Hid (wordF je (Z.drop 0) (tw + 1) true = WF) := hWF
              have HNXT := run.hid (fun (k n : Nat) (wh : Bool) (h : k < R) (hs : (Z.getD k t0).1 ≠ sp) => @word_next je Z n wh k (by rw [hR]; exact h) hs)
              have HSTP := run.hid (fun (k n : Nat) (wh : Bool) (h : k < R) (hs : (Z.getD k t0).1 = sp) => @word_stop je Z n wh k (by rw [hR]; exact h) hs)
              have HEND := run.hid (fun (n : Nat) (wh : Bool) => show wordF je (Z.drop R) n wh = (n, wh) from by rw [← hR]; exact word_end)
              have HZ2 := run.hid (fun (k : Nat) (h : k < R) => show (Z.getD k t0).2 ≤ 2 from HZW.out _ (getD_mem t0 (by omega)))
              rw [hR] at HNXT
              clear HY hbel5 HR4' hcR hje hWF hR HZW hbx5 htf2 h3f
              go_wp2
              generalize wr = wz at *
              go_loop [17, 18, 19] (fun vn vw vk => ∃ (k n : Nat) (wh : Bool), k ≤ R ∧ vk = .int .i64 k ∧ vn = .int .i64 n ∧ vw = .bool wh ∧ n ≤ tw + 1 + 2 * k ∧ Hid (wordF je (Z.drop k) n wh = WF)) (fun _ _ vk => ((R : Int) - intOf vk).toNat)
              case atStart => exact ⟨0, tw + 1, true, by omega, rfl, by go_num, rfl, by omega, HST⟩
              case round =>
                obtain ⟨k, n, wh, hk, rfl, rfl, rfl, hn, HW⟩ := hrel
                by_cases hkl : k < R
                · obtain ⟨bR, oR, rfl, -, p0, p1⟩ := HCR.out k hkl
                  obtain ⟨-, -, y2, -⟩ := HHY.out
                  dsimp only at y2
                  have hq2 := HZ2.out k hkl
                  have hspq := sp_eq (Z.getD k t0).1
                  have HNK := run.hid (HNXT.out k n wh hkl)
                  have HSK := run.hid (HSTP.out k n wh hkl)
                  generalize Z.getD k t0 = q at *
                  obtain ⟨qs, qw⟩ := q
                  dsimp only at p0 p1 hq2 hspq
                  clear HNXT HSTP HEND HZ2 HCR HHY HST
                  by_cases hsp : qs = sp
                  · rw [decide_eq_true hsp] at hspq
                    have HE := run.hid ((HSK.out hsp).symm.trans HW.out)
                    have HF : Hid (wh = true → ¬ (n : Int) ≤ wd) := fun h => by
                      have e := HE.out
                      have w := HWF.out
                      rw [← e] at w
                      have e2 : wd < (n : Int) := w h
                      omega
                    clear HE HWF HW HNK HSK hsp y2 p1 hyf
                    cases wh with
                    | true =>
                      have hd : decide ((n : Int) ≤ wd) = false := decide_eq_false (HF.out rfl)
                      clear HF
                      go_wp2
                      go_roundw
                      case rel => exact ⟨i + 1, by omega, by go_num, HB5.out⟩
                      case measure => simp [intOf]; omega
                    | false =>
                      clear HF
                      go_wp2
                      go_roundw
                      case rel => exact ⟨i + 1, by omega, by go_num, HB5.out⟩
                      case measure => simp [intOf]; omega
                  · rw [decide_eq_false hsp] at hspq
                    have HE := run.hid ((HNK.out hsp).symm.trans HW.out)
                    clear HWF HW HNK HSK hsp
                    dsimp only at HE
                    by_cases hk1 : k + 1 < R
                    · have hlt1 : decide ((k : Int) < (R : Int) - 1) = true := decide_eq_true (by omega)
                      rw [decide_eq_true hk1, Bool.true_or] at HE
                      go_wp2
                      go_round
                      case rel => exact ⟨k + 1, n + qw, true, by omega, by go_num, by go_num, rfl, by omega, HE⟩
                      case measure => simp [intOf]; omega
                    · have hlt1 : decide ((k : Int) < (R : Int) - 1) = false := decide_eq_false (by omega)
                      rw [decide_eq_false hk1, Bool.false_or] at HE
                      go_wp2
                      go_round
                      case rel => exact ⟨k + 1, n + qw, !je, by omega, by go_num, by go_num, rfl, by omega, HE⟩
                      case measure => simp [intOf]; omega
                · obtain rfl : k = R := by omega
                  have HE := run.hid ((HEND.out n wh).symm.trans HW.out)
                  have HF : Hid (wh = true → ¬ (n : Int) ≤ wd) := fun h => by
                    have e := HE.out
                    have w := HWF.out
                    rw [← e] at w
                    have e2 : wd < (n : Int) := w h
                    omega
                  clear HE HWF HW HNXT HSTP HEND HZ2 HCR HHY HST hkl hyf
                  cases wh with
                  | true =>
                    have hd : decide ((n : Int) ≤ wd) = false := decide_eq_false (HF.out rfl)
                    clear HF
                    go_wp2
                    go_roundw
                    case rel => exact ⟨i + 1, by omega, by go_num, HB5.out⟩
                    case measure => simp [intOf]; omega
                  | false =>
                    clear HF
                    go_wp2
                    go_roundw
                    case rel => exact ⟨i + 1, by omega, by go_num, HB5.out⟩
                    case measure => simp [intOf]; omega
      · as_aux_lemma =>
          have hl1 : (tl.toList == ([] : List UInt8)) = false := by rw [← hlE0]; rw [hlE]; exact decide_eq_false hl
          have hl0 : ¬ tl.toList = [] := fun e => by rw [e] at hl1; simp at hl1
          have hl2 : tl.toList.isEmpty = false := by rw [← Bool.not_eq_true, List.isEmpty_iff]; exact hl0
          obtain ⟨hok, hwl, hwx⟩ := HGi.out.lost hl
          dsimp only at hok hwl hwx
          have HO := run.hid (one_any tl w2 (by omega))
          have HOK := run.hid hok
          have HB2 := run.hid hbelc
          have HBX := run.hid hbxc
          generalize hWL : ((wide (runes (bs tl)) : Nat) : Int) = wl at *
          clear hl hlE hlE0 hok HNX HK HGi hbelc hbxc HYS
          subst hwx
          have hd1 : decide (wl ≤ (tw : Int)) = false := decide_eq_false hwl
          go_wp2_with fail
          refine HO.out.mono ?_
          rintro e w3 ⟨hb3, ⟨-, rfl⟩ | ⟨hno, -⟩⟩
          · have hbx3 := (hb3.block g hgl).trans HBX.out
            have hbel3 := HB2.out.trans (hb3.mono hsz2)
            rw [hWL]
            clear hWL
            go_upto_region 12 with fail
            have hs3 := hb3.size
            have hbel4 := hbel3.alloc hbel3.size (.cells #[.string tl, .int .i64 wl] 29)
            have hne : g ≠ w3.heap.size := by omega
            have hbx4 := (run.heap_old w3 (.cells #[.string tl, .int .i64 wl] 29) (k := g) (by omega)).trans hbx3
            have hbn := run.heap_new w3 (.cells #[.string tl, .int .i64 wl] 29)
            generalize w3.alloc (.cells #[.string tl, .int .i64 wl] 29) = w4 at *
            generalize w3.heap.size = g2 at *
            obtain ⟨d0, d1, d2, d3⟩ := box4 hbx4
            have n1 : w4.cell? ⟨g2, 1, none⟩ = some (.int .i64 wl) := by simp [World.cell?, hbn]
            have HB4 := run.hid hbel4
            clear hbx3 hbel3 hbx4 hbn hbel4 hwl d0 d2 d3 HBX HB2 HO HOK hb3 hs3 hl0 hl1 hl2
            go_wp2
            go_roundw
            case rel => exact ⟨i + 1, by omega, by go_num, HB4.out⟩
            case measure => simp [intOf]; omega
          · exact absurd HOK.out hno
    · obtain rfl : i = N := by omega
      clear HCL HG hlt
      go_wp2_with fail
      refine (HK.out _).mono ?_
      rintro e w2 ⟨rfl, hb2⟩
      have hb := HB1.out.trans (hbel.mono hs1)
      have hbb := hb.trans (hb2.mono hb.size)
      go_wp2
      go_ret
      exact ⟨rfl, hbb⟩
end Go.Proofs.Ytmjmmoecplndmaa.wrp
