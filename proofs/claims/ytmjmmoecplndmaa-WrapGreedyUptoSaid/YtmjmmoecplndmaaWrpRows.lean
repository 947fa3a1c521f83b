/-
  The walk of the layer wrap: rows.
-/
import Derived.Test.YtmjmmoecplndmaaWrpLinesPlain
import Derived.Test.YtmjmmoecplndmaaWrpTrim
namespace Go.Proofs.Ytmjmmoecplndmaa.wrp
open Go.RowKit Go.Proofs
open Go.Proofs.Ytmjmmoecplndmaa.wid Go.Proofs.Ytmjmmoecplndmaa.utf Go.Proofs.Ytmjmmoecplndmaa.clu
set_option linter.unusedVariables false

theorem info_row : (Try.prog.info? 32).map (fun i => (i.zero, i.size, i.bytes)) = some (some (.slice none 0 0), 1, 24) := by kernel_rfl

/-- slices, each to be read as its row -/
def Rows (w : World) (vs : List Value) (rs : List (List TV)) : Prop := vs.length = rs.length ∧ ∀ i, i < rs.length → RS w (vs.getD i (.bool false)) (rs.getD i [])
theorem Rows.nil (w : World) : Rows w [] [] := ⟨rfl, fun i h => by simp at h⟩
theorem Rows.snoc {w : World} {vs : List Value} {rs : List (List TV)} {v : Value} {r : List TV} (h : Rows w vs rs) (hr : RS w v r) : Rows w (vs ++ [v]) (rs ++ [r]) := by
  obtain ⟨h1, h2⟩ := h
  refine ⟨by simp [h1], fun i hi => ?_⟩
  simp only [List.length_append, List.length_cons, List.length_nil] at hi
  simp only [List.getD_eq_getElem?_getD]
  by_cases e : i < rs.length
  · rw [List.getElem?_append_left (by omega), List.getElem?_append_left e]
    have := h2 i e
    simpa only [List.getD_eq_getElem?_getD] using this
  · obtain rfl : i = rs.length := by omega
    rw [List.getElem?_append_right (by omega), List.getElem?_append_right (by omega)]
    simpa [h1] using hr
theorem Rows.below {w w' : World} {vs : List Value} {rs : List (List TV)} (h : Rows w vs rs) (hb : Below w.heap.size w w') : Rows w' vs rs := ⟨h.1, fun i hi => (h.2 i hi).below hb⟩

theorem rs_seg {w : World} {b off n cap : Nat} {X : List TV} (h : RS w (.slice (some ⟨b, off, none⟩) n cap) X) (f i : Nat) (hf : f ≤ i) (hi : i ≤ X.length) : RS w (.slice (some ⟨b, off + f * 2, none⟩) (i - f) (cap - f)) (seg X f i) := by
  have h1 := h.take i hi
  have h2 := h1.drop f (by rw [List.length_take]; omega)
  exact h2
theorem rs_segOld {w : World} {a : Option Addr} {n cap : Nat} {X : List TV} (h : RS w (.slice a n cap) X) (f i : Nat) (hf : f ≤ i) (hi : i ≤ X.length) (hc : cap = f) (b : Option Addr) : RS w (.slice b 0 0) (seg X f i) := by
  obtain ⟨a', cap', e, hcp, -⟩ := h
  simp only [Value.slice.injEq] at e
  obtain ⟨rfl, rfl, rfl⟩ := e
  have hl := seg_length X (f := f) hi
  refine ⟨b, 0, by rw [hl, show i - f = 0 by omega], ⟨by omega, fun _ => rfl⟩, fun j hj => by omega⟩

theorem readsN_at (w : World) (k : Nat) (hk : w.heap.size = k) (xs : List Value) (n size : Nat) (t : TypeId) (hl : xs.length = n * size) : run.ReadsN size (w.alloc (.cells xs.toArray t)) (.slice (some ⟨k, 0, none⟩) n n) n xs := by
  subst hk; exact run.readsN_new w xs n size t hl

set_option maxRecDepth 100000 in
set_option maxHeartbeats 2000000 in
theorem rows_any (v : Value) (X : List TV) (w : World) (hv : RS w v X) (hX : X.length ≤ 274877906944) : Calls Try.prog 9 #[v] w fun e w' =>
    ∃ u vs, e = .returned u ∧ w'.ownsRow w.heap.size 32 1 u (rowsT X).length vs ∧ Rows w vs (rowsT X) ∧ Below w.heap.size w w' := by
  obtain ⟨ir, hir, hr0, hr1, hr2⟩ := info_parts info_row
  have HV := run.hid hv
  obtain ⟨a, cap, rfl, hcap, ha⟩ := hv
  have hcap1 := hcap.1
  have HA := run.hid ha
  clear ha
  by_cases h0 : X.length = 0
  · have e0 : rowsT X = [] := by unfold rowsT; rw [if_pos (List.length_eq_zero_iff.1 h0)]
    rw [e0]
    clear HA HV e0 hcap
    rw [h0] at hcap1 ⊢
    clear h0
    go_enter Try.func9, Try.ntmps9
    go_wp2
    go_ret
    exact ⟨_, [], rfl, World.ownsRow_nil _ _ _ _, Rows.nil _, Below.refl _ _⟩
  · obtain ⟨b, off, rfl, hb, -⟩ := HA.out 0 (by omega)
    have HA2 := run.hid (fun i (h : i < X.length) => show w.cell? ⟨b, off + i * 2, none⟩ = some (.string (X.getD i t0).1) ∧ w.cell? ⟨b, off + i * 2 + 1, none⟩ = some (.int .i64 ((X.getD i t0).2 : Nat)) from by
      obtain ⟨b', off', e, -, h1, h2⟩ := HA.out i h
      simp only [Option.some.injEq, Addr.mk.injEq, and_true] at e
      obtain ⟨rfl, rfl⟩ := e
      exact ⟨h1, h2⟩)
    have hR : rowsT X = splitNl X := by unfold rowsT; rw [if_neg (fun e => h0 (by rw [e]; rfl))]
    rw [hR]
    have HSEG := run.hid (fun f i hf hi => rs_seg HV.out f i hf hi)
    have HOLD := run.hid (fun f i hf hi hc b => rs_segOld HV.out f i hf hi hc b)
    have HS := run.hid (rowInv_start X)
    have HNL := run.hid (fun i f done h => @rowInv_nl X i f done h)
    have HEL := run.hid (fun i f done h => @rowInv_else X i f done h)
    have HEND := run.hid (fun f done h => @rowInv_end X f done h)
    have HSA := run.hid (fun f => @seg_all X f)
    clear HA HV hR hcap
    generalize hN : X.length = N at *
    have h0' : ((N : Int) == 0) = false := beq_eq_false_iff_ne.2 (by omega)
    go_enter Try.func9, Try.ntmps9
    go_wp2
    go_loopw [3, 4, 12] (fun vo vf vi wr => ∃ (i f n : Nat) (done : List (List TV)) (vs : List Value), i ≤ N ∧ vi = .int .i64 i ∧ vf = .int .i64 f ∧ Hid (RowInv X i done f) ∧ Hid (n = done.length) ∧ f ≤ i ∧ n ≤ f ∧
      wr.ownsRow w.heap.size 32 1 vo n vs ∧ Hid (Rows w vs done) ∧ Below w.heap.size w wr) (fun _ _ vi _ => ((N : Int) - intOf vi).toNat)
    case atStart => exact ⟨0, 0, 0, [], [], by omega, rfl, rfl, HS, rfl, by omega, by omega, World.ownsRow_nil _ _ _ _, Rows.nil _, Below.refl _ _⟩
    case round =>
      obtain ⟨i, f, n, done, vs, hi, rfl, rfl, HI, HD, hfi, hnf, hown, HRW, hbel⟩ := hrel
      by_cases hlt : i < N
      · obtain ⟨hx0, hx1⟩ := HA2.out i hlt
        replace hx0 := (hbel.cell (p := ⟨b, off + i * 2, none⟩) hb).trans hx0
        replace hx1 := (hbel.cell (p := ⟨b, off + i * 2 + 1, none⟩) hb).trans hx1
        have H1 := run.hid (HNL.out i f done HI.out (by omega))
        have H2 := run.hid (HEL.out i f done HI.out (by omega))
        have H3 := run.hid (HSEG.out f i hfi (by omega))
        have H4 := run.hid (HOLD.out f i hfi (by omega))
        generalize X.getD i t0 = q at *
        obtain ⟨qs, qw⟩ := q
        dsimp only at hx0 hx1 H1 H2
        have hbeq := nl_eq qs
        have hsz := hbel.size
        have hbn := hbel.alloc hsz (.cells #[.string qs, .int .i64 qw] 29)
        have hcap2 := hcap1
        clear HA2 HNL HEL HEND HSA hN HS HSEG HOLD
        by_cases hk : qs = nl
        · have HN := run.hid (H1.out hk)
          rw [decide_eq_true hk] at hbeq
          subst hk
          clear H1 H2 HI
          have fin : ∀ (u : Value), RS w u (seg X f i) → Hid (Rows w (vs ++ [u]) (done ++ [seg X f i])) := fun u hu => HRW.out.snoc hu
          have HF := run.hid fin
          have HL : Hid (n + 1 = (done ++ [seg X f i]).length) := by show _ = _; rw [List.length_append, ← HD.out]; rfl
          clear fin
          have hce : ¬ cap = f := by omega
          have H5 := HF.out _ H3.out
          clear H3 H4 HF
          go_wp2_with (at_builtin; refine run.wpList_append_any _ rfl _ _ 36 rfl w.heap.size 32 ir (.slice none 0 0) 1 24 Try.underlying36 hir hr0 hr1 hr2 rfl (by decide) _ _ _ rfl ((hown.alloc _).alloc _) _ 1 [.slice (some ⟨b, off + f * 2, none⟩) (i - f) (cap - f)] rfl (readsN_at (wr.alloc _) (wr.heap.size + 1) (by simp) [.slice (some ⟨b, off + f * 2, none⟩) (i - f) (cap - f)] 1 1 _ rfl) (by intro u hu; simp only [List.mem_singleton] at hu; subst hu; rfl) (by unfold maxLen; omega) (by omega) (by simp; omega) ?_)
          intro v' w3 hown3 hgrow hold hstep
          have hbel3 := run.below_append (hbn.alloc hbn.size _) ((hown.alloc _).alloc _) hgrow (by simp; omega)
          clear hown hgrow hold hstep
          go_wp2
          go_roundw
          case rel => exact ⟨i + 1, i + 1, n + 1, _, _, by omega, by go_num, by go_num, HN, HL, by omega, by omega, hown3, H5, hbel3⟩
          case measure => simp [intOf]; omega
        · have HN := run.hid (H2.out hk)
          rw [decide_eq_false hk] at hbeq
          clear H1 H2 HI H3 H4
          go_wp2
          go_roundw
          case rel => exact ⟨i + 1, f, n, _, _, by omega, by go_num, rfl, HN, HD, by omega, by omega, hown.alloc _, HRW, hbn⟩
          case measure => simp [intOf]; omega
      · obtain rfl : i = N := by omega
        have HN := run.hid (HEND.out f done HI.out)
        have H3 := run.hid (HSEG.out f i hfi (by omega))
        have H4 := run.hid (HOLD.out f i hfi (by omega))
        replace HN : Hid (splitNl X = done ++ [seg X f i]) := by show _ = _; rw [HSA.out f]; exact HN.out
        clear HA2 HNL HEL HEND hN HS HSEG HOLD HI hlt HSA
        have fin : ∀ (u : Value), RS w u (seg X f i) → Hid (Rows w (vs ++ [u]) (splitNl X)) := fun u hu => by rw [HN.out]; exact HRW.out.snoc hu
        have HF := run.hid fin
        have HL : Hid (n + 1 = (splitNl X).length) := by show _ = _; rw [HN.out, List.length_append, ← HD.out]; rfl
        clear fin
        have hsz := hbel.size
        by_cases hce : cap = f
        · have H5 := HF.out _ (H4.out hce (some ⟨b, off, none⟩))
          obtain rfl : i = f := by omega
          clear H3 H4 HF
          subst hce
          go_wp2_with (at_builtin; refine run.wpList_append_any _ rfl _ _ 36 rfl w.heap.size 32 ir (.slice none 0 0) 1 24 Try.underlying36 hir hr0 hr1 hr2 rfl (by decide) _ _ _ rfl (hown.alloc _) _ 1 [.slice (some ⟨b, off, none⟩) 0 0] rfl (run.readsN_new wr [.slice (some ⟨b, off, none⟩) 0 0] 1 1 _ rfl) (by intro u hu; simp only [List.mem_singleton] at hu; subst hu; rfl) (by unfold maxLen; omega) (by omega) (by simp; omega) ?_)
          intro v' w3 hown3 hgrow hold hstep
          have hbel3 := run.below_append (hbel.alloc hsz _) (hown.alloc _) hgrow (by simp; omega)
          clear hown hgrow hold hstep
          go_wp2
          go_ret
          exact ⟨_, _, rfl, by rw [← HL.out]; exact hown3, H5, hbel3⟩
        · have H5 := HF.out _ H3.out
          clear H3 H4 HF
          go_wp2_with (at_builtin; refine run.wpList_append_any _ rfl _ _ 36 rfl w.heap.size 32 ir (.slice none 0 0) 1 24 Try.underlying36 hir hr0 hr1 hr2 rfl (by decide) _ _ _ rfl (hown.alloc _) _ 1 [.slice (some ⟨b, off + f * 2, none⟩) (i - f) (cap - f)] rfl (run.readsN_new wr [.slice (some ⟨b, off + f * 2, none⟩) (i - f) (cap - f)] 1 1 _ rfl) (by intro u hu; simp only [List.mem_singleton] at hu; subst hu; rfl) (by unfold maxLen; omega) (by omega) (by simp; omega) ?_)
          intro v' w3 hown3 hgrow hold hstep
          have hbel3 := run.below_append (hbel.alloc hsz _) (hown.alloc _) hgrow (by simp; omega)
          clear hown hgrow hold hstep
          go_wp2
          go_ret
          exact ⟨_, _, rfl, by rw [← HL.out]; exact hown3, H5, hbel3⟩

end Go.Proofs.Ytmjmmoecplndmaa.wrp
