/-
  What was told stays told, and is memory of its own: the walk of 'fresh'.
-/
import Derived.Test.YtgjlhjnkcgdopaaUtfStep
import Derived.Test.YtgjlhjnkcgdopaaUtfLawRunes
import Derived.Lib.QuietBelow
namespace Go.Proofs.Ytgjlhjnkcgdopaa.utf
open Go.RowKit Go.Proofs
set_option linter.unusedVariables false

def td0 : Tld := (.slice none 0 0, [])
theorem getD_mem_tld {L : List Tld} {i : Nat} (h : i < L.length) : L.getD i td0 ∈ L := by
  rw [List.getD_eq_getElem?_getD, List.getElem?_eq_getElem h]
  exact List.getElem_mem _
theorem map_get {L : List Tld} {i : Nat} (h : i < L.length) : (L.map (·.1))[i]? = some (L.getD i td0).1 := by
  rw [List.getElem?_map, List.getD_eq_getElem?_getD, List.getElem?_eq_getElem h]
  rfl
theorem each_far {L : List Tld} (h : Each L) {i j : Nat} (hi : i < L.length) (hj : j < L.length) (hne : i ≠ j) : Far (L.getD i td0).1 (L.getD j td0).1 := by
  have e1 : L.getD i td0 = L[i] := by rw [List.getD_eq_getElem?_getD, List.getElem?_eq_getElem hi]; rfl
  have e2 : L.getD j td0 = L[j] := by rw [List.getD_eq_getElem?_getD, List.getElem?_eq_getElem hj]; rfl
  rw [e1, e2]
  rcases Nat.lt_or_gt_of_ne hne with h1 | h1
  · exact List.pairwise_iff_getElem.1 h i j hi hj h1
  · exact (List.pairwise_iff_getElem.1 h j i hj hi h1).symm
theorem alike_get {L M : List Tld} (h : Alike2 L M) {i : Nat} (hi : i < L.length) : (M.getD i td0).2 = (L.getD i td0).2 := by
  have hl := h.len
  have e := congrArg (fun l => l[i]?) h
  simp only [List.getElem?_map] at e
  rw [List.getElem?_eq_getElem hi, List.getElem?_eq_getElem (by omega)] at e
  rw [List.getD_eq_getElem?_getD, List.getD_eq_getElem?_getD, List.getElem?_eq_getElem hi, List.getElem?_eq_getElem (by omega)]
  simpa using e.symm

/-- rows of characters, one for each number below N, none in another's block -/
def Rck (B N : Nat) (V : Nat → Value) (n : Nat → Nat) (X : Nat → List Value) (w : World) : Prop := ∀ j, j < N → w.ownsRow B 21 1 (V j) (n j) (X j)
def FarN (N : Nat) (V : Nat → Value) : Prop := ∀ i j, i < N → j < N → i ≠ j → Far (V i) (V j)
theorem kept_far {w w' : World} {B e sz n : Nat} {v u : Value} {xs : List Value} (h : w.ownsRow B e sz v n xs) (hg : w.grownBy w' u.ownBlock) (hf : Far v u) : w'.ownsRow B e sz v n xs := h.kept hg hf.ne
theorem Rck.put {B N : Nat} {V : Nat → Value} {n : Nat → Nat} {X X' : Nat → List Value} {w w' : World} {i : Nat} (h : Rck B N V n X w) (ha : FarN N V) (hi : i < N) (hg : w.grownBy w' (V i).ownBlock) (hx : w'.ownsRow B 21 1 (V i) (n i) (X' i)) (hX : ∀ j, j ≠ i → X' j = X j) : Rck B N V n X' w' := by
  intro j hj
  by_cases e : j = i
  · subst e; exact hx
  · rw [hX j e]
    exact kept_far (h j hj) hg (ha j i hj hi e)
theorem Rck.keep {B N : Nat} {V : Nat → Value} {n : Nat → Nat} {X : Nat → List Value} {w w' : World} (h : Rck B N V n X w) (hk : ∀ v m xs, w.ownsRow B 21 1 v m xs → w'.ownsRow B 21 1 v m xs) : Rck B N V n X w' := fun j hj => hk _ _ _ (h j hj)
/-- the first i are marked -/
def mk1 (n : Nat → Nat) (X : Nat → List Value) (i : Nat) : Nat → List Value := fun j => if j < i then reps (n j) (10 + (j : Int)) else X j
theorem mk1_next {n : Nat → Nat} {X : Nat → List Value} {i : Nat} : mk1 n X (i + 1) i = reps (n i) (10 + (i : Int)) ∧ ∀ j, j ≠ i → mk1 n X (i + 1) j = mk1 n X i j := by
  unfold mk1
  refine ⟨by rw [if_pos (Nat.lt_succ_self i)], fun j hj => ?_⟩
  by_cases h : j < i
  · rw [if_pos h, if_pos (by omega)]
  · rw [if_neg h, if_neg (by omega)]

/-- rows gone on with: each with its seventy marks behind it -/
structure More1 (B N : Nat) (V : Nat → Value) (n : Nat → Nat) (X : Nat → List Value) (i : Nat) (Gs : List Value) (w : World) : Prop where
  len : Gs.length = i
  rack : Rck B N V n X w
  own : ∀ j, j < i → w.ownsRow B 21 1 (Gs.getD j (.slice none 0 0)) (n j + 70) (X j ++ reps 70 (-10 - (j : Int)))
  apart : ∀ j j', j < i → j' < N → j ≠ j' → Far (Gs.getD j (.slice none 0 0)) (V j')
theorem More1.start {B N : Nat} {V : Nat → Value} {n : Nat → Nat} {X : Nat → List Value} {w : World} (h : Rck B N V n X w) : More1 B N V n X 0 [] w :=
  ⟨rfl, h, fun j hj => by omega, fun j j' hj => by omega⟩
theorem More1.keep {B N : Nat} {V : Nat → Value} {n : Nat → Nat} {X : Nat → List Value} {i : Nat} {Gs : List Value} {w w' : World} (h : More1 B N V n X i Gs w) (hk : ∀ v m xs, w.ownsRow B 21 1 v m xs → w'.ownsRow B 21 1 v m xs) : More1 B N V n X i Gs w' :=
  ⟨h.len, h.rack.keep hk, fun j hj => hk _ _ _ (h.own j hj), h.apart⟩
theorem More1.next {B N : Nat} {V : Nat → Value} {n : Nat → Nat} {X : Nat → List Value} {i : Nat} {Gs : List Value} {w w1 : World} {g : Value} (h : More1 B N V n X i Gs w) (ha : FarN N V) (hi : i < N)
    (hg : run.Grow B 21 1 w (V i) (n i) (X i) g (n i + 70) (reps 70 (-10 - (i : Int))) w1) : More1 B N V n X (i + 1) (Gs ++ [g]) w1 := by
  have hold : ∀ j, j < i → (Gs ++ [g]).getD j (.slice none 0 0) = Gs.getD j (.slice none 0 0) := fun j hj => by
    simp only [List.getD_eq_getElem?_getD]; rw [List.getElem?_append_left (by rw [h.len]; exact hj)]
  have hnew : (Gs ++ [g]).getD i (.slice none 0 0) = g := by
    simp only [List.getD_eq_getElem?_getD]; rw [List.getElem?_append_right (by rw [h.len]; exact Nat.le_refl _), h.len]; simp
  have hgV : ∀ j', j' < N → i ≠ j' → Far g (V j') := by
    intro j' hj' hne k hk hk'
    rcases hg.step with ⟨b, c, e1, e2⟩ | hs
    · have e3 : (V i).ownBlock = g.ownBlock := by rw [e1, e2]; rfl
      exact ha i j' hi hj' hne k (e3.trans hk) hk'
    · have h1 := hs k hk
      have h2 := ((h.rack j' hj').lt k hk').2
      omega
  refine ⟨by simp [h.len], ?_, ?_, ?_⟩
  · intro j hj
    by_cases e : j = i
    · subst e; exact hg.old
    · exact kept_far (h.rack j hj) hg.grown (ha j i hj hi e)
  · intro j hj
    by_cases e : j = i
    · subst e; rw [hnew]; exact hg.new
    · rw [hold j (by omega)]
      exact kept_far (h.own j (by omega)) hg.grown (h.apart j i (by omega) hi e)
  · intro j j' hj hj' hne
    by_cases e : j = i
    · subst e; rw [hnew]; exact hgV j' hj' hne
    · rw [hold j (by omega)]; exact h.apart j j' (by omega) hj' hne

/-- what fresh asks of its pair -/
structure Frs (A : Nat) (p r t m : Value) (N : Nat) (VL VM : List Value) (B : Nat) (w : World) : Prop where
  box : w.heap[A]? = some (.cells #[p, r, t, m] 45 (0, 0))
  told : w.ownsRow B 22 1 t N VL
  want : w.ownsRow B 22 1 m N VM
theorem Frs.grown {A : Nat} {p r t m : Value} {N : Nat} {VL VM : List Value} {B : Nat} {w w' : World} (h : Frs A p r t m N VL VM B w) {g : Option Nat} (hg : w.grownBy w' g) (hr : ∀ k, g = some k → k < w.heap.size → ∃ c, w.heap[k]? = some (.cells c 21 (0, 0))) : Frs A p r t m N VL VM B w' := by
  have hk : ∀ {k : Nat} {c : Array Value} {ty : TypeId}, w.heap[k]? = some (.cells c ty (0, 0)) → ty ≠ 21 → w'.heap[k]? = w.heap[k]? := fun {k c ty} hc hne => hg.block k (lt_of_block hc) fun e => by
    obtain ⟨c2, h2⟩ := hr k e.symm (lt_of_block hc)
    exact ne_type hc h2 hne rfl
  exact ⟨(hk h.box (by decide)).trans h.box, own_keep h.told fun k e => by obtain ⟨c, hc⟩ := own_type h.told e; exact hk hc (by decide), own_keep h.want fun k e => by obtain ⟨c, hc⟩ := own_type h.want e; exact hk hc (by decide)⟩
theorem Frs.below {A : Nat} {p r t m : Value} {N : Nat} {VL VM : List Value} {B : Nat} {w w' : World} (h : Frs A p r t m N VL VM B w) (hb : Below w.heap.size w w') : Frs A p r t m N VL VM B w' :=
  ⟨(hb.block A (lt_of_block h.box)).trans h.box, run.own_below h.told hb, run.own_below h.want hb⟩
theorem Frs.more {A : Nat} {p r t m : Value} {N : Nat} {VL VM : List Value} {B n0 : Nat} {w w' : World} (h : Frs A p r t m N VL VM B w) {g : Option Nat} (hg : w.grownBy w' g) (hr : ∀ k, g = some k → k < w.heap.size → n0 ≤ k ∧ ∃ c, w.heap[k]? = some (.cells c 22 (0, 0))) (ht : ∀ k, t.ownBlock = some k → k < n0) (hm : ∀ k, m.ownBlock = some k → k < n0) : Frs A p r t m N VL VM B w' := by
  refine ⟨(hg.block A (lt_of_block h.box) fun e => ?_).trans h.box, own_keep h.told fun k e => hg.block k (h.told.lt k e).2 fun e2 => ?_, own_keep h.want fun k e => hg.block k (h.want.lt k e).2 fun e2 => ?_⟩
  · obtain ⟨-, c2, h2⟩ := hr A e.symm (lt_of_block h.box)
    exact ne_type h.box h2 (by decide) rfl
  · have h1 := (hr k e2.symm (h.told.lt k e).2).1
    have h2 := ht k e
    omega
  · have h1 := (hr k e2.symm (h.want.lt k e).2).1
    have h2 := hm k e
    omega
theorem own_row_type {w : World} {B n : Nat} {v : Value} {xs : List Value} (h : w.ownsRow B 21 1 v n xs) : ∀ k, v.ownBlock = some k → k < w.heap.size → ∃ c, w.heap[k]? = some (.cells c 21 (0, 0)) := fun k hk _ => own_type h hk

set_option maxRecDepth 100000 in
set_option maxHeartbeats 4000000 in
theorem fresh_any {A P R : Nat} {t m : Value} {hp hr : List Nat} {L M : List Tld} {B : Nat} {w : World} (h : Duo A P R t m hp hr L M B w) (hA : Alike2 L M) (hL : L.length ≤ 268435456) (hl : ∀ q ∈ L, q.2.length ≤ 268435456) :
    Calls Try.prog 25 #[.pointer (some ⟨A, 0, none⟩)] w fun e w' => e = .returned (.bool true) ∧ Chg (fun k => ∃ q ∈ L, q.1.ownBlock = some k) w w' := by
  obtain ⟨ir, hir, hrz0, hrz1, hrz2⟩ := info_parts info_slices
  obtain ⟨N, hN⟩ : ∃ N, N = L.length := ⟨_, rfl⟩
  have hML := hA.len
  have hF0 : Frs A (.pointer (some ⟨P, 0, none⟩)) (.pointer (some ⟨R, 0, none⟩)) t m N (L.map (·.1)) (M.map (·.1)) B w := ⟨h.box, by rw [hN]; exact h.told, by rw [hN, ← hML]; exact h.want⟩
  have HF0 := run.hid hF0
  have HV := run.hid (fun i (hi : i < N) => map_get (L := L) (i := i) (by omega))
  have HVM := run.hid (fun i (hi : i < N) => map_get (L := M) (i := i) (by omega))
  have HB := run.hid (Nat.le_trans h.loA (Nat.le_of_lt (lt_of_block h.box)))
  have HR0 : Hid (Rck B N (fun i => (L.getD i td0).1) (fun i => (L.getD i td0).2.length) (fun i => rv (L.getD i td0).2) w) := fun j hj => h.rowsL _ (getD_mem_tld (by omega))
  have HRM : Hid (Rck B N (fun i => (M.getD i td0).1) (fun i => (L.getD i td0).2.length) (fun i => rv (L.getD i td0).2) w) := fun j hj => by
    have e := alike_get hA (i := j) (by omega)
    have h1 := h.rowsM _ (getD_mem_tld (L := M) (i := j) (by omega))
    rw [e] at h1
    exact h1
  have HFN : Hid (FarN N (fun i => (L.getD i td0).1)) := fun i j hi hj hne => each_far h.apL (by omega) (by omega) hne
  have HLN : Hid (∀ i, i < N → (L.getD i td0).2.length ≤ 268435456) := fun i hi => hl _ (getD_mem_tld (by omega))
  have HS : Hid (∀ i, i < N → ∀ k, (L.getD i td0).1.ownBlock = some k → ∃ q ∈ L, q.1.ownBlock = some k) := fun i hi k hk => ⟨_, getD_mem_tld (by omega), hk⟩
  have hNl : N ≤ 268435456 := by omega
  obtain ⟨S, hSe⟩ : ∃ S : Nat → Prop, S = fun k => ∃ q ∈ L, q.1.ownBlock = some k := ⟨_, rfl⟩
  have HSE := run.hid hSe
  have HS2 : Hid (∀ i, i < N → ∀ k, (L.getD i td0).1.ownBlock = some k → S k) := fun i hi k hk => by rw [hSe]; exact HS.out i hi k hk
  rw [← hSe]
  clear hSe HS hF0 h hA hl hL hML HSE
  obtain ⟨VL, hVL⟩ : ∃ VL, VL = L.map (·.1) := ⟨_, rfl⟩
  obtain ⟨VM, hVM⟩ : ∃ VM, VM = M.map (·.1) := ⟨_, rfl⟩
  rw [← hVL] at HF0 HV
  rw [← hVM] at HF0 HVM
  obtain ⟨V, hV⟩ : ∃ V : Nat → Value, V = fun i => (L.getD i td0).1 := ⟨_, rfl⟩
  obtain ⟨n, hn⟩ : ∃ n : Nat → Nat, n = fun i => (L.getD i td0).2.length := ⟨_, rfl⟩
  obtain ⟨X, hX⟩ : ∃ X : Nat → List Int, X = fun i => (L.getD i td0).2 := ⟨_, rfl⟩
  obtain ⟨U, hU⟩ : ∃ U : Nat → Value, U = fun i => (M.getD i td0).1 := ⟨_, rfl⟩
  have hnX : ∀ i, (X i).length = n i := fun i => by rw [hX, hn]
  have HV' : Hid (∀ i, i < N → VL[i]? = some (V i)) := fun i hi => by rw [hV]; exact HV.out i hi
  have HVM' : Hid (∀ i, i < N → VM[i]? = some (U i)) := fun i hi => by rw [hU]; exact HVM.out i hi
  have HR0' : Hid (Rck B N V n (fun i => rv (X i)) w) := by rw [hV, hn, hX]; exact HR0.out
  have HRM' : Hid (Rck B N U n (fun i => rv (X i)) w) := by rw [hU, hn, hX]; exact HRM.out
  have HFN' : Hid (FarN N V) := by rw [hV]; exact HFN.out
  have HLN' : Hid (∀ i, i < N → n i ≤ 268435456) := by rw [hn]; exact HLN.out
  have HS' : Hid (∀ i, i < N → ∀ k, (V i).ownBlock = some k → S k) := by rw [hV]; exact HS2.out
  have HNX := run.hid hnX
  clear HV HVM HR0 HRM HFN HLN HS2 hV hn hX hU hVL hVM hnX hN
  have HTL0 := run.hid (fun k hk => (HF0.out.told.lt k hk).2)
  have HML0 := run.hid (fun k hk => (HF0.out.want.lt k hk).2)
  obtain ⟨at0, ct0, rfl⟩ := run.own_value HF0.out.told
  obtain ⟨am0, cm0, rfl⟩ := run.own_value HF0.out.want
  have hb0 := box_cells4 HF0.out.box
  go_enter Try.func25, Try.ntmps25
  go_wp2
  clear hb0
  go_loopw [3] (fun vi wr => ∃ i : Nat, i ≤ N ∧ vi = .int .i64 i ∧ Below w.heap.size w wr) (fun vi _ => (N - intOf vi).toNat)
  case atStart => exact ⟨0, by omega, rfl, Below.refl _ _⟩
  case round =>
    obtain ⟨i, hiN, rfl, hbel⟩ := hrel
    have hz := hbel.size
    have F := HF0.out.below hbel
    obtain ⟨a0, a1', a2', a3, f2, f3⟩ := box_cells4 F.box
    by_cases hil : i < N
    · obtain ⟨gt, rfl⟩ : ∃ g, at0 = some ⟨g, 0, none⟩ := by
        rcases F.told.2 with ⟨-, h0⟩ | ⟨g, cap, cur, e, -⟩
        · omega
        · simp only [Value.slice.injEq] at e; exact ⟨g, e.1⟩
      obtain ⟨gm, rfl⟩ : ∃ g, am0 = some ⟨g, 0, none⟩ := by
        rcases F.want.2 with ⟨-, h0⟩ | ⟨g, cap, cur, e, -⟩
        · omega
        · simp only [Value.slice.injEq] at e; exact ⟨g, e.1⟩
      have c1 := F.told.cellAt i (by omega)
      have c2 := F.want.cellAt i (by omega)
      rw [HV'.out i hil] at c1
      rw [HVM'.out i hil] at c2
      have r1 := run.own_below (HR0'.out i hil) hbel
      have r2 := run.own_below (HRM'.out i hil) hbel
      have HW : Hid (∀ d os, Calls Try.prog 9 #[V i, U i] (Sort.grow (redrawn wr d) os) fun e w'' => e = .returned (.bool true) ∧ ∃ p : Regrown, w'' = Sort.grow (redrawn wr p.d) p.os) := fun d os =>
        Calls.regrown_of (refSame_eq _ _ (X i) (Sort.grow (redrawn wr d) os) ((run.reads_own r1).below (below_regrown wr d os)) ((run.reads_own r2).below (below_regrown wr d os)) (by have := HNX.out i; have := HLN'.out i hil; omega))
      have q2 := fun d os => cell_regrown a2' d os
      have q3 := fun d os => cell_regrown a3 d os
      have p1 := fun d os => cell_regrown c1 d os
      have p2 := fun d os => cell_regrown c2 d os
      have HD : Hid (∀ dq osq, Below w.heap.size w (Sort.grow (redrawn wr dq) osq)) := fun dq osq => hbel.trans ((below_regrown wr dq osq).mono hz)
      go_upto_region 4 with fail
      clear a0 a1' f2 f3 F c1 c2 r1 r2 hbel a2' a3
      refine wp_region_quiet_below (by kernel_rfl) (by kernel_rfl) ?_
      repeat (quiet_step (exact HW.out _ _))
      refine wpQuiet_nil ?_
      intro _ hw'
      obtain ⟨⟨dq, osq⟩, hw''⟩ := hw'
      subst hw''
      go_wp2
      go_roundw
      case rel => exact ⟨i + 1, by omega, by go_num, HD.out _ _⟩
      case measure => simp [intOf]; omega
    · obtain rfl : i = N := by omega
      clear a0 a1' f2 f3 a2' a3 hil
      have HB1 := run.hid hbel
      have HR1 : Hid (Rck B i V n (mk1 n (fun i => rv (X i)) 0) wr) := HR0'.out.keep (fun v m xs ho => run.own_below ho hbel)
      have HF1 := run.hid F
      have HC1 : Hid (Chg S w wr) := chg_below hbel
      have hBw : B ≤ wr.heap.size := Nat.le_trans HB.out hz
      clear HR0' HRM' HF0 hbel F HVM'
      have hb0 := box_cells4 HF1.out.box
      go_wp2
      generalize wr = wa at *
      clear hb0
      obtain ⟨N, rfl⟩ : ∃ N, N = i := ⟨_, rfl⟩
      go_loopw [4] (fun vi wr => ∃ i : Nat, i ≤ N ∧ vi = .int .i64 i ∧ Hid (Frs A (.pointer (some ⟨P, 0, none⟩)) (.pointer (some ⟨R, 0, none⟩)) (.slice at0 N ct0) (.slice am0 N cm0) N VL VM B wr) ∧ Hid (Rck B N V n (mk1 n (fun i => rv (X i)) i) wr) ∧ Hid (Chg S w wr) ∧ B ≤ wr.heap.size) (fun vi _ => (N - intOf vi).toNat)
      case atStart => exact ⟨0, by omega, rfl, HF1, HR1, HC1, hBw⟩
      case round =>
        clear HF1 HR1 HC1 hBw HB1
        obtain ⟨i, hiN, rfl, F, RK, C, hBw⟩ := hrel
        obtain ⟨a0, a1', a2', a3, f2, f3⟩ := box_cells4 F.out.box
        by_cases hil : i < N
        · obtain ⟨gt, rfl⟩ : ∃ g, at0 = some ⟨g, 0, none⟩ := by
            rcases F.out.told.2 with ⟨-, h0⟩ | ⟨g, cap, cur, e, -⟩
            · omega
            · simp only [Value.slice.injEq] at e; exact ⟨g, e.1⟩
          have c1 := F.out.told.cellAt i (by omega)
          rw [HV'.out i hil] at c1
          have ro := RK.out i hil
          have hlb := HLN'.out i hil
          have HM := run.hid (mark_any B (V i) (n i) _ (10 + (i : Int)) wr ro (by omega))
          have HNXT := run.hid (mk1_next (n := n) (X := fun i => rv (X i)) (i := i))
          have hSi := run.hid (HS'.out i hil)
          have hTY := run.hid (own_row_type ro)
          obtain ⟨av, cv, hve⟩ := run.own_value ro
          clear ro a0 a1' f2 f3 a3
          rw [hve] at c1 HM
          have hcv : IntKind.i32.wrap (10 + (i : Int)) = 10 + (i : Int) := IntWalk.i32_in _ (by omega)
          go_wp2_with fail
          refine HM.out.mono ?_
          rintro e w2 ⟨rfl, hm, hg⟩
          rw [← hve] at hm hg
          have hF2 := run.hid (F.out.grown hg hTY.out)
          have hR2 : Hid (Rck B N V n (mk1 n (fun i => rv (X i)) (i + 1)) w2) := RK.out.put HFN'.out hil hg (by rw [HNXT.out.1]; exact hm) HNXT.out.2
          have hC2 := run.hid (C.out.trans (chg_grown (S := S) hg (fun k hk _ => hSi.out k hk)) (fun k _ h => h))
          have hB2 := Nat.le_trans hBw hg.size
          clear hm hg F RK C HM c1 a2' hTY
          go_wp2
          go_roundw
          case rel => exact ⟨i + 1, by omega, by go_num, hF2, hR2, hC2, hB2⟩
          case measure => simp [intOf]; omega
        · obtain rfl : i = N := by omega
          clear a0 a1' f2 f3 a2' a3 hil
          have hb0 := box_cells4 F.out.box
          go_wp2
          generalize wr = wb at *
          clear hb0
          obtain ⟨N, rfl⟩ : ∃ N, N = i := ⟨_, rfl⟩
          have HRK : Hid (Rck B N V n (fun j => reps (n j) (10 + (j : Int))) wb) := fun j hj => by
            have h1 := RK.out j hj
            unfold mk1 at h1
            rw [if_pos hj] at h1
            exact h1
          clear RK
          go_loopw [5, 6] (fun vm vi wr => ∃ i : Nat, ∃ Gs : List Value, i ≤ N ∧ vi = .int .i64 i ∧ Hid (Frs A (.pointer (some ⟨P, 0, none⟩)) (.pointer (some ⟨R, 0, none⟩)) (.slice at0 N ct0) (.slice am0 N cm0) N VL VM B wr) ∧ Hid (More1 B N V n (fun j => reps (n j) (10 + (j : Int))) i Gs wr) ∧ Hid (wr.ownsRow w.heap.size 22 1 vm i Gs) ∧ Hid (Chg S w wr) ∧ B ≤ wr.heap.size ∧ w.heap.size ≤ wr.heap.size) (fun _ vi _ => (N - intOf vi).toNat)
          case atStart => exact ⟨0, [], by omega, rfl, F, More1.start HRK.out, World.ownsRow_nil _ _ _ _, C, hBw, C.out.size⟩
          case round =>
            clear F HRK C hBw
            obtain ⟨i, Gs, hiN, rfl, F, MR, OM, C, hBw, hww⟩ := hrel
            obtain ⟨a0, a1', a2', a3, f2, f3⟩ := box_cells4 F.out.box
            by_cases hil : i < N
            · obtain ⟨gt, rfl⟩ : ∃ g, at0 = some ⟨g, 0, none⟩ := by
                rcases F.out.told.2 with ⟨-, h0⟩ | ⟨g, cap, cur, e, -⟩
                · omega
                · simp only [Value.slice.injEq] at e; exact ⟨g, e.1⟩
              have c1 := F.out.told.cellAt i (by omega)
              rw [HV'.out i hil] at c1
              have ro := MR.out.rack i hil
              have hlb := HLN'.out i hil
              have HM := run.hid (grow_any B (V i) (n i) _ (-10 - (i : Int)) wr ro (by omega) hBw)
              have hSi := run.hid (HS'.out i hil)
              have hTY := run.hid (own_row_type ro)
              obtain ⟨av, cv, hve⟩ := run.own_value ro
              clear ro a0 a1' f2 f3 a3
              rw [hve] at c1 HM
              have hcv : IntKind.i32.wrap (-10 - (i : Int)) = -10 - (i : Int) := IntWalk.i32_in _ (by omega)
              go_wp2_with fail
              refine HM.out.mono ?_
              rintro e w2 ⟨vg, rfl, hG⟩
              rw [← hve] at hG
              obtain ⟨ag, cg, rfl⟩ := run.own_value hG.new
              have hF2 := run.hid (F.out.grown hG.grown hTY.out)
              have hM2 := run.hid (MR.out.next HFN'.out hil hG)
              have hC2 := run.hid (C.out.trans (chg_grown (S := S) hG.grown (fun k hk _ => hSi.out k hk)) (fun k _ h => h))
              have hB2 := Nat.le_trans hBw hG.grown.size
              have hw2 := Nat.le_trans hww hG.grown.size
              have hO2 := run.hid (own_keep OM.out (fun k hk => hG.grown.block k (OM.out.lt k hk).2 (fun e => by
                obtain ⟨c, hc⟩ := own_type OM.out hk
                obtain ⟨c', hc'⟩ := hTY.out k e.symm (OM.out.lt k hk).2
                exact ne_type hc hc' (by decide) rfl)))
              clear F MR OM C HM c1 a2' hTY hG
              have hO3 := run.hid (hO2.out.alloc (.cells #[.slice ag (n i + 70) cg] 22))
              go_wp2_with (at_builtin; refine run.wpList_append_any _ rfl _ (.tmp 74) 43 rfl w.heap.size 22 ir (.slice none 0 0) 1 24 Try.underlying43 hir hrz0 hrz1 hrz2 rfl (by decide) _ i _ rfl hO3.out _ 1 [.slice ag (n i + 70) cg] rfl (run.readsN_new w2 [.slice ag (n i + 70) cg] 1 1 _ rfl) (by intro u hu; simp at hu; subst hu; rfl) (by unfold maxLen; omega) (by omega) (by simp; omega) ?_)
              intro vm3 w3 hown3 hgrow3 _ _
              have hrow : ∀ k, u5.ownBlock = some k → k < (w2.alloc (.cells #[.slice ag (n i + 70) cg] 22)).heap.size → w.heap.size ≤ k ∧ ∃ c, (w2.alloc (.cells #[.slice ag (n i + 70) cg] 22)).heap[k]? = some (.cells c 22 (0, 0)) := fun k hk _ => ⟨(hO3.out.lt k hk).1, own_type hO3.out hk⟩
              have hF3 := run.hid ((hF2.out.below (run.below_one w2 (.cells #[.slice ag (n i + 70) cg] 22))).more hgrow3 hrow HTL0.out HML0.out)
              have hM3 := run.hid ((hM2.out.keep (fun v m xs ho => ho.alloc (.cells #[.slice ag (n i + 70) cg] 22))).keep (fun v m xs ho => own_keep ho fun k hk => hgrow3.block k (ho.lt k hk).2 (fun e => by
                obtain ⟨c, hc⟩ := own_type ho hk
                obtain ⟨-, c', hc'⟩ := hrow k e.symm (ho.lt k hk).2
                exact ne_type hc hc' (by decide) rfl)))
              have hC3 := run.hid ((hC2.out.trans (chg_below (S := S) (run.below_one w2 (.cells #[.slice ag (n i + 70) cg] 22))) (fun k _ h => h)).trans (chg_grown (S := fun k => w.heap.size ≤ k) hgrow3 (fun k hk h2 => (hrow k hk h2).1)) (fun k h1 h2 => by have h3 : w.heap.size ≤ k := h2; omega))
              have hO4 := run.hid hown3
              have hs3 := hgrow3.size
              have hB3 : B ≤ w3.heap.size := by simp at hs3; omega
              have hw3 : w.heap.size ≤ w3.heap.size := by simp at hs3; omega
              clear hrow hgrow3 hown3 hO3 hO2 hF2 hM2 hC2 hs3
              go_wp2
              go_roundw
              case rel => exact ⟨i + 1, _, by omega, by go_num, hF3, hM3, hO4, hC3, hB3, hw3⟩
              case measure => simp [intOf]; omega
            · obtain rfl : i = N := by omega
              clear a0 a1' f2 f3 a2' a3 hil
              have hb0 := box_cells4 F.out.box
              go_wp2
              generalize wr = wc at *
              clear hb0
              obtain ⟨N, rfl⟩ : ∃ N, N = i := ⟨_, rfl⟩
              go_loopw [7] (fun vi wr => ∃ i : Nat, i ≤ N ∧ vi = .int .i64 i ∧ Below wc.heap.size wc wr) (fun vi _ => (N - intOf vi).toNat)
              case atStart => exact ⟨0, by omega, rfl, Below.refl _ _⟩
              case round =>
                obtain ⟨i, hiN, rfl, hbel⟩ := hrel
                have hz := hbel.size
                have F2 := F.out.below hbel
                obtain ⟨a0, a1', a2', a3, f2, f3⟩ := box_cells4 F2.box
                by_cases hil : i < N
                · obtain ⟨gt, rfl⟩ : ∃ g, at0 = some ⟨g, 0, none⟩ := by
                    rcases F2.told.2 with ⟨-, h0⟩ | ⟨g, cap, cur, e, -⟩
                    · omega
                    · simp only [Value.slice.injEq] at e; exact ⟨g, e.1⟩
                  have OM2 := run.own_below OM.out hbel
                  obtain ⟨gm, cm, rfl⟩ : ∃ g c, u5 = .slice (some ⟨g, 0, none⟩) N c := by
                    rcases OM2.2 with ⟨-, h0⟩ | ⟨g, cap, cur, e, -⟩
                    · omega
                    · exact ⟨g, cap, e⟩
                  have c1 := F2.told.cellAt i (by omega)
                  rw [HV'.out i hil] at c1
                  have c2 := OM2.cellAt i (by omega)
                  have hGl := MR.out.len
                  have hGi : Gs[i]? = some (Gs.getD i (.slice none 0 0)) := by
                    rw [List.getD_eq_getElem?_getD, List.getElem?_eq_getElem (by omega)]; rfl
                  rw [hGi] at c2
                  have ro := run.own_below (MR.out.rack i hil) hbel
                  have rg := run.own_below (MR.out.own i hil) hbel
                  have hlb := HLN'.out i hil
                  obtain ⟨av, cv, hve⟩ := run.own_value ro
                  obtain ⟨gg, cg, hge, hcg1, hcg2, -⟩ := grow_shape rg (by omega)
                  rw [hve] at c1
                  rw [hge] at c2 rg
                  have rt := grow_tail (w := wr) (v := Value.nilIface) rg (by simp [reps])
                  have hcv : IntKind.i32.wrap (10 + (i : Int)) = 10 + (i : Int) := IntWalk.i32_in _ (by omega)
                  have hcw : IntKind.i32.wrap (-10 - (i : Int)) = -10 - (i : Int) := IntWalk.i32_in _ (by omega)
                  have e10 : IntKind.i32.wrap (IntKind.i64.wrap (10 + (i : Int))) = 10 + (i : Int) := by rw [IntWalk.i64_in _ (by omega)]; exact hcv
                  have e11 : IntKind.i32.wrap (IntKind.i64.wrap (-10 - (i : Int))) = -10 - (i : Int) := by rw [IntWalk.i64_in _ (by omega)]; exact hcw
                  have HW1 : Hid (∀ d os, Calls Try.prog 18 #[.slice av (n i) cv, .int .i32 (10 + (i : Int))] (Sort.grow (redrawn wr d) os) fun e w'' => e = .returned (.bool true) ∧ ∃ p : Regrown, w'' = Sort.grow (redrawn wr p.d) p.os) := fun d os => by
                    exact Calls.regrown_of (marked_any _ (n i) _ (Sort.grow (redrawn wr d) os) (by have h1 := (run.reads_own ro).below (below_regrown wr d os); rw [hve] at h1; exact h1) (by omega))
                  have HW2 : Hid (∀ d os, Calls Try.prog 18 #[.slice (some ⟨gg, n i, none⟩) 70 (cg - n i), .int .i32 (-10 - (i : Int))] (Sort.grow (redrawn wr d) os) fun e w'' => e = .returned (.bool true) ∧ ∃ p : Regrown, w'' = Sort.grow (redrawn wr p.d) p.os) := fun d os => by
                    exact Calls.regrown_of (marked_any _ 70 _ (Sort.grow (redrawn wr d) os) (rt.below (below_regrown wr d os)) (by omega))
                  have q2 := fun d os => cell_regrown a2' d os
                  have p1 := fun d os => cell_regrown c1 d os
                  have p2 := fun d os => cell_regrown c2 d os
                  have HD : Hid (∀ dq osq, Below wc.heap.size wc (Sort.grow (redrawn wr dq) osq)) := fun dq osq => hbel.trans ((below_regrown wr dq osq).mono hz)
                  have hn0 : (0 : Int) ≤ (n i : Int) := by omega
                  have hn1 : (n i : Int) ≤ (n i : Int) + 70 := by omega
                  have hn2 : n i < cg := by omega
                  have hn3 : ¬ cg = n i := by omega
                  go_upto_region 18 with fail
                  clear a0 a1' f2 f3 F2 c1 c2 ro rg rt hbel a2' a3 hve hge OM2 hGi
                  refine wp_region_quiet_below (by kernel_rfl) (by kernel_rfl) ?_
                  repeat (quiet_step (first | with_reducible exact HW1.out _ _ | with_reducible exact HW2.out _ _))
                  trace_state
                  refine wpQuiet_nil ?_
                  intro _ hw'
                  obtain ⟨⟨dq, osq⟩, hw''⟩ := hw'
                  subst hw''
                  go_wp2
                  go_roundw
                  case rel => exact ⟨i + 1, by omega, by go_num, HD.out _ _⟩
                  case measure => simp [intOf]; omega
                · obtain rfl : i = N := by omega
                  have HC := run.hid (C.out.trans (chg_below (S := S) hbel) (fun k _ h => h))
                  clear a0 a1' f2 f3 a3 F2
                  go_wp2
                  go_ret
                  exact ⟨rfl, HC.out⟩
end Go.Proofs.Ytgjlhjnkcgdopaa.utf
