/-
  The walk of the law WidthRanges.
-/
import Derived.Test.YtmgammodbpjnbaaWidRefRan
import Derived.ChangeKeysEq
namespace Go.Proofs.Ytmgammodbpjnbaa.wid
open Go.RowKit Go.Proofs
set_option linter.unusedVariables false

abbrev E2 : TypeId := 53
theorem own_kept {w w' : World} {B e sz n : Nat} {v : Value} {xs : List Value} {r : Option Nat} (h : w.ownsRow B e sz v n xs) (hg : w.grownBy w' r) (hr : ∀ k, v.ownBlock = some k → r ≠ some k) : w'.ownsRow B e sz v n xs := by
  refine h.kept hg ?_
  cases hv : v.ownBlock with
  | none => exact .inl rfl
  | some k => exact .inr fun e => hr k hv e.symm
theorem apart_base {w w' : World} {B B' e e' sz sz' n n' : Nat} {v v' : Value} {xs xs' : List Value} (h : w.ownsRow B e sz v n xs) (h' : w'.ownsRow B' e' sz' v' n' xs') (hs : w.heap.size ≤ B') : ∀ k, v'.ownBlock = some k → v.ownBlock ≠ some k := by
  intro k h1 h2
  have a1 := (h.lt k h2).2
  have a2 := (h'.lt k h1).1
  omega
def reps (n : Nat) (m : Int) : List (Int × Int) := List.replicate n (m, m)
theorem reps_len (n : Nat) (m : Int) : (reps n m).length = n := by simp [reps]
theorem reps_get {n k : Nat} {m : Int} (h : k < n) : (reps n m).getD k (0, 0) = (m, m) := by simp [reps, List.getD_eq_getElem?_getD, h]
theorem reps_add (n k : Nat) (m : Int) : reps n m ++ reps k m = reps (n + k) m := by simp [reps]

theorem arr_eqD (d : Nat) (x y : Int) (w : World) : (Op.equalIn (d + 2) 53 (.agg #[.int .i32 x, .int .i32 y]) (.agg #[.int .i32 x, .int .i32 y])).run Try.prog w = .ok true w := by
  obtain ⟨i, hi⟩ := Option.isSome_iff_exists.1 (show (Try.prog.info? 21).isSome = true by kernel_rfl)
  have hc : Try.prog.cellsOf 21 = 1 := by kernel_rfl
  rw [run_equalIn_array w (d + 1) _ _ Try.underlying53 hi, hc]
  have hA := Try.isAgg21
  have hp : ∀ (cs : Array Value) (off : Nat) (v : Value), cs[off]? = some v → (Go.part 21 cs off).run Try.prog w = .ok v w := by
    intro cs off v h
    unfold Go.part
    simp [hA, h, Result.andThen]
  have he : ∀ (x : Int), (Op.equalIn (d + 1) 21 (.int .i32 x) (.int .i32 x)).run Try.prog w = .ok true w := by
    intro x
    simp [Op.equalIn, run_underlying Try.underlying21, Result.andThen]
  have e2 : List.range 2 = [0, 1] := rfl
  rw [e2]
  simp only [Op.eqItems, Sem.run_bind, hp #[.int .i32 x, .int .i32 y] (0 * 1) (.int .i32 x) rfl, hp #[.int .i32 x, .int .i32 y] (1 * 1) (.int .i32 y) rfl, he, Result.andThen_ok, Bool.not_true, Bool.false_eq_true, if_false, Sem.run_pure]
theorem arr_eq (x y : Int) (w : World) : (Op.equalIn 10000 53 (.agg #[.int .i32 x, .int .i32 y]) (.agg #[.int .i32 x, .int .i32 y])).run Try.prog w = .ok true w := arr_eqD 9998 x y w

/-- what a stretch of a row reads as -/
theorem readsP {w : World} {v : Value} {n : Nat} {l : List (Int × Int)} (h : run.ReadsN 2 w v n (flat l)) {k : Nat} (hk : k < n) :
    ∃ b off c, v = .slice (some ⟨b, off, none⟩) n c ∧ b < w.heap.size ∧ ∀ k, k < n → w.cell? ⟨b, off + k * 2, none⟩ = some (.int .i32 (l.getD k (0, 0)).1) ∧ w.cell? ⟨b, off + k * 2 + 1, none⟩ = some (.int .i32 (l.getD k (0, 0)).2) := by
  obtain ⟨hl, a, c, rfl, hc, -⟩ := h
  rw [flat_len] at hl
  obtain ⟨b, off, rfl, hb, hcl⟩ := hc (by intro e; have := congrArg List.length e; rw [flat_len] at this; simp only [List.length_nil] at this; omega)
  refine ⟨b, off, c, rfl, hb, fun k hk => ?_⟩
  have h3 := flat_at l k (by omega)
  exact ⟨hcl _ _ h3.1, by rw [Nat.add_assoc]; exact hcl _ _ h3.2⟩

set_option maxRecDepth 100000 in
set_option maxHeartbeats 2000000 in
theorem same_eq (l : List (Int × Int)) (n : Nat) (va vb : Value) (w : World) (ha : run.ReadsN 2 w va n (flat l)) (hb : run.ReadsN 2 w vb n (flat l)) (hn : n ≤ 200) :
    Calls Try.prog 19 #[va, vb] w fun e w' => e = .returned (.bool true) ∧ Below w.heap.size w w' := by
  have HA := run.hid (fun k (hk : k < n) => readsP ha hk)
  have HB := run.hid (fun k (hk : k < n) => readsP hb hk)
  obtain ⟨-, a, ca, rfl, -⟩ := ha
  obtain ⟨-, b, cb, rfl, -⟩ := hb
  go_enter Try.func19, Try.ntmps19
  go_wp2
  go_loopw [13] (fun kv wr => ∃ k : Nat, k ≤ n ∧ kv = .int .i64 k ∧ Hid (Below w.heap.size w wr)) (fun v _ => n - (intOf v).toNat)
  case atStart => exact ⟨0, by omega, rfl, Below.refl _ _⟩
  case round =>
    obtain ⟨k, hk, rfl, HBr⟩ := hrel
    by_cases hlt : k < n
    · obtain ⟨b1, o1, c1, e1, hl1, hc1⟩ := HA.out k hlt
      obtain ⟨b2, o2, c2, e2, hl2, hc2⟩ := HB.out k hlt
      obtain ⟨p1, p2⟩ := hc1 k hlt
      obtain ⟨q1, q2⟩ := hc2 k hlt
      replace p1 := (HBr.out.cell (p := ⟨b1, o1 + k * 2, none⟩) hl1).trans p1
      replace p2 := (HBr.out.cell (p := ⟨b1, o1 + k * 2 + 1, none⟩) hl1).trans p2
      replace q1 := (HBr.out.cell (p := ⟨b2, o2 + k * 2, none⟩) hl2).trans q1
      replace q2 := (HBr.out.cell (p := ⟨b2, o2 + k * 2 + 1, none⟩) hl2).trans q2
      cases e1
      cases e2
      clear hc1 hc2 hl1 hl2
      generalize l.getD k (0, 0) = p at *
      obtain ⟨x, y⟩ := p
      simp only at p1 p2 q1 q2
      generalize wr = wq at *
      go_upto_region 6 with fail
      have harr := arr_eq x y
      go_quiet (fail)
      have HBy := run.hid (HBr.out.trans (show Below w.heap.size wq (wq.drewN nq) from ⟨rfl, rfl, rfl, Nat.le_refl _, fun _ _ => rfl⟩))
      clear p1 p2 q1 q2 HBr
      go_wp2
      go_roundw
      case rel => exact ⟨k + 1, by omega, by go_num, HBy⟩
      case measure => simp [intOf]; omega
    · obtain rfl : k = n := by omega
      go_wp2
      go_ret
      exact ⟨rfl, HBr.out⟩

set_option maxRecDepth 100000 in
set_option maxHeartbeats 2000000 in
theorem marked_any (m : Int) (n : Nat) (v : Value) (w : World) (h : run.ReadsN 2 w v n (flat (reps n m))) (hn : n ≤ 200) :
    Calls Try.prog 23 #[v, .int .i32 m] w fun e w' => e = .returned (.bool true) ∧ Below w.heap.size w w' := by
  have HA := run.hid (fun k (hk : k < n) => readsP h hk)
  obtain ⟨-, a, ca, rfl, -⟩ := h
  go_enter Try.func23, Try.ntmps23
  go_wp2
  go_loopw [8] (fun kv wr => ∃ k : Nat, k ≤ n ∧ kv = .int .i64 k ∧ Hid (Below w.heap.size w wr)) (fun v _ => n - (intOf v).toNat)
  case atStart => exact ⟨0, by omega, rfl, Below.refl _ _⟩
  case round =>
    obtain ⟨k, hk, rfl, HBr⟩ := hrel
    by_cases hlt : k < n
    · obtain ⟨b1, o1, c1, e1, hl1, hc1⟩ := HA.out k hlt
      obtain ⟨p1, p2⟩ := hc1 k hlt
      replace p1 := (HBr.out.cell (p := ⟨b1, o1 + k * 2, none⟩) hl1).trans p1
      replace p2 := (HBr.out.cell (p := ⟨b1, o1 + k * 2 + 1, none⟩) hl1).trans p2
      cases e1
      rw [reps_get hlt] at p1 p2
      have harr := arr_eq m m
      clear hc1 hl1
      go_wp2
      go_roundw
      case rel => exact ⟨k + 1, by omega, by go_num, HBr⟩
      case measure => simp [intOf]; omega
    · obtain rfl : k = n := by omega
      go_wp2
      go_ret
      exact ⟨rfl, HBr.out⟩

set_option maxRecDepth 100000 in
set_option maxHeartbeats 2000000 in
theorem spoil_any (m : Int) (B n : Nat) (v : Value) (l : List (Int × Int)) (w : World) (h : w.ownsRow B E2 2 v n (flat l)) (hn : n ≤ 200) :
    Calls Try.prog 21 #[v, .int .i32 m] w fun e w' => e = .returned (.tuple #[]) ∧ w'.ownsRow B E2 2 v n (flat (reps n m)) ∧ w.grownBy w' v.ownBlock := by
  have hl : l.length = n := by have := h.1; rw [flat_len] at this; omega
  have H0 : Hid (w.ownsRow B E2 2 v n (flat (reps 0 m ++ l.drop 0))) := h
  have HSM := run.hid (fun g c (e : v = .slice (some ⟨g, 0, none⟩) n c) => show v.ownBlock = some g by rw [e]; rfl)
  obtain ⟨a, ca, rfl⟩ := run.own_value h
  have HST : Hid (∀ (w' : World) (k : Nat) (g c : Nat), k < n → Value.slice a n ca = .slice (some ⟨g, 0, none⟩) n c → w'.ownsRow B E2 2 (.slice a n ca) n (flat (reps k m ++ l.drop k)) →
      ((w'.setCell ⟨g, k * 2, none⟩ (.int .i32 m)).setCell ⟨g, k * 2 + 1, none⟩ (.int .i32 m)).ownsRow B E2 2 (.slice a n ca) n (flat (reps (k + 1) m ++ l.drop (k + 1)))) := by
    intro w' k g c hk e ho
    rw [e] at ho ⊢
    have h2 := ((ho.stored (k * 2) (.int .i32 m)).1.stored (k * 2 + 1) (.int .i32 m)).1
    have e2 : ((flat (reps k m ++ l.drop k)).set (k * 2) (.int .i32 m)).set (k * 2 + 1) (.int .i32 m) = flat (reps (k + 1) m ++ l.drop (k + 1)) := by
      rw [List.drop_eq_getElem_cons (show k < l.length by omega)]
      have e3 : reps (k + 1) m = reps k m ++ [(m, m)] := by rw [reps, reps, List.replicate_succ']
      rw [e3, List.append_assoc, flat_app, flat_app]
      have hlen : (flat (reps k m)).length = k * 2 := by rw [flat_len, reps_len]
      rw [List.set_append, if_neg (by omega), List.set_append, if_neg (by omega), hlen, Nat.sub_self, show k * 2 + 1 - k * 2 = 1 by omega]
      rfl
    rw [e2] at h2
    exact h2
  clear h
  go_enter Try.func21, Try.ntmps21
  go_wp2
  go_loopw [7] (fun kv wr => ∃ k : Nat, k ≤ n ∧ kv = .int .i64 k ∧ Hid (wr.ownsRow B E2 2 (.slice a n ca) n (flat (reps k m ++ l.drop k))) ∧ Hid (w.grownBy wr (Value.slice a n ca).ownBlock)) (fun v _ => n - (intOf v).toNat)
  case atStart => exact ⟨0, by omega, rfl, H0, World.grownBy.refl _ _⟩
  case round =>
    obtain ⟨k, hk, rfl, HO, HG⟩ := hrel
    by_cases hlt : k < n
    · obtain ⟨g, c, hv⟩ := own_some HO.out (by omega)
      have HO2 := run.hid (HST.out wr k g c hlt hv HO.out)
      have HG2 : Hid (w.grownBy ((wr.setCell ⟨g, k * 2, none⟩ (.int .i32 m)).setCell ⟨g, k * 2 + 1, none⟩ (.int .i32 m)) (Value.slice a n ca).ownBlock) := by
        have e := HSM.out g c hv
        show World.grownBy _ _ _
        rw [e]
        have h1 := HG.out
        rw [e] at h1
        exact (h1.trans (setCell_grown wr g (k * 2) _)).trans (setCell_grown _ g (k * 2 + 1) _)
      have hown := HO.out
      rw [hv] at hown
      have hfl : (flat (reps k m ++ l.drop k)).length = n * 2 := hown.1
      obtain ⟨x, hx⟩ : ∃ x, wr.cell? ⟨g, k * 2, none⟩ = some x := ⟨_, (hown.cellAt (k * 2) (by omega)).trans (List.getElem?_eq_getElem (by omega))⟩
      obtain ⟨y, hy⟩ : ∃ y, wr.cell? ⟨g, k * 2 + 1, none⟩ = some y := ⟨_, (hown.cellAt (k * 2 + 1) (by omega)).trans (List.getElem?_eq_getElem (by omega))⟩
      have f1 := hown.frozenAt (k * 2)
      have f2 := hown.frozenAt (k * 2 + 1)
      cases hv
      clear hown hfl HO HG
      go_wp2
      go_roundw
      case rel => exact ⟨k + 1, by omega, by go_num, HO2, HG2⟩
      case measure => simp [intOf]; omega
    · obtain rfl : k = n := by omega
      have HE : Hid (wr.ownsRow B E2 2 (.slice a k ca) k (flat (reps k m))) := by
        have h1 := HO.out
        rw [List.drop_of_length_le (by omega), List.append_nil] at h1
        exact h1
      go_wp2
      go_end0
      exact ⟨rfl, HE.out, HG.out⟩

set_option maxRecDepth 100000 in
set_option maxHeartbeats 2000000 in
theorem grown_any (m : Int) (B n : Nat) (v : Value) (l : List (Int × Int)) (w : World) (hown : w.ownsRow B E2 2 v n (flat l)) (hn : n ≤ 200) (hB : B ≤ w.heap.size) :
    Calls Try.prog 22 #[v, .int .i32 m] w fun e w' => ∃ v', e = .returned v' ∧ run.Grow B E2 2 w v n (flat l) v' (n + 70) (flat (reps 70 m)) w' := by
  obtain ⟨i0, hi, hz0, hz1, hz2⟩ := info_parts info_e
  have hlt := run.hid (fun k hk => (hown.lt k hk).2)
  have hxl := run.hid (show (flat l).length = n * 2 from hown.1)
  have HG0 : Hid (run.Grow B E2 2 w v n (flat l) v (n + 0) (flat (reps 0 m)) w) := run.hid (run.Grow.refl hown)
  clear hown
  generalize flat l = X at *
  go_enter Try.func22, Try.ntmps22
  go_wp2
  go_loopw [0, 5] (fun vv vk wr => ∃ k : Nat, k ≤ 70 ∧ vk = .int .i64 k ∧ Hid (run.Grow B E2 2 w v n X vv (n + k) (flat (reps k m)) wr)) (fun _ k _ => (70 - intOf k).toNat)
  case atStart => exact ⟨0, by omega, rfl, HG0⟩
  case round =>
    obtain ⟨k, hk, rfl, HG⟩ := hrel
    by_cases hkl : k < 70
    · have hnew := HG.out.new
      have hsz := HG.out.grown.size
      go_wp2_with (at_builtin; refine run.wpList_append_any _ rfl _ _ 43 rfl B E2 i0 (.agg #[.int .i32 0, .int .i32 0]) 2 8 Try.underlying43 hi hz0 hz1 hz2 rfl (by decide) _ (n + k) _ rfl (hnew.alloc _) _ 1 [.int .i32 m, .int .i32 m] rfl (run.readsN_new wr [.int .i32 m, .int .i32 m] 1 2 _ rfl) (flat_one [(m, m)]) (by unfold maxLen; omega) (by omega) (by simp; omega) ?_)
      intro v' w2 hown2 hgrow hold hstep
      have hg1 : run.Grow B E2 2 w v n X u0 (n + k) (flat (reps k m)) (wr.alloc (.cells #[.int .i32 m, .int .i32 m] E2)) :=
        ⟨HG.out.new.alloc _, HG.out.old.alloc _, run.grown_trans HG.out.grown (World.grownBy_alloc _ _ none) (.inr (by intro k hk; cases hk)), HG.out.step, HG.out.le⟩
      have hg2 : Hid (run.Grow B E2 2 w v n X v' (n + (k + 1)) (flat (reps (k + 1) m)) w2) := by
        have h1 := hg1.next (zs := [Value.int .i32 m, Value.int .i32 m]) hxl.out hlt.out (by rw [List.append_assoc]; exact hown2) hgrow (by first | exact hold | (rw [List.append_assoc]; exact hold)) hstep
        have e : flat (reps k m) ++ [Value.int .i32 m, Value.int .i32 m] = flat (reps (k + 1) m) := by
          rw [← reps_add k 1 m, flat_app]; rfl
        rw [e] at h1
        exact h1
      clear hnew hown2 hgrow hold hstep hg1 HG
      go_wp2
      go_roundw
      case rel => exact ⟨k + 1, by omega, by go_num, hg2⟩
      case measure => simp [intOf]; omega
    · obtain rfl : k = 70 := by omega
      go_wp2
      go_ret
      exact ⟨_, rfl, HG.out⟩
end Go.Proofs.Ytmgammodbpjnbaa.wid
