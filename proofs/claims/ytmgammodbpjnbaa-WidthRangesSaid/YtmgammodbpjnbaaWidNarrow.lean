/-
  The walk of the layer width: the stretches of what no class tells.
-/
import Derived.Test.YtmgammodbpjnbaaWidWorks
import Derived.Test.YtmgammodbpjnbaaWidNarPlain
import Derived.Test.YtmgammodbpjnbaaRowKit
import Derived.Test.YtmgammodbpjnbaaRegions
import Derived.Test.YtmgammodbpjnbaaAlone
import Derived.Test.YtmgammodbpjnbaaShelf
import Derived.Deep.RegionHeld3
import Derived.Deep.RegionLaw
import Derived.Deep.DeepCutAuto
import Derived.OneCell
import Derived.BigQuiet
namespace Go.Proofs.Ytmgammodbpjnbaa.wid
open Go.RowKit Go.Proofs Go.Sort Go.Lib Go.Shelf
set_option linter.unusedVariables false

theorem info_e : (Try.prog.info? 53).map (fun i => (i.zero, i.size, i.bytes)) = some (some (.agg #[.int .i32 0, .int .i32 0]), 2, 8) := by kernel_rfl
theorem flat_len (l : List (Int × Int)) : (flat l).length = l.length * 2 := by
  unfold flat
  induction l with
  | nil => rfl
  | cons p l ih => rw [List.flatMap_cons, List.length_append, ih, List.length_cons]; simp; omega
theorem flat_app (l m : List (Int × Int)) : flat (l ++ m) = flat l ++ flat m := by unfold flat; rw [List.flatMap_append]
theorem flat_one (l : List (Int × Int)) : ∀ u ∈ flat l, u.oneCell' = true := by
  intro u hu
  obtain ⟨p, -, h⟩ := List.mem_flatMap.1 hu
  simp only [List.mem_cons, List.not_mem_nil, or_false] at h
  rcases h with rfl | rfl <;> rfl
theorem flat_at : ∀ (l : List (Int × Int)) (k : Nat), k < l.length → (flat l)[k * 2]? = some (.int .i32 (l.getD k (0, 0)).1) ∧ (flat l)[k * 2 + 1]? = some (.int .i32 (l.getD k (0, 0)).2)
  | [], k, h => by simp at h
  | p :: l, 0, h => ⟨rfl, rfl⟩
  | p :: l, k + 1, h => by
    have := flat_at l k (by simpa using h)
    unfold flat at *
    rw [List.flatMap_cons, show (k + 1) * 2 = k * 2 + 2 by omega, show k * 2 + 2 + 1 = k * 2 + 1 + 2 by omega]
    exact this

theorem toldR (k : Nat) (h : k ≤ 8) (w : World) : Calls Try.prog 39 #[.int .i8 k] w fun e w' => ∃ v, e = .returned v ∧ run.ReadsN 2 w' v (tab k).length (flat (tab k)) ∧ Below w.heap.size w w' := by
  refine (told_any k h w).mono ?_
  rintro e w' ⟨rfl, rfl⟩
  exact ⟨_, rfl, run.readsN_new w (flat (tab k)) (tab k).length 2 _ (flat_len _), run.below_one _ _⟩

theorem setCell_grown (w : World) (g j : Nat) (u : Value) : w.grownBy (w.setCell ⟨g, j, none⟩ u) (some g) :=
  ⟨rfl, rfl, rfl, by simp [World.setCell], fun i hi hne => Below.heap_setCell _ _ _ _ (by intro e; exact hne (by rw [e]))⟩
/-- the box of the growing row -/
def Held (w : World) (Bx : Nat) (v : Value) (n : Nat) (X : List Value) (w' : World) : Prop :=
  w'.heap[Bx]? = some (.cells #[v] 43 (0, 0)) ∧ w'.ownsRow (Bx + 1) 53 2 v n X ∧ Below Bx w w'
theorem Held.cell {w w' : World} {Bx n : Nat} {v : Value} {X : List Value} (h : Held w Bx v n X w') : w'.cell? ⟨Bx, 0, none⟩ = some v := cell_of_one h.1
theorem Held.keep {w w' w'' : World} {Bx n : Nat} {v : Value} {X : List Value} (h : w'.cell? ⟨Bx, 0, none⟩ = some v ∧ Held w Bx v n X w') (hb : Below w'.heap.size w' w'') : w''.cell? ⟨Bx, 0, none⟩ = some v ∧ Held w Bx v n X w'' := by
  have hlt := run.lt_of_cell h.1
  have h2 : Held w Bx v n X w'' := ⟨(hb.block Bx hlt).trans h.2.1, run.own_below h.2.2.1 hb, h.2.2.2.trans (hb.mono (by omega))⟩
  exact ⟨h2.cell, h2⟩
theorem Held.grown {w w' w'' : World} {Bx n : Nat} {v : Value} {X : List Value} (h : Held w Bx v n X w') (hg : w'.grownBy w'' v.ownBlock) (ho : w''.ownsRow (Bx + 1) 53 2 v n X) : w''.cell? ⟨Bx, 0, none⟩ = some v ∧ Held w Bx v n X w'' := by
  have hlt := run.lt_of_cell h.cell
  have h2 : Held w Bx v n X w'' := ⟨(hg.block Bx hlt (fun e => by have := (h.2.1.lt Bx e.symm).1; omega)).trans h.1, ho, h.2.2.grown hg (by omega) (fun k hk => by have := (h.2.1.lt k hk).1; omega)⟩
  exact ⟨h2.cell, h2⟩
theorem Held.store {w w' : World} {Bx n : Nat} {v v' : Value} {X X' : List Value} {n' : Nat} (h : Held w Bx v n X w') (ho : w'.ownsRow (Bx + 1) 53 2 v' n' X') : Held w Bx v' n' X' (w'.setCell ⟨Bx, 0, none⟩ v') := by
  refine ⟨one_setCell h.1, ?_, h.2.2.setCell (Nat.le_refl _) v'⟩
  refine ho.kept (setCell_grown w' Bx 0 v') ?_
  cases hb : v'.ownBlock with
  | none => exact .inl rfl
  | some k => right; intro e; have := (ho.lt k hb).1; cases e; omega

theorem readsN_at (w : World) (k : Nat) (hk : w.heap.size = k) (xs : List Value) (n size : Nat) (t : TypeId) (hl : xs.length = n * size) : run.ReadsN size (w.alloc (.cells xs.toArray t)) (.slice (some ⟨k, 0, none⟩) n n) n xs := by
  subst hk; exact run.readsN_new w xs n size t hl

/-! ### The sort -/
def encP (p : Int × Int) : List Value := [.int .i32 p.1, .int .i32 p.2]
noncomputable def svT : TypeInfo := (Try.prog.info? 43).get (by kernel_rfl)
noncomputable def svE : TypeInfo := (Try.prog.info? 53).get (by kernel_rfl)
theorem svK (n : Nat) (h2 : 2 ≤ n) : Lib.swapperK n svE 17 = 5 := by
  have a : svE.hasPointers = false := by kernel_rfl
  have b : svE.bytes = 8 := by kernel_rfl
  have c : (n == 0) = false := by simp; omega
  have d : (n == 1) = false := by simp; omega
  simp [Lib.swapperK, a, b, c, d]

set_option maxHeartbeats 2000000 in
theorem less_any (blk off c Bs size : Nat) (W : World) (G : Nat → Int) (hs : W.cell? ⟨Bs, 0, none⟩ = some (.slice (some ⟨blk, off, none⟩) size c))
    (hc : ∀ t, t < size → W.cell? ⟨blk, off + t * 2, none⟩ = some (.int .i32 (G t))) (i j : Nat) (hi : i < size) (hj : j < size) (hsz : size < 4611686018427387904) :
    Calls Try.prog 41 #[.int .i64 i, .int .i64 j, .pointer (some ⟨Bs, 0, none⟩)] W fun e w' => e = .returned (.bool (decide (G i < G j))) ∧ ∃ q, w' = W.drewN q := by
  have ci := hc i hi
  have cj := hc j hj
  clear hc
  go_enter Try.func41, Try.ntmps41
  go_wp2
  go_quiet (fail)
  go_wp2
  go_ret
  exact ⟨rfl, nq, rfl⟩

theorem sort_any (blk off c Bs : Nat) (d : Array (Int × Int)) (h2 : 2 ≤ d.size) (hsz : d.size < 4611686018427387904) (w : World) (hH : HoldsK encP 2 w blk off d) (hblk : blk < w.heap.size)
    (hBs : w.cell? ⟨Bs, 0, none⟩ = some (.slice (some ⟨blk, off, none⟩) d.size c)) (hB1 : Bs < w.heap.size) (hB2 : Bs ≠ blk) :
    Calls Try.prog 40 #[.iface 43 (.slice (some ⟨blk, off, none⟩) d.size c), .func (.func 41) #[] #[.pointer (some ⟨Bs, 0, none⟩)]] w fun e w' =>
      e = .returned (.tuple #[]) ∧ ∃ d' n os, PermIn 0 d.size d d' ∧ SortedIn ltP 0 d.size d' ∧ w' = grow (putRowK encP 2 (Sort.ahead w n) blk off d') os := by
  have hless : LessReadsK Try.prog 41 #[.pointer (some ⟨Bs, 0, none⟩)] encP 2 ltP blk off d.size w := by
    intro m os dk hs i j hi hj
    have e : sortWorldK encP 2 w blk off m dk os = putRowK encP 2 (grow (Sort.ahead w m) os) blk off dk := by
      unfold sortWorldK; rw [putRowK_grow _ _ (Sort.ahead w m) _ blk off _ hblk]
    have hHg : HoldsK encP 2 (grow (Sort.ahead w m) os) blk off d := holdsK_grow _ _ _ _ blk off d hblk (holdsK_ahead _ _ _ _ _ _ _ hH)
    refine less_any blk off c Bs d.size _ (fun t => dk[t]!.1) ?_ (fun t ht => ?_) i j hi hj (by omega)
    · rw [e, cell?_putRowK_other _ _ _ blk off dk _ (by exact hB2), cell?_grow _ _ _ (by exact hB1)]; exact hBs
    · rw [e]; exact ((holdsK_putRowK _ _ _ blk off d dk hHg hs).cell (i := t) (c := 0) (by omega) (by omega)).1
  exact Any.sort_Slice_cells_sorted Try.laysGg6 43 53 svT svE (by kernel_rfl) (by kernel_rfl) (by kernel_rfl) (by kernel_rfl) 17 (fun _ => by kernel_rfl) encP 2 (fun _ => rfl) (by kernel_rfl) (fun _ => by kernel_rfl)
    (fun x v hv => by simp [encP] at hv; rcases hv with rfl | rfl <;> rfl) ltP swo_ltP 41 _
    (enters_of Try.func41 (by kernel_rfl) rfl) blk off c d h2 hsz 66 (by rw [svK _ h2]; kernel_rfl) true
    (fun args W => run_callFunc_extern Try.func66 (by kernel_rfl) (by kernel_rfl) (by kernel_rfl) (e := Extern.ReflectliteSwapper.swap true) (by kernel_rfl) args W) w hless hH hblk

theorem own_some {w : World} {B e sz n : Nat} {v : Value} {xs : List Value} (h : w.ownsRow B e sz v n xs) (hn : 0 < n) : ∃ g cap, v = .slice (some ⟨g, 0, none⟩) n cap := by
  rcases h.2 with ⟨rfl, h0⟩ | ⟨g, cap, cur, rfl, -⟩
  · omega
  · exact ⟨g, cap, rfl⟩
theorem enc_at (p : Int × Int) (c : Nat) (h : c < 2) : (encP p)[c]! = if c = 0 then .int .i32 p.1 else .int .i32 p.2 := by
  have : c = 0 ∨ c = 1 := by omega
  rcases this with rfl | rfl <;> rfl
theorem holds_own {w : World} {B g c : Nat} {l : List (Int × Int)} (h : w.ownsRow B 53 2 (.slice (some ⟨g, 0, none⟩) l.length c) l.length (flat l)) : HoldsK encP 2 w g 0 l.toArray := by
  intro j hj
  have hj' : j < l.length * 2 := by simpa using hj
  rw [get_flatK _ _ _ _ (by simpa using hj')]
  have h1 := h.cellAt j hj'
  have h2 := h.frozenAt j
  have h3 := flat_at l (j / 2) (by omega)
  have h4 : l.toArray[j / 2]! = l.getD (j / 2) (0, 0) := by
    rw [getElem!_pos l.toArray (j / 2) (by simp; omega)]
    simp [List.getD_eq_getElem?_getD, show j / 2 < l.length by omega]
  rw [h4, enc_at _ _ (by omega), Nat.zero_add]
  refine ⟨?_, h2⟩
  rw [h1]
  rcases (show j = j / 2 * 2 ∨ j = j / 2 * 2 + 1 by omega) with e | e
  · rw [if_pos (by omega)]
    conv => lhs; rw [e]
    rw [h3.1]; rfl
  · rw [if_neg (by omega)]
    conv => lhs; rw [e]
    rw [h3.2]; rfl
theorem below_sorted (w : World) (n blk off : Nat) (d' : Array (Int × Int)) (os : Array Obj) {B : Nat} (hB : B ≤ blk) (hlt : blk < w.heap.size) : Below B w (grow (putRowK encP 2 (Sort.ahead w n) blk off d') os) := by
  refine ⟨rfl, rfl, rfl, ?_, fun k hk => ?_⟩
  · simp [grow, putRowK, putRow, mapBlock, Sort.ahead]
  · simp only [grow, putRowK, putRow, mapBlock, Sort.ahead]
    rw [Array.getElem?_append_left (by simp; omega), Array.getElem?_modify, if_neg (by omega)]

theorem sort84 (B blk c Bs : Nat) (w : World) (ho : w.ownsRow B 53 2 (.slice (some ⟨blk, 0, none⟩) 84 c) 84 (flat (cat 9))) (hBs : w.cell? ⟨Bs, 0, none⟩ = some (.slice (some ⟨blk, 0, none⟩) 84 c)) (hlt : Bs < B) :
    Calls Try.prog 40 #[.iface 43 (.slice (some ⟨blk, 0, none⟩) 84 c), .func (.func 41) #[] #[.pointer (some ⟨Bs, 0, none⟩)]] w fun e w' =>
      e = .returned (.tuple #[]) ∧ (∀ k, k < 84 → w'.cell? ⟨blk, k * 2, none⟩ = some (.int .i32 (allS.getD k (0, 0)).1) ∧ w'.cell? ⟨blk, k * 2 + 1, none⟩ = some (.int .i32 (allS.getD k (0, 0)).2)) ∧ Below B w w' ∧ blk < w'.heap.size ∧ w'.cell? ⟨Bs, 0, none⟩ = some (.slice (some ⟨blk, 0, none⟩) 84 c) := by
  have hl := cat_len
  have hH : HoldsK encP 2 w blk 0 (cat 9).toArray := holds_own (by rw [hl]; exact ho)
  have hb := (ho.lt blk rfl)
  have hsz : (cat 9).toArray.size = 84 := by simpa using hl
  have h := sort_any blk 0 c Bs (cat 9).toArray (by rw [hsz]; omega) (by rw [hsz]; omega) w hH hb.2 (by rw [hsz]; exact hBs) (by omega) (by omega)
  rw [hsz] at h
  refine h.mono ?_
  rintro e w' ⟨rfl, d', n, os, hP, hS, rfl⟩
  have hd := sorted_is d' hP hS
  have hsd : d'.size = (cat 9).toArray.size := hP.1
  have hB := below_sorted w n blk 0 d' os hb.1 hb.2
  have hH2 : HoldsK encP 2 (grow (putRowK encP 2 (Sort.ahead w n) blk 0 d') os) blk 0 d' := by
    refine holdsK_grow _ _ _ _ blk 0 d' (by simp [putRowK, putRow, mapBlock, Sort.ahead]; exact hb.2) ?_
    exact holdsK_putRowK _ _ _ blk 0 (cat 9).toArray d' (holdsK_ahead _ _ _ _ _ _ _ hH) hsd
  refine ⟨rfl, fun k hk => ?_, hB, by have := hB.size; omega, (hB.cell (p := ⟨Bs, 0, none⟩) hlt).trans hBs⟩
  have hk' : k < d'.size := by rw [hsd, hsz]; exact hk
  have e : d'[k]! = allS.getD k (0, 0) := by
    rw [getElem!_pos d' k hk', ← hd]
    simp [List.getD_eq_getElem?_getD, hk']
  have c0 := (hH2.cell (i := k) (c := 0) hk' (by omega)).1
  have c1 := (hH2.cell (i := k) (c := 1) hk' (by omega)).1
  rw [e, Nat.zero_add] at c0 c1
  exact ⟨c0, c1⟩


set_option maxRecDepth 100000 in
set_option maxHeartbeats 4000000 in
theorem ranges_narrow (w : World) : Calls Try.prog 18 #[.int .i8 9] w fun e w' => ∃ v, e = .returned v ∧ w'.ownsRow w.heap.size 53 2 v narrowT.length (flat narrowT) ∧ Below w.heap.size w w' := by
  obtain ⟨i, hi, hz0, hz1, hz2⟩ := info_parts info_e
  have H0 : Hid (Held w w.heap.size (.slice none 0 0) (cat 0).length (flat (cat 0)) (w.alloc (.cells #[.slice none 0 0] 43))) := ⟨run.heap_new _ _, World.ownsRow_nil _ _ _ _, run.below_one _ _⟩
  go_enter Try.func18, Try.ntmps18
  go_wp2
  generalize w.alloc (.cells #[.slice none 0 0] 43) = w1 at *
  generalize hB : w.heap.size = Bx at *
  go_loopw [13] (fun kv wr => ∃ k : Nat, k ≤ 9 ∧ kv = .int .i8 k ∧ ∃ v, Hid (Held w Bx v (cat k).length (flat (cat k)) wr)) (fun v _ => 9 - (intOf v).toNat)
  case atStart => exact ⟨0, by omega, rfl, _, H0⟩
  case round =>
    obtain ⟨k, hk, rfl, v, HH⟩ := hrel
    by_cases hlt : k < 9
    · have HT := run.hid (fun w' => toldR k (by omega) w')
      have hl1 := cat_le k hk
      have hl2 := (tab_le k (by omega)).2
      have hl3 := cat_le (k + 1) hlt
      have HC := run.hid (cat_succ k)
      have HL : Hid ((cat (k + 1)).length = (cat k).length + (tab k).length) := by show _ = _; rw [HC.out, List.length_append]
      have HFL : Hid (flat (cat (k + 1)) = flat (cat k) ++ flat (tab k)) := by show _ = _; rw [HC.out, flat_app]
      generalize (cat k).length = n1 at *
      generalize hn3 : (tab k).length = n3 at *
      generalize flat (cat k) = X1 at *
      have H1 := run.hid (flat_one (tab k))
      generalize flat (tab k) = X3 at *
      clear hn3 HC
      go_upto_region 7 with fail
      have hst : wr.drew.cell? ⟨Bx, 0, none⟩ = some v ∧ Held w Bx v n1 X1 wr.drew := ⟨HH.out.cell, HH.out.1, HH.out.2.1, HH.out.2.2.drew⟩
      obtain ⟨hs0, hH0⟩ := hst
      go_region_law
        (first
          | (go_simp; go_at_call 39; refine (HT.out _).mono ?_; rintro e w6 ⟨v2, rfl, hr2, hb2⟩; have hS6 := Held.keep ⟨hs0, hH0⟩ hb2; have hs6 := hS6.1)
          | (refine run.step_append_any (by rfl) _ _ 43 (by rfl) (Bx + 1) 53 i (.agg #[.int .i32 0, .int .i32 0]) 2 8 Try.underlying43 hi hz0 hz1 hz2 rfl (by decide) v n1 X1 (by rfl) hS6.2.2.1 v2 n3 X3 (by rfl) hr2 H1.out (by unfold maxLen; omega) (by omega) (by have := run.lt_of_cell hS6.1; omega) ?_; intro v8 w8 hown8 hgrow hold hstep; obtain ⟨a8, c8, rfl⟩ := run.own_value hown8; have hS8 := Held.grown hS6.2 hgrow hold; have hs8 := hS8.1; have hf8 := free_of_one hS8.2.1))
      all_goals
        have HS9 : Hid (Held w Bx (.slice a8 (n1 + n3) c8) (cat (k + 1)).length (flat (cat (k + 1))) (w8.setCell ⟨Bx, 0, none⟩ (.slice a8 (n1 + n3) c8))) := by
          show Held _ _ _ _ _ _
          refine Held.store hS8.2 ?_
          rw [HL.out, HFL.out]
          exact hown8
        clear hown8 hgrow hold hstep hS8 hS6 hr2 hb2 hs8 hf8 hs6 hs0 hH0
        go_wp2
        go_roundw
        case rel => exact ⟨k + 1, by omega, by go_num, _, HS9⟩
        case measure => simp [intOf]; omega
    · obtain rfl : k = 9 := by omega
      rw [cat_len] at HH
      obtain ⟨g, c, rfl⟩ := own_some HH.out.2.1 (by omega)
      have hbx := HH.out.cell
      have HS := run.hid (sort84 (Bx + 1) g c Bx wr HH.out.2.1 hbx (by omega))
      have hgl := run.hid (HH.out.2.1.lt g rfl)
      have HB1 := run.hid HH.out.2.2
      clear HH
      go_wp2_with fail
      refine HS.out.mono ?_
      rintro e w5 ⟨rfl, hcells, hb5, hg5, hbx5⟩
      have HCL := run.hid hcells
      have HB5 := run.hid (HB1.out.trans (hb5.mono (by omega)))
      clear hcells hb5 hbx HS HB1
      go_wp2
      clear hbx5
      generalize hB5 : w5.heap.size = B5 at *
      have hbs := HB5.out.size
      have HG0 := run.hid gaps_zero
      go_loopw [5, 6, 27] (fun v nv kv wr => ∃ k : Nat, k ≤ 84 ∧ kv = .int .i64 k ∧ nv = .int .i32 (gapsAt k).2 ∧ Hid (wr.ownsRow B5 53 2 v (gapsAt k).1.length (flat (gapsAt k).1)) ∧ Hid (Below B5 w5 wr)) (fun _ _ v _ => 84 - (intOf v).toNat)
      case atStart => exact ⟨0, by omega, rfl, rfl, World.ownsRow_nil _ _ _ _, Below.refl _ _⟩
      case round =>
        obtain ⟨k, hk, rfl, rfl, HO, HBr⟩ := hrel
        have hszr := HBr.out.size
        obtain ⟨gb1, gb2, gb3⟩ := gaps_bounds hk
        by_cases hlt2 : k < 84
        · have hka : k < allS.length := by rw [allS_len]; exact hlt2
          have HN := run.hid (gaps_succ hka)
          obtain ⟨b1, b2, b3⟩ := allS_bounds (allS.getD k (0, 0)) (by simp [List.getD_eq_getElem?_getD, hka])
          obtain ⟨c1, c2⟩ := HCL.out k hlt2
          replace c1 := (HBr.out.cell (p := ⟨g, k * 2, none⟩) hg5).trans c1
          replace c2 := (HBr.out.cell (p := ⟨g, k * 2 + 1, none⟩) hg5).trans c2
          generalize allS.getD k (0, 0) = p at *
          obtain ⟨p1, p2⟩ := p
          generalize gapsAt k = GN at *
          obtain ⟨G, nx⟩ := GN
          simp only at gb1 gb2 gb3 b1 b2 b3 c1 c2 HO
          obtain ⟨n1, hn1⟩ : ∃ n1, n1 = G.length := ⟨_, rfl⟩
          rw [← hn1] at gb1 HO
          have HN1 := run.hid hn1
          clear hn1
          by_cases hgap : nx < p1
          · have HR : Hid (gapsAt (k + 1) = (G ++ [(nx, p1 - 1)], p2 + 1)) := by show _ = _; rw [HN.out]; unfold gapStep; rw [if_pos hgap]
            clear HN
            have hp1 : 1 ≤ p1 := by omega
            go_wp2_with (at_builtin; refine run.wpList_append_any _ rfl _ _ 43 rfl B5 53 i (.agg #[.int .i32 0, .int .i32 0]) 2 8 Try.underlying43 hi hz0 hz1 hz2 rfl (by decide) _ n1 (flat G) rfl ((HO.out.alloc (.cells #[.int .i32 p1, .int .i32 p2] 53)).alloc _) _ 1 [.int .i32 nx, .int .i32 (p1 - 1)] rfl (readsN_at (wr.alloc (.cells #[.int .i32 p1, .int .i32 p2] 53)) (wr.heap.size + 1) (by simp) [.int .i32 nx, .int .i32 (p1 - 1)] 1 2 _ rfl) (flat_one [(nx, p1 - 1)]) (by unfold maxLen; omega) (by omega) (by simp; omega) ?_)
            intro v8 w8 hown8 hgrow hold hstep
            have HO8 : Hid (w8.ownsRow B5 53 2 v8 (gapsAt (k + 1)).1.length (flat (gapsAt (k + 1)).1)) := by
              show World.ownsRow _ _ _ _ _ _ _
              rw [HR.out]
              simp only [List.length_append, List.length_singleton, flat_app]
              rw [← HN1.out]
              exact hown8
            have HB8 := run.hid (run.below_append (((HBr.out.alloc (by omega) (.cells #[.int .i32 p1, .int .i32 p2] 53))).alloc (by simp; omega) _) ((HO.out.alloc (.cells #[.int .i32 p1, .int .i32 p2] 53)).alloc (.cells #[.int .i32 nx, .int .i32 (p1 - 1)] 53)) hgrow (by simp; omega))
            have hcx := (hgrow.cell (a := ⟨wr.heap.size, 1, none⟩) (v := .int .i32 p2) (by simp) (by intro e; have := ((HO.out.lt _ e.symm).2); simp at this))
            clear hown8 hgrow hold hstep HO HBr c1 c2
            go_wp2
            go_roundw
            case rel => exact ⟨k + 1, by omega, by go_num, by rw [HR.out], HO8, HB8⟩
            case measure => simp [intOf]; omega
          · have HR : Hid (gapsAt (k + 1) = (G, p2 + 1)) := by show _ = _; rw [HN.out]; unfold gapStep; rw [if_neg hgap]
            clear HN
            have HO8 : Hid ((wr.alloc (.cells #[.int .i32 p1, .int .i32 p2] 53)).ownsRow B5 53 2 u5 (gapsAt (k + 1)).1.length (flat (gapsAt (k + 1)).1)) := by
              show World.ownsRow _ _ _ _ _ _ _
              rw [HR.out]
              simp only
              rw [← HN1.out]
              exact HO.out.alloc _
            have HB8 := run.hid (HBr.out.alloc (by omega) (.cells #[.int .i32 p1, .int .i32 p2] 53))
            clear HO HBr
            go_wp2
            go_roundw
            case rel => exact ⟨k + 1, by omega, by go_num, by rw [HR.out], HO8, HB8⟩
            case measure => simp [intOf]; omega
        · obtain rfl : k = 84 := by omega
          have hge := gaps_end
          have HNT := run.hid (show narrowT = (gapsAt 84).1 ++ [((gapsAt 84).2, 1114111)] from rfl)
          generalize gapsAt 84 = GN at *
          obtain ⟨G, nx⟩ := GN
          simp only at gb1 gb2 gb3 HO hge
          subst hge
          obtain ⟨n1, hn1⟩ : ∃ n1, n1 = G.length := ⟨_, rfl⟩
          rw [← hn1] at gb1 HO
          have HN1 := run.hid hn1
          clear hn1
          simp only [show (917999 + 1 : Int) = 918000 from rfl] at *
          go_wp2_with (at_builtin; refine run.wpList_append_any _ rfl _ _ 43 rfl B5 53 i (.agg #[.int .i32 0, .int .i32 0]) 2 8 Try.underlying43 hi hz0 hz1 hz2 rfl (by decide) _ n1 (flat G) rfl (HO.out.alloc _) _ 1 [.int .i32 918000, .int .i32 1114111] rfl (run.readsN_new wr [.int .i32 918000, .int .i32 1114111] 1 2 _ rfl) (flat_one [(918000, 1114111)]) (by unfold maxLen; omega) (by omega) (by simp; omega) ?_)
          intro v8 w8 hown8 hgrow hold hstep
          have HO8 : Hid (w8.ownsRow B5 53 2 v8 narrowT.length (flat narrowT)) := by
            show World.ownsRow _ _ _ _ _ _ _
            rw [HNT.out]
            simp only [List.length_append, List.length_singleton, flat_app]
            rw [← HN1.out]
            exact hown8
          have HB8 := run.hid (run.below_append (HBr.out.alloc (by omega) _) (HO.out.alloc (.cells #[.int .i32 918000, .int .i32 1114111] 53)) hgrow (by simp; omega))
          clear hown8 hgrow hold hstep HO HBr
          go_wp2
          go_ret
          subst hB
          exact ⟨_, rfl, run.own_mono HO8.out (by omega), HB5.out.trans (HB8.out.mono (by omega))⟩
end Go.Proofs.Ytmgammodbpjnbaa.wid
