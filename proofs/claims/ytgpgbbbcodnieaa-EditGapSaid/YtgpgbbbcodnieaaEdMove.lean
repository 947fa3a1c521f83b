/-
  EditGap's helper move: one call, on both gaps.
-/
import Derived.Test.YtgpgbbbcodnieaaEdGapAll
import Derived.Deep.RegionHeld3
namespace Go.Proofs.Ytgpgbbbcodnieaa.ed
open Go Go.RowKit Go.Proofs
set_option linter.unusedVariables false
/-- the blocks of a pair -/
def OwnP (g lb r : Nat) (v : Value) (k : Nat) : Prop := k = g ∨ k = lb ∨ k = r ∨ v.ownBlock = some k
/-- the program's gap and the document's, of the same numbers -/
structure PG (n g lb r : Nat) (v : Value) (zs : List Int) (w : World) : Prop where
  gap : GapI g lb zs w
  ref : RefL r v zs w
  n1 : r ≠ g
  n2 : r ≠ lb
  n3 : ∀ k, v.ownBlock = some k → k ≠ g ∧ k ≠ lb
  low : ∀ k, OwnP g lb r v k → n ≤ k
section
variable {n g lb r : Nat} {v : Value} {zs : List Int} {w w' : World}
theorem PG.lt (h : PG n g lb r v zs w) : ∀ k, OwnP g lb r v k → k < w.heap.size := by
  intro k hk
  rcases hk with rfl | rfl | rfl | hk
  · exact h.gap.lt.1
  · exact h.gap.lt.2.1
  · exact h.ref.box.lt
  · exact (h.ref.own.lt k hk).2
theorem PG.kept {S : Nat → Prop} (h : PG n g lb r v zs w) (hk : Kept S w w') (hS : ∀ k, OwnP g lb r v k → ¬ S k) : PG n g lb r v zs w' :=
  ⟨h.gap.kept hk (hS g (.inl rfl)) (hS lb (.inr (.inl rfl))), h.ref.kept hk (hS r (.inr (.inr (.inl rfl)))) (fun k hk => hS k (.inr (.inr (.inr hk)))), h.n1, h.n2, h.n3, h.low⟩
theorem PG.below (h : PG n g lb r v zs w) (hb : Below w.heap.size w w') : PG n g lb r v zs w' := h.kept (Kept.of_below (S := fun _ => False) hb) (fun _ _ h => h)
theorem PG.le (h : PG n g lb r v zs w) : n ≤ w.heap.size := by
  have h1 := h.low g (.inl rfl)
  have h2 := h.lt g (.inl rfl)
  omega
end
/-- what a deletion leaves, and takes -/
def delT2 (zs : List Int) (i m : Int) : List Int × List Int := if 0 ≤ i ∧ i ≤ zs.length ∧ 1 ≤ m then ((zs.drop i.toNat).take (min m.toNat (zs.length - i.toNat)), zs.take i.toNat ++ zs.drop (i.toNat + min m.toNat (zs.length - i.toNat))) else ([], zs)
def insT2 (zs : List Int) (i : Int) (ys : List Int) : Bool × List Int := if 0 ≤ i ∧ i ≤ zs.length then (true, zs.take i.toNat ++ ys ++ zs.drop i.toNat) else (false, zs)
theorem insT2_len (zs : List Int) (i : Int) (ys : List Int) : (insT2 zs i ys).2.length ≤ zs.length + ys.length := by
  unfold insT2
  split
  · simp only [List.length_append, List.length_take, List.length_drop]; omega
  · simp
theorem delT2_len (zs : List Int) (i m : Int) : (delT2 zs i m).2.length ≤ zs.length ∧ (delT2 zs i m).1.length ≤ zs.length := by
  unfold delT2
  split
  · simp only [List.length_append, List.length_take, List.length_drop]; omega
  · simp
section
variable {n g lb r : Nat} {v : Value} {zs : List Int} {w : World}
/-- the program's insertion, whatever the place -/
theorem pg_insert (h : PG n g lb r v zs w) (i : Int) (a : Option Addr) (c : Nat) (ys : List Int) (hs : Src 1 w a ys.length c (iv ys)) (hz : zs.length ≤ 1073741824) (hy : ys.length ≤ 1073741824) (hfar : ∀ b off, a = some ⟨b, off, none⟩ → b ≠ g ∧ b ≠ lb) :
    Calls Try.prog 26 #[.pointer (some ⟨g, 0, none⟩), .int .i64 i, .slice a ys.length c] w fun e w' => e = .returned (.bool (insT2 zs i ys).1) ∧ ∃ lb', GapI g lb' (insT2 zs i ys).2 w' ∧ RefL r v zs w' ∧ (lb' = lb ∨ w.heap.size ≤ lb') ∧ Kept (fun b => b = g ∨ b = lb) w w' := by
  have hrefk : ∀ w', Kept (fun b => b = g ∨ b = lb) w w' → RefL r v zs w' := fun w' hk => h.ref.kept hk (fun e => e.elim h.n1 h.n2) (fun k hk e => e.elim (h.n3 k hk).1 (h.n3 k hk).2)
  by_cases hi : 0 ≤ i ∧ i ≤ zs.length
  · have he : insT2 zs i ys = (true, zs.take i.toNat ++ ys ++ zs.drop i.toNat) := if_pos hi
    rw [he]
    obtain ⟨k, rfl⟩ : ∃ k : Nat, i = k := ⟨i.toNat, by omega⟩
    rw [Int.toNat_natCast]
    refine (gi_insert h.gap k a c ys hs (by omega) hz hy hfar).mono ?_
    rintro e w' ⟨rfl, lb', hG, hl, hk⟩
    exact ⟨rfl, lb', hG, hrefk w' hk, hl, hk⟩
  · have he : insT2 zs i ys = (false, zs) := if_neg hi
    rw [he]
    refine (gi_insert_out h.gap i a ys.length c (by omega)).mono ?_
    rintro e w' ⟨rfl, hs⟩
    have hk : Kept (fun b => b = g ∨ b = lb) w w' := Same.kept (Kept.refl _ _) hs
    exact ⟨rfl, lb, h.gap.same hs, hrefk w' hk, .inl rfl, hk⟩
/-- the document's insertion, whatever the place -/
theorem pr_insert (h : RefL r v zs w) (i : Int) (a : Option Addr) (c : Nat) (ys : List Int) (hR : run.ReadsN 1 w (.slice a ys.length c) ys.length (iv ys)) (hz : zs.length ≤ 1073741824) (hy : ys.length ≤ 1073741824) :
    Calls Try.prog 28 #[.pointer (some ⟨r, 0, none⟩), .int .i64 i, .slice a ys.length c] w fun e w' => e = .returned (.bool (insT2 zs i ys).1) ∧ ∃ v', RefL r v' (insT2 zs i ys).2 w' ∧ (∀ k, v'.ownBlock = some k → v.ownBlock = some k ∨ w.heap.size ≤ k) ∧ Kept (fun b => b = r) w w' := by
  by_cases hi : 0 ≤ i ∧ i ≤ zs.length
  · have he : insT2 zs i ys = (true, zs.take i.toNat ++ ys ++ zs.drop i.toNat) := if_pos hi
    rw [he]
    obtain ⟨k, rfl⟩ : ∃ k : Nat, i = k := ⟨i.toNat, by omega⟩
    rw [Int.toNat_natCast]
    refine (rg_insert h k (by omega) a c ys hR hz hy).mono ?_
    rintro e w' ⟨rfl, v', hr, hv, hk⟩
    exact ⟨rfl, v', hr, fun k hk => .inr (hv k hk), hk⟩
  · have he : insT2 zs i ys = (false, zs) := if_neg hi
    rw [he]
    refine (rg_insert_out h i _ (by omega)).mono ?_
    rintro e w' ⟨rfl, rfl⟩
    exact ⟨rfl, v, h, fun k hk => .inl hk, Kept.refl _ _⟩
/-- the program's deletion, whatever the place -/
theorem pg_delete (h : PG n g lb r v zs w) (i m : Int) (hz : zs.length ≤ 1073741824) :
    Calls Try.prog 30 #[.pointer (some ⟨g, 0, none⟩), .int .i64 i, .int .i64 m] w fun e w' => ∃ u lb', e = .returned u ∧ w'.ownsRow w.heap.size 3 1 u (delT2 zs i m).1.length (iv (delT2 zs i m).1) ∧ GapI g lb' (delT2 zs i m).2 w' ∧ RefL r v zs w' ∧ (lb' = lb ∨ w.heap.size ≤ lb') ∧ u.ownBlock ≠ some lb' ∧ Kept (fun b => b = g ∨ b = lb) w w' := by
  have hrefk : ∀ w', Kept (fun b => b = g ∨ b = lb) w w' → RefL r v zs w' := fun w' hk => h.ref.kept hk (fun e => e.elim h.n1 h.n2) (fun k hk e => e.elim (h.n3 k hk).1 (h.n3 k hk).2)
  by_cases hi : 0 ≤ i ∧ i ≤ zs.length ∧ 1 ≤ m
  · have he : delT2 zs i m = _ := if_pos hi
    rw [he]
    obtain ⟨k, rfl⟩ : ∃ k : Nat, i = k := ⟨i.toNat, by omega⟩
    obtain ⟨mm, rfl⟩ : ∃ mm : Nat, m = mm := ⟨m.toNat, by omega⟩
    rw [Int.toNat_natCast, Int.toNat_natCast]
    refine (gi_delete h.gap k mm (by omega) hz (by omega)).mono ?_
    rintro e w' ⟨u, lb', rfl, ho, hG, hl, hne, hk⟩
    have hlen : ((zs.drop k).take (min mm (zs.length - k))).length = min mm (zs.length - k) := by rw [List.length_take, List.length_drop]; omega
    refine ⟨u, lb', rfl, ?_, hG, hrefk w' hk, hl, hne, hk⟩
    rw [hlen]
    exact ho
  · have he : delT2 zs i m = ([], zs) := if_neg hi
    rw [he]
    refine (gi_delete_out h.gap i m (by omega)).mono ?_
    rintro e w' ⟨rfl, hs⟩
    have hk : Kept (fun b => b = g ∨ b = lb) w w' := Same.kept (Kept.refl _ _) hs
    exact ⟨_, lb, rfl, World.ownsRow_nil _ _ _ _, h.gap.same hs, hrefk w' hk, .inl rfl, by simp [Value.ownBlock], hk⟩
/-- the document's deletion, whatever the place -/
theorem pr_delete (h : RefL r v zs w) (i m : Int) (hz : zs.length ≤ 1073741824) :
    Calls Try.prog 31 #[.pointer (some ⟨r, 0, none⟩), .int .i64 i, .int .i64 m] w fun e w' => ∃ u v', e = .returned u ∧ w'.ownsRow w.heap.size 3 1 u (delT2 zs i m).1.length (iv (delT2 zs i m).1) ∧ RefL r v' (delT2 zs i m).2 w' ∧ (∀ k, v'.ownBlock = some k → v.ownBlock = some k ∨ w.heap.size ≤ k) ∧ (∀ k, u.ownBlock = some k → v'.ownBlock ≠ some k) ∧ Kept (fun b => b = r) w w' := by
  by_cases hi : 0 ≤ i ∧ i ≤ zs.length ∧ 1 ≤ m
  · have he : delT2 zs i m = _ := if_pos hi
    rw [he]
    obtain ⟨k, rfl⟩ : ∃ k : Nat, i = k := ⟨i.toNat, by omega⟩
    obtain ⟨mm, rfl⟩ : ∃ mm : Nat, m = mm := ⟨m.toNat, by omega⟩
    rw [Int.toNat_natCast, Int.toNat_natCast]
    refine (rg_delete h k mm (min mm (zs.length - k)) (by omega) hz (by omega) rfl).mono ?_
    rintro e w' ⟨u, v', rfl, ho, hr, hv, hne, hk⟩
    have hlen : ((zs.drop k).take (min mm (zs.length - k))).length = min mm (zs.length - k) := by rw [List.length_take, List.length_drop]; omega
    refine ⟨u, v', rfl, ?_, hr, fun k hk => .inr (hv k hk), hne, hk⟩
    rw [hlen]
    exact ho
  · have he : delT2 zs i m = ([], zs) := if_neg hi
    rw [he]
    refine (rg_delete_out h i m (by omega)).mono ?_
    rintro e w' ⟨rfl, rfl⟩
    exact ⟨_, v, rfl, World.ownsRow_nil _ _ _ _, h, fun k hk => .inl hk, fun k hk => by simp [Value.ownBlock] at hk, Kept.refl _ _⟩
end

abbrev moveV (d k i m : Int) (p : Value) : Value := .agg #[.int .i64 d, .int .i64 k, .int .i64 i, .int .i64 m, p]
/-- what a move leaves behind -/
def Moved (n g lb r : Nat) (v : Value) (zs : List Int) (L : Nat) (w w' : World) : Prop :=
  ∃ lb' v' zs', PG n g lb' r v' zs' w' ∧ (∀ k, OwnP g lb' r v' k → OwnP g lb r v k ∨ w.heap.size ≤ k) ∧ zs'.length ≤ zs.length + L ∧ Kept (OwnP g lb r v) w w'
theorem Moved.same {n g lb r : Nat} {v : Value} {zs : List Int} {L : Nat} {w w' : World} (h : PG n g lb r v zs w) (hb : Below w.heap.size w w') : Moved n g lb r v zs L w w' :=
  ⟨lb, v, zs, h.below hb, fun k hk => .inl hk, by omega, Kept.of_below hb⟩

set_option maxRecDepth 100000 in
set_option maxHeartbeats 4000000 in
theorem move_all (n g lb r : Nat) (v : Value) (zs : List Int) (k i m : Int) (p : Value) (w : World) (h : PG n g lb r v zs w) (hz : zs.length ≤ 1073741824) :
    Calls Try.prog 9 #[.pointer (some ⟨g, 0, none⟩), .pointer (some ⟨r, 0, none⟩), moveV 3 k i m p] w fun e w' => e = .returned (.bool true) ∧ Below w.heap.size w w' := by
  have hb := run.below_one w (.cells #[.int .i64 3, .int .i64 k, .int .i64 i, .int .i64 m, p] 37)
  have s0 : (w.alloc (.cells #[.int .i64 3, .int .i64 k, .int .i64 i, .int .i64 m, p] 37)).cell? ⟨w.heap.size, 0, none⟩ = some (.int .i64 3) := World.cell?_alloc_at _ _ _ _ rfl
  have h1 := h.below hb
  have c0 := h1.ref.box.cell (i := 0) (by omega)
  have HA := run.hid (fun u hu => all2_any h1.gap u hu (by omega))
  have HR := run.hid (run.readsN_own h1.ref.own)
  have HB := run.hid hb
  clear h h1 hb
  go_enter Try.func9, Try.ntmps9
  go_upto_region 1 with fail
  generalize w.alloc (.cells #[.int .i64 3, .int .i64 k, .int .i64 i, .int .i64 m, p] 37) = w1 at *
  generalize hB : w.heap.size = B at *
  go_wp2_with fail
  refine (HA.out _ HR.out).mono ?_
  rintro e w2 ⟨rfl, hb2⟩
  have HF : Hid (Below B w w2) := HB.out.trans (hb2.mono (by have := HB.out.size; omega))
  go_wp2
  go_ret
  exact ⟨rfl, by rw [hB]; exact HF.out⟩

theorem own_keptK {S : Nat → Prop} {w w' : World} {B e sz n : Nat} {v : Value} {xs : List Value} (h : w.ownsRow B e sz v n xs) (hk : Kept S w w') (hS : ∀ k, v.ownBlock = some k → ¬ S k) : w'.ownsRow B e sz v n xs := by
  obtain ⟨hl, h3⟩ := h
  refine ⟨hl, ?_⟩
  rcases h3 with h3 | ⟨g, cap, cur, hv, hg, hh, hr⟩
  · exact .inl h3
  · have hlt : g < w.heap.size := (World.ownsRow.lt ⟨hl, .inr ⟨g, cap, cur, hv, hg, hh, hr⟩⟩ g (by rw [hv]; rfl)).2
    exact .inr ⟨g, cap, cur, hv, hg, (hk.block g hlt (hS g (by rw [hv]; rfl))).trans hh, hr⟩
theorem Kept.cellK {S : Nat → Prop} {w w' : World} (hk : Kept S w w') {a : Addr} {u : Value} (hc : w.cell? a = some u) (hS : ¬ S a.block) : w'.cell? a = some u :=
  (World.cell?_of_block (hk.block a.block (World.block_lt_of_cell? w a hc) hS)).trans hc
theorem Kept.of_same {S : Nat → Prop} {w w' : World} (h : Same w w') : Kept S w w' := Same.kept (Kept.refl _ _) h
set_option maxRecDepth 100000 in
set_option maxHeartbeats 4000000 in
theorem move_at (n g lb r : Nat) (v : Value) (zs : List Int) (k i m : Int) (p : Value) (w : World) (h : PG n g lb r v zs w) :
    Calls Try.prog 9 #[.pointer (some ⟨g, 0, none⟩), .pointer (some ⟨r, 0, none⟩), moveV 2 k i m p] w fun e w' => e = .returned (.bool true) ∧ Below w.heap.size w w' := by
  have hb := run.below_one w (.cells #[.int .i64 2, .int .i64 k, .int .i64 i, .int .i64 m, p] 37)
  have s0 : (w.alloc (.cells #[.int .i64 2, .int .i64 k, .int .i64 i, .int .i64 m, p] 37)).cell? ⟨w.heap.size, 0, none⟩ = some (.int .i64 2) := World.cell?_alloc_at _ _ _ _ rfl
  have s2 : (w.alloc (.cells #[.int .i64 2, .int .i64 k, .int .i64 i, .int .i64 m, p] 37)).cell? ⟨w.heap.size, 2, none⟩ = some (.int .i64 i) := World.cell?_alloc_at _ _ _ _ rfl
  have h1 := h.below hb
  have HA := run.hid (gi_at h1.gap i)
  have HR := run.hid (fun w' (hs : Same (w.alloc (.cells #[.int .i64 2, .int .i64 k, .int .i64 i, .int .i64 m, p] 37)) w') => rg_at (h1.ref.kept (Kept.of_same (S := fun _ => False) hs) (fun h => h) (fun _ _ h => h)) i)
  have HB := run.hid hb
  generalize atI zs i = AA at *
  clear h h1 hb
  go_enter Try.func9, Try.ntmps9
  go_upto_region 1 with fail
  generalize w.alloc (.cells #[.int .i64 2, .int .i64 k, .int .i64 i, .int .i64 m, p] 37) = w1 at *
  generalize hB : w.heap.size = B at *
  have S2 := run.hid s2
  go_wp2_with fail
  refine HA.out.mono ?_
  rintro e w2 ⟨rfl, hs⟩
  have HS := run.hid hs
  clear s2 hs
  have s2 := (Kept.of_same (S := fun _ => False) HS.out).cellK S2.out (fun h => h)
  go_wp2_with fail
  refine (HR.out _ HS.out).mono ?_
  rintro e w3 ⟨rfl, hw3⟩
  have HF : Hid (Below B w w3) := by
    show Below _ _ _
    rw [← hw3]
    have hs := HS.out
    exact HB.out.trans ⟨hs.os, hs.tape, hs.output, by rw [hs.heap]; exact Nat.le_refl _, fun k hk => by rw [hs.heap]⟩
  clear hw3
  obtain ⟨A1, A2⟩ := AA
  go_wp2
  go_ret
  exact ⟨rfl, by rw [hB]; exact HF.out⟩
set_option maxRecDepth 100000 in
set_option maxHeartbeats 4000000 in
theorem move_other (g r : Nat) (d k i m : Int) (p : Value) (w : World) (hd : d < 0 ∨ 4 < d) :
    Calls Try.prog 9 #[.pointer (some ⟨g, 0, none⟩), .pointer (some ⟨r, 0, none⟩), moveV d k i m p] w fun e w' => e = .returned (.bool true) ∧ Below w.heap.size w w' := by
  have HB := run.hid (run.below_one w (.cells #[.int .i64 d, .int .i64 k, .int .i64 i, .int .i64 m, p] 37))
  have s0 : (w.alloc (.cells #[.int .i64 d, .int .i64 k, .int .i64 i, .int .i64 m, p] 37)).cell? ⟨w.heap.size, 0, none⟩ = some (.int .i64 d) := World.cell?_alloc_at _ _ _ _ rfl
  have q0 : ¬ d = 0 := by omega
  have q1 : ¬ d = 1 := by omega
  have q2 : ¬ d = 2 := by omega
  have q3 : ¬ d = 3 := by omega
  have q4 : ¬ d = 4 := by omega
  clear hd
  go_enter Try.func9, Try.ntmps9
  go_upto_region 1 with fail
  generalize w.alloc (.cells #[.int .i64 d, .int .i64 k, .int .i64 i, .int .i64 m, p] 37) = w1 at *
  go_wp2
  go_ret
  exact ⟨rfl, HB.out⟩
set_option maxRecDepth 100000 in
set_option maxHeartbeats 4000000 in
theorem move_len (n g lb r : Nat) (v : Value) (zs : List Int) (k i m : Int) (p : Value) (w : World) (h : PG n g lb r v zs w) :
    Calls Try.prog 9 #[.pointer (some ⟨g, 0, none⟩), .pointer (some ⟨r, 0, none⟩), moveV 4 k i m p] w fun e w' => e = .returned (.bool true) ∧ Below w.heap.size w w' := by
  have hb := run.below_one w (.cells #[.int .i64 4, .int .i64 k, .int .i64 i, .int .i64 m, p] 37)
  have s0 : (w.alloc (.cells #[.int .i64 4, .int .i64 k, .int .i64 i, .int .i64 m, p] 37)).cell? ⟨w.heap.size, 0, none⟩ = some (.int .i64 4) := World.cell?_alloc_at _ _ _ _ rfl
  have h1 := h.below hb
  obtain ⟨a, c, rfl⟩ := run.own_value h.ref.own
  have c0 := h1.ref.box.cell (i := 0) (by omega)
  have HA := run.hid (fun w' (hs : Same (w.alloc (.cells #[.int .i64 4, .int .i64 k, .int .i64 i, .int .i64 m, p] 37)) w') => gi_len (h1.gap.same hs))
  have HB := run.hid hb
  generalize zs.length = N at *
  clear h h1 hb
  go_enter Try.func9, Try.ntmps9
  go_upto_region 1 with fail
  generalize w.alloc (.cells #[.int .i64 4, .int .i64 k, .int .i64 i, .int .i64 m, p] 37) = w1 at *
  generalize hB : w.heap.size = B at *
  have HD : Hid (Same w1 w1.drew) := Same.drew (Same.refl w1)
  have HK := run.hid (fun w' (hs : Same w1 w') => (Kept.of_same (S := fun _ => False) hs).cellK c0 (fun h => h))
  go_upto_region 37 with fail
  go_region_held3 (fun w' => w'.cell? ⟨r, 0, none⟩ = some (.slice a N c))
    (first
      | assumption
      | exact HK.out _ HD.out
      | exact HK.out _ (HD.out.trans hs2)
      | go_keep
      | (trace_state; fail))
    (first
      | (go_at_call 27; refine (HA.out _ HD.out).mono ?_; rintro e w2 ⟨rfl, hs2⟩))
  all_goals
    have hs := HD.out.trans hs2
    have HF : Hid (Below B w w2) := HB.out.trans ⟨hs.os, hs.tape, hs.output, by rw [hs.heap]; exact Nat.le_refl _, fun k hk => by rw [hs.heap]⟩
    go_wp2
    go_ret
    exact ⟨rfl, by rw [hB]; exact HF.out⟩
end Go.Proofs.Ytgpgbbbcodnieaa.ed
