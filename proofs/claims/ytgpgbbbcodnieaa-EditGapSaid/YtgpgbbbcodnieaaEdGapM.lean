/-
  A gap of numbers, told of lists of numbers: Len, At, Insert, Delete, All, NewGap.
-/
import Derived.Test.YtgpgbbbcodnieaaEdGapI
import Derived.Test.YtgpgbbbcodnieaaEdC
namespace Go.Proofs.Ytgpgbbbcodnieaa.ed
open Go Go.RowKit Go.Proofs
set_option linter.unusedVariables false
def iv (zs : List Int) : List Value := zs.map (Value.int .i64)
theorem iv_length (zs : List Int) : (iv zs).length = zs.length := by unfold iv; simp
theorem iv_one (zs : List Int) : ∀ v ∈ iv zs, v.oneCell' = true := by
  intro v hv
  obtain ⟨z, -, rfl⟩ := List.mem_map.1 hv
  rfl
theorem iv_take (zs : List Int) (i : Nat) : (iv zs).take i = iv (zs.take i) := by unfold iv; rw [List.map_take]
theorem iv_drop (zs : List Int) (i : Nat) : (iv zs).drop i = iv (zs.drop i) := by unfold iv; rw [List.map_drop]
theorem iv_app (a b : List Int) : iv (a ++ b) = iv a ++ iv b := by unfold iv; rw [List.map_append]
theorem iv_get {zs : List Int} {i : Nat} (h : i < zs.length) : (iv zs)[i]? = some (.int .i64 (zs.getD i 0)) := by
  unfold iv
  rw [List.getElem?_map, List.getD_eq_getElem?_getD, List.getElem?_eq_getElem h]
  rfl
/-- the gap of these numbers -/
def GapI (g lb : Nat) (zs : List Int) (w : World) : Prop := ∃ n cap f u A, edI.G g lb n cap f u A w ∧ HasC (n * 1) (f * 1) (u * 1) A (iv zs) ∧ (n ≤ 17592186043904 ∧ (n ≤ 1099511627776 ∨ zs.length = n)) ∧ f + (n - u) = zs.length
theorem GapI.kept {g lb : Nat} {zs : List Int} {S : Nat → Prop} {w w' : World} (h : GapI g lb zs w) (hk : Kept S w w') (h1 : ¬ S g) (h2 : ¬ S lb) : GapI g lb zs w' := by
  obtain ⟨n, cap, f, u, A, hG, hr⟩ := h
  exact ⟨n, cap, f, u, A, hG.kept hk h1 h2, hr⟩
theorem GapI.same {g lb : Nat} {zs : List Int} {w w' : World} (h : GapI g lb zs w) (hs : Same w w') : GapI g lb zs w' := h.kept (Same.kept (Kept.refl (fun _ => False) w) hs) (fun h => h) (fun h => h)
theorem GapI.lt {g lb : Nat} {zs : List Int} {w : World} (h : GapI g lb zs w) : g < w.heap.size ∧ lb < w.heap.size ∧ g ≠ lb := by
  obtain ⟨n, cap, f, u, A, hG, hr⟩ := h
  exact ⟨(Array.getElem?_eq_some_iff.1 hG.hg).1, (Array.getElem?_eq_some_iff.1 hG.hl).1, hG.ne⟩
theorem gi_len {g lb : Nat} {zs : List Int} {w : World} (h : GapI g lb zs w) : Calls Try.prog 27 #[.pointer (some ⟨g, 0, none⟩)] w fun e w' => e = .returned (.int .i64 (zs.length : Nat)) ∧ Same w w' := by
  obtain ⟨n, cap, f, u, A, hG, hc, hn, hl⟩ := h
  have := edI.len_any hG (by omega)
  rw [hl] at this
  exact this
theorem gi_new (a : Option Addr) (c : Nat) (zs : List Int) (w : World) (hs : Src 1 w a zs.length c (iv zs)) (hm : zs.length ≤ 17592186043904) :
    Calls Try.prog 6 #[.slice a zs.length c] w fun e w' => ∃ g lb, e = .returned (.pointer (some ⟨g, 0, none⟩)) ∧ GapI g lb zs w' ∧ w.heap.size ≤ g ∧ w.heap.size ≤ lb ∧ Below w.heap.size w w' := by
  refine (edI.new_any a zs.length c (iv zs) hs (by omega)).mono ?_
  rintro e w' ⟨g, lb, cap, A, rfl, hG, hc, hg, hl, hb⟩
  exact ⟨g, lb, rfl, ⟨_, _, _, _, A, hG, hc, by omega, by omega⟩, hg, hl, hb⟩
theorem gi_insert {g lb : Nat} {zs : List Int} {w : World} (h : GapI g lb zs w) (i : Nat) (a : Option Addr) (c : Nat) (ys : List Int) (hs : Src 1 w a ys.length c (iv ys)) (hi : i ≤ zs.length) (hz : zs.length ≤ 1073741824) (hy : ys.length ≤ 1073741824) (hfar : ∀ b off, a = some ⟨b, off, none⟩ → b ≠ g ∧ b ≠ lb) :
    Calls Try.prog 26 #[.pointer (some ⟨g, 0, none⟩), .int .i64 (i : Nat), .slice a ys.length c] w fun e w' => e = .returned (.bool true) ∧ ∃ lb', GapI g lb' (zs.take i ++ ys ++ zs.drop i) w' ∧ (lb' = lb ∨ w.heap.size ≤ lb') ∧ Kept (fun b => b = g ∨ b = lb) w w' := by
  obtain ⟨n, cap, f, u, A, hG, hc, hn, hl⟩ := h
  refine (edI.insert_any hG hc (iv_one zs) i a ys.length c (iv ys) hs (by omega) (by omega) (by omega) hfar).mono ?_
  rintro e w' ⟨rfl, lb', n', cap', U', A', hG', hc', hl', hlb, hmx, hk⟩
  refine ⟨rfl, lb', ⟨n', cap', i + ys.length, U', A', hG', ?_, by omega, ?_⟩, hlb, hk⟩
  · rw [iv_app, iv_app, ← iv_take, ← iv_drop]
    rw [Nat.mul_one i] at hc'
    exact hc'
  · rw [List.length_append, List.length_append, List.length_take, List.length_drop]
    omega
set_option maxRecDepth 100000 in
set_option maxHeartbeats 2000000 in
theorem gi_insert_out {g lb : Nat} {zs : List Int} {w : World} (h : GapI g lb zs w) (i : Int) (a : Option Addr) (n c : Nat) (hi : i < 0 ∨ (zs.length : Int) < i) :
    Calls Try.prog 26 #[.pointer (some ⟨g, 0, none⟩), .int .i64 i, .slice a n c] w fun e w' => e = .returned (.bool false) ∧ Same w w' := by
  have HL := run.hid (gi_len h)
  clear h
  generalize zs.length = N at *
  go_enter Try.func26, Try.ntmps26
  by_cases h0 : i < 0
  · clear HL hi
    go_wp2
    go_ret
    exact ⟨rfl, Same.refl _⟩
  · have h1 : (N : Int) < i := by omega
    clear hi
    go_wp2_with fail
    refine HL.out.mono ?_
    rintro e w1 ⟨rfl, hs⟩
    have HS := run.hid hs
    clear hs HL
    go_wp2
    go_ret
    exact ⟨rfl, HS.out⟩
theorem gi_delete {g lb : Nat} {zs : List Int} {w : World} (h : GapI g lb zs w) (i mm : Nat) (hi : i ≤ zs.length) (hz : zs.length ≤ 1073741824) (h1 : 1 ≤ mm) :
    Calls Try.prog 30 #[.pointer (some ⟨g, 0, none⟩), .int .i64 (i : Nat), .int .i64 (mm : Nat)] w fun e w' => ∃ v lb', e = .returned v ∧ w'.ownsRow w.heap.size 3 1 v (min mm (zs.length - i)) (iv ((zs.drop i).take (min mm (zs.length - i)))) ∧ GapI g lb' (zs.take i ++ zs.drop (i + min mm (zs.length - i))) w' ∧ (lb' = lb ∨ w.heap.size ≤ lb') ∧ v.ownBlock ≠ some lb' ∧ Kept (fun b => b = g ∨ b = lb) w w' := by
  obtain ⟨n, cap, f, u, A, hG, hc, hn, hl⟩ := h
  refine (edI.delete_any hG hc (iv_one zs) i mm (min mm (zs.length - i)) (by omega) (by omega) h1 (by rw [hl])).mono ?_
  rintro e w' ⟨v, rfl, hown, lb', n', cap', U', A', hG', hc', hl', hlb, hmx, hne, hk⟩
  rw [Nat.mul_one, Nat.mul_one, iv_drop, iv_take] at hown
  refine ⟨v, lb', rfl, hown, ⟨n', cap', i, U', A', hG', ?_, by omega, ?_⟩, hlb, hne, hk⟩
  · rw [iv_app, ← iv_take, ← iv_drop]
    rw [Nat.mul_one (i + _)] at hc'
    rw [Nat.mul_one i] at hc' ⊢
    exact hc'
  · rw [List.length_append, List.length_take, List.length_drop]
    omega
set_option maxRecDepth 100000 in
set_option maxHeartbeats 2000000 in
theorem gi_delete_out {g lb : Nat} {zs : List Int} {w : World} (h : GapI g lb zs w) (i m : Int) (hi : (i < 0 ∨ (zs.length : Int) < i) ∨ m < 1) :
    Calls Try.prog 30 #[.pointer (some ⟨g, 0, none⟩), .int .i64 i, .int .i64 m] w fun e w' => e = .returned (.slice none 0 0) ∧ Same w w' := by
  have HL := run.hid (gi_len h)
  clear h
  generalize zs.length = N at *
  go_enter Try.func30, Try.ntmps30
  by_cases h0 : i < 0
  · clear HL hi
    go_wp2
    go_ret
    exact ⟨rfl, Same.refl _⟩
  · by_cases h1 : (N : Int) < i
    · clear hi
      go_wp2_with fail
      refine HL.out.mono ?_
      rintro e w1 ⟨rfl, hs⟩
      have HS := run.hid hs
      clear hs HL
      go_wp2
      go_ret
      exact ⟨rfl, HS.out⟩
    · have h2 : m < 1 := by omega
      clear hi
      go_wp2_with fail
      refine HL.out.mono ?_
      rintro e w1 ⟨rfl, hs⟩
      have HS := run.hid hs
      clear hs HL
      go_wp2
      go_ret
      exact ⟨rfl, HS.out⟩
theorem gi_all {g lb : Nat} {zs : List Int} {w : World} (h : GapI g lb zs w) :
    Calls Try.prog 35 #[.pointer (some ⟨g, 0, none⟩)] w fun e w' => ∃ v, e = .returned v ∧ w'.ownsRow w.heap.size 3 1 v zs.length (iv zs) ∧ Below w.heap.size w w' := by
  obtain ⟨n, cap, f, u, A, hG, hc, hn, hl⟩ := h
  have := edI.all_any hG hc (iv_one zs) hn.1
  rw [hl] at this
  exact this
def atI (zs : List Int) (i : Int) : Int × Bool := if 0 ≤ i ∧ i < zs.length then (zs.getD i.toNat 0, true) else (0, false)
theorem gi_cells {g lb n cap f u : Nat} {A : List Value} {zs : List Int} {w : World} (hG : edI.G g lb n cap f u A w) (hc : HasC (n * 1) (f * 1) (u * 1) A (iv zs)) (hl : f + (n - u) = zs.length) {k : Nat} (hk : k < zs.length) :
    (k < f → w.cell? ⟨lb, k, none⟩ = some (.int .i64 (zs.getD k 0))) ∧ (f ≤ k → w.cell? ⟨lb, u + (k - f), none⟩ = some (.int .i64 (zs.getD k 0))) := by
  have h1 := iv_get hk
  have hfu := hG.fu
  have hun := hG.un
  have hnc := hG.nc
  have hsz := hG.sz
  have hg := has_get hc (by omega) (by omega) (by omega)
  rw [hg] at h1
  refine ⟨fun hlt => ?_, fun hge => ?_⟩
  · rw [if_pos (by omega)] at h1
    rw [blk_cell hG.hl, List.getElem?_toArray]
    exact h1
  · rw [if_neg (by omega), if_pos (by omega)] at h1
    rw [blk_cell hG.hl, List.getElem?_toArray]
    rw [show u * 1 + (k - f * 1) = u + (k - f) by omega] at h1
    exact h1
set_option maxRecDepth 100000 in
set_option maxHeartbeats 2000000 in
theorem gi_at {g lb : Nat} {zs : List Int} {w : World} (h : GapI g lb zs w) (i : Int) :
    Calls Try.prog 32 #[.pointer (some ⟨g, 0, none⟩), .int .i64 i] w fun e w' => e = .returned (.tuple #[.int .i64 (atI zs i).1, .bool (atI zs i).2]) ∧ Same w w' := by
  have HL := run.hid (gi_len h)
  obtain ⟨n, cap, f, u, A, hG, hc, hn, hl⟩ := h
  have HAT := run.hid (fun k (hk : k < zs.length) => gi_cells hG hc hl hk)
  have HG := run.hid hG
  have hfu := hG.fu
  have hun := hG.un
  have hnc := hG.nc
  have HA := run.hid (show (0 ≤ i ∧ i < zs.length → atI zs i = (zs.getD i.toNat 0, true)) ∧ (¬ (0 ≤ i ∧ i < zs.length) → atI zs i = (0, false)) from ⟨fun h => if_pos h, fun h => if_neg h⟩)
  generalize atI zs i = AA at *
  clear hG hc
  generalize zs.length = N at *
  go_enter Try.func32, Try.ntmps32
  by_cases h0 : i < 0
  · have HAA := run.hid (HA.out.2 (by omega))
    clear HL HAT HG HA
    go_wp2
    go_ret2
    rw [HAA.out]
    exact ⟨rfl, Same.refl _⟩
  · obtain ⟨k, rfl⟩ : ∃ k : Nat, i = k := ⟨i.toNat, by omega⟩
    go_wp2_with fail
    refine HL.out.mono ?_
    rintro e w1 ⟨rfl, hs⟩
    by_cases hk : k < N
    · have haa := HA.out.1 ⟨by omega, by omega⟩
      rw [Int.toNat_natCast] at haa
      have hin : ¬ (N : Int) ≤ (k : Int) := by omega
      have hg1 := (Same.ga HG.out hs).hg
      have g0 := blk_cell hg1 0
      have g1 := blk_cell hg1 1
      have g2 := blk_cell hg1 2
      change w1.cell? _ = some (.slice (some ⟨lb, 0, none⟩) n cap) at g0
      change w1.cell? _ = some (.int .i64 (f : Nat)) at g1
      change w1.cell? _ = some (.int .i64 (u : Nat)) at g2
      obtain ⟨ha, hb⟩ := HAT.out k hk
      have hcl : ∀ o v, w.cell? ⟨lb, o, none⟩ = some v → w1.cell? ⟨lb, o, none⟩ = some v := fun o v h => (World.cell?_of_block (a := ⟨lb, o, none⟩) (by rw [hs.heap])).trans h
      generalize zs.getD k 0 = z at *
      have HAA := run.hid haa
      by_cases hf : k < f
      · have x0 := hcl _ _ (ha hf)
        have hkn : k < n := by omega
        have HS := run.hid hs
        clear ha hb hcl HAT HG hg1 HA HL hs haa
        go_wp2
        go_ret2
        rw [HAA.out]
        exact ⟨rfl, HS.out⟩
      · have x0 := hcl _ _ (hb (by omega))
        obtain ⟨q0, hq0⟩ : ∃ q0, q0 = u + (k - f) := ⟨_, rfl⟩
        rw [← hq0] at x0
        have hq0n : q0 < n := by omega
        have hq1 : ((u : Int) + (k : Int) - (f : Int)) = (q0 : Int) := by omega
        have HS := run.hid hs
        clear ha hb hcl HAT HG hg1 HA HL hs haa hq0
        go_upto_region 5 with fail
        go_quiet (fail)
        go_wp2
        go_ret2
        rw [HAA.out]
        exact ⟨rfl, ⟨HS.out.heap, HS.out.os, HS.out.tape, HS.out.output⟩⟩
    · have hin : (N : Int) ≤ (k : Int) := by omega
      have haa := HA.out.2 (by omega)
      have HAA := run.hid haa
      have HS := run.hid hs
      clear HAT HG HA HL hs haa
      go_wp2
      go_ret2
      rw [HAA.out]
      exact ⟨rfl, HS.out⟩
end Go.Proofs.Ytgpgbbbcodnieaa.ed
