/-
  A gap of texts that are all alike: NewGap, Len, At, Insert.
-/
import Derived.Test.YtgpgbbbcodnieaaEdGapS
import Derived.Test.YtgpgbbbcodnieaaEdGapM
namespace Go.Proofs.Ytgpgbbbcodnieaa.ed
open Go Go.RowKit Go.Proofs
set_option linter.unusedVariables false
def sv (m : Nat) : List Value := List.replicate m (.string ⟨#[120]⟩)
theorem sv_length (m : Nat) : (sv m).length = m := by unfold sv; simp
theorem sv_one (m : Nat) : ∀ v ∈ sv m, v.oneCell' = true := by
  intro v hv
  obtain ⟨-, rfl⟩ := List.mem_replicate.1 hv
  rfl
theorem sv_get {m k : Nat} (h : k < m) : (sv m)[k]? = some (.string ⟨#[120]⟩) := by unfold sv; simp [h]
theorem sv_more (m : Nat) : (sv m).take m ++ [.string ⟨#[120]⟩] ++ (sv m).drop m = sv (m + 1) := by
  rw [List.take_of_length_le (Nat.le_of_eq (sv_length m)), List.drop_of_length_le (Nat.le_of_eq (sv_length m)), List.append_nil]
  unfold sv
  rw [List.replicate_succ']
/-- the gap of m texts -/
def GapX (g lb m : Nat) (w : World) : Prop := ∃ n cap f u A, edS.G g lb n cap f u A w ∧ HasC (n * 1) (f * 1) (u * 1) A (sv m) ∧ n ≤ 1099511627776 ∧ f + (n - u) = m
theorem GapX.kept {g lb m : Nat} {S : Nat → Prop} {w w' : World} (h : GapX g lb m w) (hk : Kept S w w') (h1 : ¬ S g) (h2 : ¬ S lb) : GapX g lb m w' := by
  obtain ⟨n, cap, f, u, A, hG, hr⟩ := h
  exact ⟨n, cap, f, u, A, hG.kept hk h1 h2, hr⟩
theorem GapX.lt {g lb m : Nat} {w : World} (h : GapX g lb m w) : g < w.heap.size ∧ lb < w.heap.size ∧ g ≠ lb := by
  obtain ⟨n, cap, f, u, A, hG, hr⟩ := h
  exact ⟨(Array.getElem?_eq_some_iff.1 hG.hg).1, (Array.getElem?_eq_some_iff.1 hG.hl).1, hG.ne⟩
theorem gs_len {g lb m : Nat} {w : World} (h : GapX g lb m w) : Calls Try.prog 13 #[.pointer (some ⟨g, 0, none⟩)] w fun e w' => e = .returned (.int .i64 (m : Nat)) ∧ Same w w' := by
  obtain ⟨n, cap, f, u, A, hG, hc, hn, hl⟩ := h
  have := edS.len_any hG (by omega)
  rw [hl] at this
  exact this
theorem gs_new (w : World) :
    Calls Try.prog 7 #[.slice none 0 0] w fun e w' => ∃ g lb, e = .returned (.pointer (some ⟨g, 0, none⟩)) ∧ GapX g lb 0 w' ∧ w.heap.size ≤ g ∧ w.heap.size ≤ lb ∧ Below w.heap.size w w' := by
  refine (edS.new_any none 0 0 [] ⟨rfl, by simp, .inl ⟨rfl, rfl, rfl⟩⟩ (by omega)).mono ?_
  rintro e w' ⟨g, lb, cap, A, rfl, hG, hc, hg, hl, hb⟩
  exact ⟨g, lb, rfl, ⟨_, _, _, _, A, hG, hc, by omega, by omega⟩, hg, hl, hb⟩
theorem gs_insert {g lb m : Nat} {w : World} (h : GapX g lb m w) (a : Option Addr) (c : Nat) (hs : Src 1 w a 1 c [.string ⟨#[120]⟩]) (hm : m ≤ 1073741824) (hfar : ∀ b off, a = some ⟨b, off, none⟩ → b ≠ g ∧ b ≠ lb) :
    Calls Try.prog 10 #[.pointer (some ⟨g, 0, none⟩), .int .i64 (m : Nat), .slice a 1 c] w fun e w' => e = .returned (.bool true) ∧ ∃ lb', GapX g lb' (m + 1) w' ∧ (lb' = lb ∨ w.heap.size ≤ lb') ∧ Kept (fun b => b = g ∨ b = lb) w w' := by
  obtain ⟨n, cap, f, u, A, hG, hc, hn, hl⟩ := h
  refine (edS.insert_any hG hc (sv_one m) m a 1 c [.string ⟨#[120]⟩] hs (by omega) hn (by omega) hfar).mono ?_
  rintro e w' ⟨rfl, lb', n', cap', U', A', hG', hc', hl', hlb, hmx, hk⟩
  refine ⟨rfl, lb', ⟨n', cap', m + 1, U', A', hG', ?_, by omega, ?_⟩, hlb, hk⟩
  · rw [Nat.mul_one m] at hc'
    rw [← sv_more]
    exact hc'
  · omega
def atX (m : Nat) (i : Int) : ByteArray × Bool := if 0 ≤ i ∧ i < m then (⟨#[120]⟩, true) else (⟨#[]⟩, false)
theorem gs_cells {g lb n cap f u : Nat} {A : List Value} {m : Nat} {w : World} (hG : edS.G g lb n cap f u A w) (hc : HasC (n * 1) (f * 1) (u * 1) A (sv m)) (hl : f + (n - u) = m) {k : Nat} (hk : k < m) :
    (k < f → w.cell? ⟨lb, k, none⟩ = some (.string ⟨#[120]⟩)) ∧ (f ≤ k → w.cell? ⟨lb, u + (k - f), none⟩ = some (.string ⟨#[120]⟩)) := by
  have h1 := sv_get hk
  have hfu := hG.fu
  have hun := hG.un
  have hnc := hG.nc
  have hsz := hG.sz
  have hg := has_get hc (by omega) (by omega) (by omega)
  rw [hg] at h1
  refine ⟨fun hlt => ?_, fun hge => ?_⟩
  · rw [if_pos (by omega)] at h1
    rw [blk_cell hG.hl, List.getElem?_toArray]
    exact h1
  · rw [if_neg (by omega), if_pos (by omega)] at h1
    rw [blk_cell hG.hl, List.getElem?_toArray]
    rw [show u * 1 + (k - f * 1) = u + (k - f) by omega] at h1
    exact h1
set_option maxRecDepth 100000 in
set_option maxHeartbeats 2000000 in
theorem gs_at {g lb : Nat} {m : Nat} {w : World} (h : GapX g lb m w) (i : Int) :
    Calls Try.prog 11 #[.pointer (some ⟨g, 0, none⟩), .int .i64 i] w fun e w' => e = .returned (.tuple #[.string (atX m i).1, .bool (atX m i).2]) ∧ Same w w' := by
  have HL := run.hid (gs_len h)
  obtain ⟨n, cap, f, u, A, hG, hc, hn, hl⟩ := h
  have HAT := run.hid (fun k (hk : k < m) => gs_cells hG hc hl hk)
  have HG := run.hid hG
  have hfu := hG.fu
  have hun := hG.un
  have hnc := hG.nc
  have HA := run.hid (show (0 ≤ i ∧ i < m → atX m i = (⟨#[120]⟩, true)) ∧ (¬ (0 ≤ i ∧ i < m) → atX m i = (⟨#[]⟩, false)) from ⟨fun h => if_pos h, fun h => if_neg h⟩)
  generalize atX m i = AA at *
  clear hG hc
  generalize m = N at *
  go_enter Try.func11, Try.ntmps11
  by_cases h0 : i < 0
  · have HAA := run.hid (HA.out.2 (by omega))
    clear HL HAT HG HA
    go_wp2
    go_ret2
    rw [HAA.out]
    exact ⟨rfl, Same.refl _⟩
  · obtain ⟨k, rfl⟩ : ∃ k : Nat, i = k := ⟨i.toNat, by omega⟩
    go_wp2_with fail
    refine HL.out.mono ?_
    rintro e w1 ⟨rfl, hs⟩
    by_cases hk : k < N
    · have haa := HA.out.1 ⟨by omega, by omega⟩
      have hin : ¬ (N : Int) ≤ (k : Int) := by omega
      have hg1 := (Same.ga HG.out hs).hg
      have g0 := blk_cell hg1 0
      have g1 := blk_cell hg1 1
      have g2 := blk_cell hg1 2
      change w1.cell? _ = some (.slice (some ⟨lb, 0, none⟩) n cap) at g0
      change w1.cell? _ = some (.int .i64 (f : Nat)) at g1
      change w1.cell? _ = some (.int .i64 (u : Nat)) at g2
      obtain ⟨ha, hb⟩ := HAT.out k hk
      have hcl : ∀ o v, w.cell? ⟨lb, o, none⟩ = some v → w1.cell? ⟨lb, o, none⟩ = some v := fun o v h => (World.cell?_of_block (a := ⟨lb, o, none⟩) (by rw [hs.heap])).trans h
      have HAA := run.hid haa
      by_cases hf : k < f
      · have x0 := hcl _ _ (ha hf)
        have hkn : k < n := by omega
        have HS := run.hid hs
        clear ha hb hcl HAT HG hg1 HA HL hs haa
        go_wp2
        go_ret2
        rw [HAA.out]
        exact ⟨rfl, HS.out⟩
      · have x0 := hcl _ _ (hb (by omega))
        obtain ⟨q0, hq0⟩ : ∃ q0, q0 = u + (k - f) := ⟨_, rfl⟩
        rw [← hq0] at x0
        have hq0n : q0 < n := by omega
        have hq1 : ((u : Int) + (k : Int) - (f : Int)) = (q0 : Int) := by omega
        have HS := run.hid hs
        clear ha hb hcl HAT HG hg1 HA HL hs haa hq0
        go_upto_region 5 with fail
        go_quiet (fail)
        go_wp2
        go_ret2
        rw [HAA.out]
        exact ⟨rfl, ⟨HS.out.heap, HS.out.os, HS.out.tape, HS.out.output⟩⟩
    · have hin : (N : Int) ≤ (k : Int) := by omega
      have haa := HA.out.2 (by omega)
      have HAA := run.hid haa
      have HS := run.hid hs
      clear HAT HG HA HL hs haa
      go_wp2
      go_ret2
      rw [HAA.out]
      exact ⟨rfl, HS.out⟩
end Go.Proofs.Ytgpgbbbcodnieaa.ed
