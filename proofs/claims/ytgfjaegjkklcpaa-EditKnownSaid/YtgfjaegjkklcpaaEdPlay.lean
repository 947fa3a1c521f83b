/-
  One step on an editor (play); is too much typed (typed).
-/
import Derived.Test.YtgfjaegjkklcpaaEdOpen
import Derived.Test.YtgfjaegjkklcpaaEdAlive
namespace Go.Proofs.Ytgfjaegjkklcpaa.ed
open Go Go.RowKit Go.Proofs
set_option linter.unusedVariables false
set_option maxRecDepth 100000 in
set_option maxHeartbeats 2000000 in
theorem typed_any {a : Option Addr} {cap : Nat} {SL : List SV} {w : World} (h : ScriptIn w a SL) (hN : SL.length ≤ 1048576) :
    Calls Try.prog 23 #[.slice a SL.length cap] w fun e w' => (∃ t : Bool, e = .returned (.bool t)) ∧ Below w.heap.size w w' := by
  have HS := run.hid h
  clear h
  generalize hNN : SL.length = N at *
  have HN := run.hid hNN
  clear hNN
  go_enter Try.func23, Try.ntmps23
  go_wp2
  go_loopw [3, 4] (fun vn vi wr => ∃ n i : Nat, i ≤ N ∧ n ≤ 134217728 ∧ vn = .int .i64 n ∧ vi = .int .i64 i ∧ wr = w) (fun _ vi _ => ((N : Int) - intOf vi).toNat)
  case atStart => exact ⟨0, 0, Nat.zero_le _, Nat.zero_le _, rfl, rfl, rfl⟩
  case round =>
    obtain ⟨n, i, hi, hn, rfl, rfl, rfl⟩ := hrel
    by_cases hlt : i < N
    · obtain ⟨b, off, rfl, hb, ⟨c0, c1, c2, c3, c4⟩, ht⟩ := HS.out i (by rw [HN.out]; exact hlt)
      clear HS
      generalize (SL.getD i sv0).t = t at *
      clear c0 c1 c2 c3
      have hts : (n : Int) + 1 + (t.size : Int) ≤ 9223372036854775807 := by omega
      by_cases hbig : 134217728 < n + 1 + t.size
      · have hbI : (134217728 : Int) < (n : Int) + 1 + (t.size : Int) := by omega
        go_wp2
        go_ret
        exact ⟨⟨true, rfl⟩, Below.refl _ _⟩
      · have hbI : ¬ (134217728 : Int) < (n : Int) + 1 + (t.size : Int) := by omega
        go_wp2
        go_roundw
        case rel => exact ⟨n + 1 + t.size, i + 1, by omega, by omega, by go_num, by go_num, by first | rfl | trivial⟩
        case measure => simp [intOf]; omega
    · obtain rfl : i = N := by omega
      clear HS
      go_wp2
      go_ret
      exact ⟨⟨false, rfl⟩, Below.refl _ _⟩
/-- one step -/
def playT (s : Sta) (x : SV) : Bool × Sta :=
  if x.d = 0 then (false, (goT s x.n x.m).2) else if x.d = 1 then insT s x.t else if x.d = 2 then delT s x.n else (false, s)
theorem ok_play {s : Sta} (h : EdOk s) (x : SV) : EdOk (playT s x).2 := by
  unfold playT
  split
  · exact ok_go h _ _
  · split
    · exact ok_ins h _
    · split
      · exact ok_del h _
      · exact h
set_option maxRecDepth 100000 in
set_option maxHeartbeats 2000000 in
theorem play_l {B b : Nat} {s : Sta} {w : World} (h : EdL B b s w) (ok : EdOk s) (hB : B ≤ w.heap.size) (x : SV) (hx : x.t.size ≤ 1048576) :
    Calls Try.prog 24 #[.pointer (some ⟨b, 0, none⟩), .agg x.cells] w fun e w' => e = .returned (.bool (playT s x).1) ∧ EdL B b (playT s x).2 w' ∧ Below B w w' := by
  obtain ⟨d, who, n, m, t⟩ := x
  dsimp only [SV.cells] at hx ⊢
  have HP := run.hid (show playT s ⟨d, who, n, m, t⟩ = if d = 0 then (false, (goT s n m).2) else if d = 1 then insT s t else if d = 2 then delT s n else (false, s) from rfl)
  have hkw := run.below_one w (.cells #[.int .i64 d, .int .i64 who, .int .i64 n, .bool m, .string t] 52)
  have hE := h.below hkw
  have hB1 : B ≤ (w.alloc (.cells #[.int .i64 d, .int .i64 who, .int .i64 n, .bool m, .string t] 52)).heap.size := by rw [World.size_alloc]; omega
  have HG := run.hid (go_l hE ok hB1 n m)
  have HI := run.hid (ins_l hE ok hB1 t (by omega))
  have HD := run.hid (del_l hE ok hB1 n)
  have HB := run.hid (hkw.mono hB)
  have HE := run.hid hE
  have hcel := heap_alloc_new w (.cells #[.int .i64 d, .int .i64 who, .int .i64 n, .bool m, .string t] 52)
  have c0 := blk_cell hcel 0
  have c2 := blk_cell hcel 2
  have c3 := blk_cell hcel 3
  have c4 := blk_cell hcel 4
  change (w.alloc _).cell? _ = some (.int .i64 d) at c0
  change (w.alloc _).cell? _ = some (.int .i64 n) at c2
  change (w.alloc _).cell? _ = some (.bool m) at c3
  change (w.alloc _).cell? _ = some (.string t) at c4
  clear h hkw hE hB1 hcel
  generalize playT s ⟨d, who, n, m, t⟩ = BT at *
  go_enter Try.func24, Try.ntmps24
  go_upto_region 1 with fail
  generalize w.alloc (.cells #[.int .i64 d, .int .i64 who, .int .i64 n, .bool m, .string t] 52) = w1 at *
  by_cases h0 : d = 0
  · subst h0
    have hp := HP.out
    rw [if_pos rfl] at hp
    have HPP := run.hid hp
    clear HI HD HE HP hp
    go_wp2_with fail
    refine HG.out.mono ?_
    rintro e w2 ⟨rfl, hE2, hb2⟩
    have HF := run.hid (And.intro hE2 (HB.out.trans hb2))
    clear HG HB hE2 hb2
    go_wp2
    go_ret
    rw [HPP.out]
    exact ⟨rfl, HF.out⟩
  · by_cases h1 : d = 1
    · subst h1
      have hp := HP.out
      rw [if_neg h0, if_pos rfl] at hp
      have HPP := run.hid hp
      clear HG HD HE HP hp
      go_wp2_with fail
      refine HI.out.mono ?_
      rintro e w2 ⟨rfl, hE2, hb2⟩
      have HF := run.hid (And.intro hE2 (HB.out.trans hb2))
      clear HI HB hE2 hb2
      go_wp2
      go_ret
      rw [HPP.out]
      exact ⟨rfl, HF.out⟩
    · by_cases h2 : d = 2
      · subst h2
        have hp := HP.out
        rw [if_neg h0, if_neg h1, if_pos rfl] at hp
        have HPP := run.hid hp
        clear HG HI HE HP hp
        go_wp2_with fail
        refine HD.out.mono ?_
        rintro e w2 ⟨rfl, hE2, hb2⟩
        have HF := run.hid (And.intro hE2 (HB.out.trans hb2))
        clear HD HB hE2 hb2
        go_wp2
        go_ret
        rw [HPP.out]
        exact ⟨rfl, HF.out⟩
      · have hp := HP.out
        rw [if_neg h0, if_neg h1, if_neg h2] at hp
        have HPP := run.hid hp
        have q0 : ((d == 0) : Bool) = false := by simp [h0]
        have q1 : ((d == 1) : Bool) = false := by simp [h1]
        have q2 : ((d == 2) : Bool) = false := by simp [h2]
        clear HG HI HD HP hp
        go_wp2
        go_ret
        rw [HPP.out]
        exact ⟨rfl, HE.out, HB.out⟩
end Go.Proofs.Ytgfjaegjkklcpaa.ed
