/-
  A pair's step, whatever it is; two pairs, apart.
-/
import Derived.Test.YtdgcfmfjgidbjaaGreatCelPG
import Derived.Test.YtdgcfmfjgidbjaaGreatCelBg
import Derived.Test.YtdgcfmfjgidbjaaGreatCelSa
namespace Go.Proofs.YtdgcfmfjgidbjaaGreat.cel
open Go Go.RowKit Go.Proofs
set_option linter.unusedVariables false
theorem beyondT_len : ∀ (L : List St) (n : Nat), beyondT L n = false → n ≤ 134217728 → n + L.length ≤ 134217728
  | [], _, _, hn => by simpa using hn
  | q :: l, n, h, hn => by
    unfold beyondT at h
    by_cases h1 : 134217728 < n + 1 + q.t.size
    · rw [if_pos h1] at h; cases h
    · rw [if_neg h1] at h
      by_cases h2 : (longT q.row (n + 1 + q.t.size)).2 = true
      · rw [if_pos h2] at h; cases h
      · rw [if_neg h2] at h
        obtain ⟨h3, h4, h5, h6⟩ := longT_fits q.row (n + 1 + q.t.size) (by simpa using h2) (by omega)
        have := beyondT_len l _ h h5
        simp only [List.length_cons]
        omega
theorem pst_any (q : PR) (L : List CV) (w : World) (h : PB q L L w) (hS : Strong q.W q.H L) (hm : q.m = q.n) (hN27 : q.n ≤ 134217728) (s : St) (hf : s.fine w) (h1 : s.t.size ≤ 134217728 ∧ s.row.length ≤ 134217728 ∧ ∀ c ∈ s.row, c.text.size ≤ 134217728) (hfar : ∀ b off, 0 < s.row.length → s.a = some ⟨b, off, none⟩ → ¬ q.blk b) :
    Calls Tryz.prog 6 #[.pointer (some ⟨q.pb, 0, none⟩), .agg s.cells] w fun e w' => e = .returned (.bool true) ∧ After q w w' := by
  obtain ⟨d, x, y, t, sv, r, a, row, cap, by0⟩ := s
  have hr : r.wf := hf.r
  have hs : sv.wf := hf.s
  have ht : t.size ≤ 134217728 := h1.1
  show Calls Tryz.prog 6 #[.pointer (some ⟨q.pb, 0, none⟩), .agg #[.int .i64 d, .int .i64 x, .int .i64 y, .string t, .int .i32 sv.fg, .int .i32 sv.bg, .int .u8 sv.att, .int .i64 r.x, .int .i64 r.y, .int .i64 r.w, .int .i64 r.h, .slice a row.length cap, .int .i64 by0]] w _
  by_cases d1 : d = 1
  · subst d1
    exact pst_put q L w h hS hm x y t sv r _ by0 hs hr ht
  by_cases d2 : d = 2
  · subst d2
    exact pst_fill q L w h hS hm x y t sv r _ by0 hs hr
  by_cases d3 : d = 3
  · subst d3
    exact pst_paste q L w h hS hm x y t sv r a cap row by0 hr hf.reads hf.none hf.le h1.2.1 (fun c hc => ⟨⟨by have := h1.2.2 c hc; omega, (hf.fine c hc).2.1⟩, (hf.fine c hc).2.2.1⟩) hfar
  by_cases d4 : d = 4
  · subst d4
    exact pst_shift q L w h hS hm x y t sv r _ by0 hs hr
  by_cases d5 : d = 5
  · subst d5
    exact pst_cell q L w h hS hm x y _ _ _ _ _ _ _ _ _ _
  by_cases d6 : d = 6
  · subst d6
    exact pst_screen q L w h hS hm hN27 _ _ _ _ _ _ _ _ _ _ _ _
  by_cases d7 : d = 7
  · subst d7
    exact pst_size q L w h hS hm _ _ _ _ _ _ _ _ _ _ _ _
  · exact pst_other q L w h hS hm d (by omega) _ _ _ _ _ _ _ _ _ _ _ _
/-- a pair, or none -/
def Opt : Type := Option (PR × List CV)
def Opt.ptr : Opt → Value
  | none => .pointer none
  | some (q, _) => .pointer (some ⟨q.pb, 0, none⟩)
def Opt.blk : Opt → Nat → Prop
  | none, _ => False
  | some (q, _), k => q.blk k
def Opt.at (B i : Nat) (w : World) : Opt → Prop
  | none => True
  | some (q, L) => PB q L L w ∧ Strong q.W q.H L ∧ q.m = q.n ∧ q.n ≤ i ∧ ∀ k, q.blk k → B ≤ k
theorem Opt.at_lt {o : Opt} {B i : Nat} {w : World} (h : o.at B i w) {k : Nat} (hk : o.blk k) : B ≤ k ∧ k < w.heap.size := by
  match o, h, hk with
  | some (q, L), h, hk => exact ⟨h.2.2.2.2 k hk, h.1.lt hk⟩
theorem Opt.at_kept {o : Opt} {B i : Nat} {w w' : World} {S : Nat → Prop} (h : o.at B i w) (hk : KeptC S w w') (hd : ∀ k, S k → ¬ o.blk k) : o.at B i w' := by
  match o, h, hd with
  | none, _, _ => trivial
  | some (q, L), h, hd => exact ⟨h.1.kept hk hd, h.2⟩
theorem Opt.at_mono {o : Opt} {B i j : Nat} {w : World} (h : o.at B i w) (hij : i ≤ j) : o.at B j w := by
  match o, h with
  | none, _ => trivial
  | some (q, L), h => exact ⟨h.1, h.2.1, h.2.2.1, Nat.le_trans h.2.2.2.1 hij, h.2.2.2.2⟩
/-- two pairs, or one, or none -/
structure Two (B : Nat) (w0 : World) (va vb : Value) (i j : Nat) (X : World) : Prop where
  ex : ∃ oa ob : Opt, va = oa.ptr ∧ vb = ob.ptr ∧ oa.at B i X ∧ ob.at B j X ∧ ∀ k, oa.blk k → ¬ ob.blk k
  be : Below B w0 X
  le : B ≤ X.heap.size
section
variable {B i j : Nat} {w0 X X' : World} {va vb : Value}
theorem Two.swap (h : Two B w0 va vb i j X) : Two B w0 vb va j i X := by
  obtain ⟨⟨oa, ob, h1, h2, h3, h4, h5⟩, h6, h7⟩ := h
  exact ⟨⟨ob, oa, h2, h1, h4, h3, fun k hk hk2 => h5 k hk2 hk⟩, h6, h7⟩
theorem Two.below (h : Two B w0 va vb i j X) (hb : Below X.heap.size X X') : Two B w0 va vb i j X' := by
  obtain ⟨⟨oa, ob, h1, h2, h3, h4, h5⟩, h6, h7⟩ := h
  exact ⟨⟨oa, ob, h1, h2, Opt.at_kept (S := fun _ => False) h3 (KeptC.of_below hb) (fun _ h => h.elim), Opt.at_kept (S := fun _ => False) h4 (KeptC.of_below hb) (fun _ h => h.elim), h5⟩, h6.trans (hb.mono h7), Nat.le_trans h7 hb.size⟩
/-- a step of the one -/
theorem Two.step (h : Two B w0 va vb i j X) (hne : va ≠ .pointer none) (hi : i ≤ 134217728) (s : St) (hf : s.fine w0) (hB : w0.heap.size ≤ B) (h1 : s.t.size ≤ 134217728 ∧ s.row.length ≤ 134217728 ∧ ∀ c ∈ s.row, c.text.size ≤ 134217728) :
    Calls Tryz.prog 6 #[va, .agg s.cells] X fun e w' => e = .returned (.bool true) ∧ Two B w0 va vb (i + 1) j w' := by
  obtain ⟨⟨oa, ob, ha, hb, h3, h4, h5⟩, h6, h7⟩ := h
  match oa, ha, h3, h5 with
  | none, ha, _, _ => exact absurd ha hne
  | some (q, L), ha, h3, h5 =>
    obtain ⟨hP, hS, hm, hn, hbl⟩ := h3
    subst ha
    have hfX : s.fine X := hf.below (h6.mono hB)
    refine (pst_any q L X hP hS hm (by omega) s hfX h1 (fun b off h0 e hk => ?_)).mono ?_
    · have hBb := hbl b hk
      obtain ⟨a', c', e1, e2⟩ := hf.reads
      obtain ⟨b2, o2, e3, e4, -⟩ := e2 0 h0
      simp only [Value.slice.injEq] at e1
      rw [← e1.1, e] at e3
      simp only [Option.some.injEq, Addr.mk.injEq] at e3
      omega
    · rintro e w' ⟨rfl, q', L', hP', hS', hpb, hn', hm', hblk, hk⟩
      refine ⟨rfl, ⟨some (q', L'), ob, ?_, hb, ⟨hP', hS', hm', by omega, fun k hk2 => ?_⟩, Opt.at_kept h4 hk (fun k hk2 hk3 => h5 k (PR.wrt_blk hk2) hk3), fun k hk2 hk3 => ?_⟩, h6.trans (hk.below h7 (fun k hk2 => hbl k (PR.wrt_blk hk2))), Nat.le_trans h7 hk.size⟩
      · show _ = Value.pointer (some ⟨q'.pb, 0, none⟩)
        rw [hpb]
        rfl
      · rcases hblk k hk2 with h8 | h8
        · exact hbl k h8
        · exact Nat.le_trans h7 h8
      · rcases hblk k hk2 with h8 | h8
        · exact h5 k h8 hk3
        · have := (Opt.at_lt h4 hk3).2
          omega
end
end Go.Proofs.YtdgcfmfjgidbjaaGreat.cel
