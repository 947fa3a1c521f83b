/-
  The walk of a pair's step: Paste. (Printed by gen_celpg.py.)
-/
import Derived.Test.YtdgcfmfjgidbjaaGreatCelPD
namespace Go.Proofs.YtdgcfmfjgidbjaaGreat.cel
open Go Go.RowKit Go.Proofs
set_option linter.unusedVariables false
/-- a pair, the box of the step, its row and the one that is handed in -/
structure PX (q : PR) (n : Nat) (cs : Array Value) (L R : List CV) (w0 : World) (a : Option Addr) (cap : Nat) (T : List CV) (g3 c3 : Nat) (X : World) : Prop where
  cx : CX q n cs L R w0 X
  rd : Reads5 X (.slice a T.length cap) T
  ow : X.ownsRow n 59 5 (.slice (some ⟨g3, 0, none⟩) (T.length + 2) c3) (T.length + 2) (cells5 (lentT T))
  fa : ∀ b off, 0 < T.length → a = some ⟨b, off, none⟩ → ¬ q.blk b
section
variable {q : PR} {n : Nat} {cs : Array Value} {L R L' R' T : List CV} {w0 X X' : World} {a : Option Addr} {cap g3 c3 : Nat}
theorem PX.below (h : PX q n cs L R w0 a cap T g3 c3 X) (hb : Below X.heap.size X X') : PX q n cs L R w0 a cap T g3 c3 X' := ⟨h.cx.below hb, h.rd.below hb, run.own_below h.ow hb, h.fa⟩
theorem PX.g3n (h : PX q n cs L R w0 a cap T g3 c3 X) : n ≤ g3 := (h.ow.lt g3 rfl).1
theorem PX.prog (h : PX q n cs L R w0 a cap T g3 c3 X) (hb : Buf X' q.b q.g q.W q.H L') (hg : X.grownBy X' (some q.g)) : PX q n cs L' R w0 a cap T g3 c3 X' :=
  ⟨h.cx.prog hb hg, h.rd.grownV hg (fun b off h0 e e2 => h.fa b off h0 e (by simp only [Option.some.injEq] at e2; exact .inr (.inr (.inl e2.symm)))), run.own_kept h.ow hg (fun k e e2 => by
    have h1 := (h.ow.lt k e).1
    have h2 := h.cx.fr q.g (.inr (.inr (.inl rfl)))
    simp only [Option.some.injEq] at e2
    omega), h.fa⟩
theorem PX.ref (h : PX q n cs L R w0 a cap T g3 c3 X) (hb : RB X' (q.r + 1) q.r q.vr q.W q.H R') (hg : X.grownBy X' q.vr.ownBlock) : PX q n cs L R' w0 a cap T g3 c3 X' :=
  ⟨h.cx.ref hb hg, h.rd.grownV hg (fun b off h0 e e2 => h.fa b off h0 e (.inr (.inr (.inr (.inr (.inl e2)))))), run.own_kept h.ow hg (fun k e e2 => by
    have h1 := (h.ow.lt k e).1
    have h2 := h.cx.fr k (.inr (.inr (.inr (.inr (.inl e2)))))
    omega), h.fa⟩
/-- where only the row handed in is turned -/
theorem CX.own (h : CX q n cs L R w0 X) (hg : X.grownBy X' (some g3)) (h3 : n ≤ g3) (hw : w0.heap.size ≤ g3) : PB q L R X' ∧ KeptC q.wrt w0 X' :=
  ⟨h.pb.kept (S := fun k => k = g3) (KeptC.of_grown hg (fun k e => by simp only [Option.some.injEq] at e; exact e.symm)) (fun k e hk => by have := h.fr k hk; omega), h.kp.trans (KeptC.of_grown (S := fun k => k = g3) hg (fun k e => by simp only [Option.some.injEq] at e; exact e.symm)) (fun k hk e => by omega)⟩
end
set_option maxRecDepth 100000 in
set_option maxHeartbeats 8000000 in
theorem pst_paste (q : PR) (L : List CV) (w : World) (h : PB q L L w) (hS : Strong q.W q.H L) (hm : q.m = q.n) (x y : Int) (t : ByteArray) (s : SV) (r : RT) (a : Option Addr) (cap : Nat) (R : List CV) (by0 : Int) (hr : r.wf) (hRd : Reads5 w (.slice a R.length cap) R) (h0 : a = none → cap = 0) (hle : R.length ≤ cap) (hR27 : R.length ≤ 134217728) (hF : ∀ c ∈ R, Fit c ∧ c.sty.wf) (hfar : ∀ b off, 0 < R.length → a = some ⟨b, off, none⟩ → ¬ q.blk b) :
    Calls Tryz.prog 6 #[.pointer (some ⟨q.pb, 0, none⟩), .agg #[.int .i64 3, .int .i64 x, .int .i64 y, .string t, .int .i32 s.fg, .int .i32 s.bg, .int .u8 s.att, .int .i64 r.x, .int .i64 r.y, .int .i64 r.w, .int .i64 r.h, .slice a R.length cap, .int .i64 by0]] w fun e w' => e = .returned (.bool true) ∧ After q w w' := by
  have hC := CX.start h #[.int .i64 3, .int .i64 x, .int .i64 y, .string t, .int .i32 s.fg, .int .i32 s.bg, .int .u8 s.att, .int .i64 r.x, .int .i64 r.y, .int .i64 r.w, .int .i64 r.h, .slice a R.length cap, .int .i64 by0]
  have s0 := hC.c 0
  have s11 := hC.c 11
  have hll : (lentT R).length = R.length + 2 := lent_len2 R
  have HLE := run.hid (fun (X : World) (hx : CX q w.heap.size #[.int .i64 3, .int .i64 x, .int .i64 y, .string t, .int .i32 s.fg, .int .i32 s.bg, .int .u8 s.att, .int .i64 r.x, .int .i64 r.y, .int .i64 r.w, .int .i64 r.h, .slice a R.length cap, .int .i64 by0] L L w X) (hrx : Reads5 X (.slice a R.length cap) R) => show Calls Tryz.prog 16 #[.slice a R.length cap] X (fun e w' => (∃ g3 c3, e = .returned (.slice (some ⟨g3, 0, none⟩) (R.length + 2 : Nat) c3) ∧ R.length + 2 ≤ c3 ∧ PX q w.heap.size #[.int .i64 3, .int .i64 x, .int .i64 y, .string t, .int .i32 s.fg, .int .i32 s.bg, .int .u8 s.att, .int .i64 r.x, .int .i64 r.y, .int .i64 r.w, .int .i64 r.h, .slice a R.length cap, .int .i64 by0] L L w a cap R g3 c3 w') ∧ Below X.heap.size X w') from
      (lent_any a cap R X hrx h0 (by omega)).mono fun e w' ⟨v, he, hrow, hb⟩ => by
        refine ⟨?_, hb⟩
        have hs1 : w.heap.size ≤ X.heap.size := hx.kp.size
        rcases hrow.2 with ⟨-, h0⟩ | ⟨g3, c3, cur, rfl, -, -, h1, -⟩
        · omega
        · exact ⟨g3, c3, he, by omega, hx.below hb, hrx.below hb, run.own_mono hrow hs1, hfar⟩)
  have hG := (hS.nice (fun _ => False)).good
  have hW := h.buf.wide
  have hH := h.buf.high
  obtain ⟨L1, hL1⟩ : ∃ L1, L1 = if wholeT R = true then pasteT q.W (letIn r q.W q.H) y (farR x) R L else L := ⟨_, rfl⟩
  obtain ⟨ev, hev⟩ : ∃ ev : Int, ev = if wholeT R = true then 0 else 180 := ⟨_, rfl⟩
  have hL2 : L1 = if wholeT R = true then pasteT q.W (letIn r q.W q.H) y (farX x) R L else L := by
    rw [hL1, paste_far (let_in r q.W q.H hW hH).2 hW hR27]
  have HP := run.hid (fun g3 c3 (hc3 : R.length + 2 ≤ c3) X (hx : PX q w.heap.size #[.int .i64 3, .int .i64 x, .int .i64 y, .string t, .int .i32 s.fg, .int .i32 s.bg, .int .u8 s.att, .int .i64 r.x, .int .i64 r.y, .int .i64 r.w, .int .i64 r.h, .slice a R.length cap, .int .i64 by0] L L w a cap R g3 c3 X) => show Calls Tryz.prog 17 #[.pointer (some ⟨q.b, 0, none⟩), .int .i64 x, .int .i64 y, .slice (some ⟨g3, 0, none⟩) R.length c3, r.val] X (fun e w' => e = .returned (.int .i64 ev) ∧ PX q w.heap.size #[.int .i64 3, .int .i64 x, .int .i64 y, .string t, .int .i32 s.fg, .int .i32 s.bg, .int .u8 s.att, .int .i64 r.x, .int .i64 r.y, .int .i64 r.w, .int .i64 r.h, .slice a R.length cap, .int .i64 by0] L1 L w a cap R g3 c3 w') from by
    have hown := hx.ow
    rw [← hll] at hown
    have hrd := reads5_own hown
    rw [hll] at hrd
    refine (paste_any q.b q.g q.W q.H L x y (some ⟨g3, 0, none⟩) c3 R r X hx.cx.pb.buf hG hr (reads5_lent2 hrd) (by omega) (by omega) (fun c hc => (hF c hc).1) (fun b off e => ?_)).mono ?_
    · have h1 := hx.g3n
      have h2 := hx.cx.fr q.g (.inr (.inr (.inl rfl)))
      simp only [Option.some.injEq, Addr.mk.injEq] at e
      omega
    · rintro e w' ⟨he, hb, -, hg⟩
      rw [← hL2] at hb
      rw [← hev] at he
      exact ⟨he, hx.prog hb hg⟩)
  have HR := run.hid (fun g3 c3 X (hx : PX q w.heap.size #[.int .i64 3, .int .i64 x, .int .i64 y, .string t, .int .i32 s.fg, .int .i32 s.bg, .int .u8 s.att, .int .i64 r.x, .int .i64 r.y, .int .i64 r.w, .int .i64 r.h, .slice a R.length cap, .int .i64 by0] L1 L w a cap R g3 c3 X) => show Calls Tryz.prog 18 #[.pointer (some ⟨q.r, 0, none⟩), .int .i64 x, .int .i64 y, .slice a R.length cap, r.val] X (fun e w' => e = .returned (.int .i64 ev) ∧ PX q w.heap.size #[.int .i64 3, .int .i64 x, .int .i64 y, .string t, .int .i32 s.fg, .int .i32 s.bg, .int .u8 s.att, .int .i64 r.x, .int .i64 r.y, .int .i64 r.w, .int .i64 r.h, .slice a R.length cap, .int .i64 by0] L1 L1 w a cap R g3 c3 w' ∧ Strong q.W q.H L1) from by
    refine (rpaste_any (q.r + 1) q.r q.W q.H q.vr L x y a cap R r X hx.cx.pb.rb hS hr hx.rd hR27 hF (fun b off h0 e e2 => hfar b off h0 e (.inr (.inr (.inr (.inr (.inl e2))))))).mono ?_
    rintro e w' ⟨he, ⟨hb, hs⟩, hg⟩
    rw [← hL1] at hb hs
    rw [← hev] at he
    exact ⟨he, hx.ref hb hg, hs⟩)
  have HST := run.hid (fun g3 c3 X (hx : PX q w.heap.size #[.int .i64 3, .int .i64 x, .int .i64 y, .string t, .int .i32 s.fg, .int .i32 s.bg, .int .u8 s.att, .int .i64 r.x, .int .i64 r.y, .int .i64 r.w, .int .i64 r.h, .slice a R.length cap, .int .i64 by0] L1 L1 w a cap R g3 c3 X) => show Calls Tryz.prog 19 #[.slice (some ⟨g3, 0, none⟩) (R.length + 2 : Nat) c3, .slice a R.length cap] X (fun e w' => e = .returned (.bool true) ∧ Below X.heap.size X w') from by
    have hown := hx.ow
    rw [← hll] at hown ⊢
    have h1 := stays_any (some ⟨g3, 0, none⟩) a c3 cap (lentT R) R X (reads5_own hown) hx.rd h0 (by omega) (by omega)
    rw [decide_eq_true rfl] at h1
    exact h1)
  have HK := run.hid (fun L' R' g3 c3 X (hx : PX q w.heap.size #[.int .i64 3, .int .i64 x, .int .i64 y, .string t, .int .i32 s.fg, .int .i32 s.bg, .int .u8 s.att, .int .i64 r.x, .int .i64 r.y, .int .i64 r.w, .int .i64 r.h, .slice a R.length cap, .int .i64 by0] L' R' w a cap R g3 c3 X) =>
    (⟨hx.cx.p0, hx.cx.p1, hx.cx.c 1, hx.cx.c 2, hx.cx.c 7, hx.cx.c 8, hx.cx.c 9, hx.cx.c 10, hx.cx.c 11⟩ : (X).cell? ⟨q.pb, 0, none⟩ = some (.pointer (some ⟨q.b, 0, none⟩)) ∧ (X).cell? ⟨q.pb, 1, none⟩ = some (.pointer (some ⟨q.r, 0, none⟩)) ∧ (X).cell? ⟨w.heap.size, 1, none⟩ = some (.int .i64 x) ∧ (X).cell? ⟨w.heap.size, 2, none⟩ = some (.int .i64 y) ∧ (X).cell? ⟨w.heap.size, 7, none⟩ = some (.int .i64 r.x) ∧ (X).cell? ⟨w.heap.size, 8, none⟩ = some (.int .i64 r.y) ∧ (X).cell? ⟨w.heap.size, 9, none⟩ = some (.int .i64 r.w) ∧ (X).cell? ⟨w.heap.size, 10, none⟩ = some (.int .i64 r.h) ∧ (X).cell? ⟨w.heap.size, 11, none⟩ = some (.slice a R.length cap)))
  have hRd1 := hRd.below (run.below_one w (.cells #[.int .i64 3, .int .i64 x, .int .i64 y, .string t, .int .i32 s.fg, .int .i32 s.bg, .int .u8 s.att, .int .i64 r.x, .int .i64 r.y, .int .i64 r.w, .int .i64 r.h, .slice a R.length cap, .int .i64 by0] 37))
  have HM := run.hid hm
  clear h hS hG hL1 hL2 hev hF hfar hRd hW hH hm hr hll
  obtain ⟨sf, sb, sa⟩ := s
  obtain ⟨r1, r2, r3, r4⟩ := r
  dsimp only at *
  change Hid (∀ g3 c3, _ → ∀ X, _ → Calls _ _ #[_, _, _, _, .agg #[.int .i64 r1, .int .i64 r2, .int .i64 r3, .int .i64 r4]] _ _) at HP
  change Hid (∀ g3 c3 X, _ → Calls _ _ #[_, _, _, _, .agg #[.int .i64 r1, .int .i64 r2, .int .i64 r3, .int .i64 r4]] _ _) at HR
  generalize hrl : R.length = N at *
  have HRL := run.hid hrl
  clear hrl
  go_enter Tryz.func6, Tryz.ntmps6
  go_upto_region 1 with fail
  generalize w.alloc (.cells #[.int .i64 3, .int .i64 x, .int .i64 y, .string t, .int .i32 sf, .int .i32 sb, .int .u8 sa, .int .i64 r1, .int .i64 r2, .int .i64 r3, .int .i64 r4, .slice a N cap, .int .i64 by0] 37) = w1 at *
  generalize hn : w.heap.size = n at *
  change w1.cell? _ = some (.int .i64 3) at s0
  change w1.cell? _ = some (.slice a N cap) at s11
  go_upto_region 8 with fail
  clear s0
  go_wp2_with fail
  refine (HLE.out _ hC hRd1).mono ?_
  rintro e w2 ⟨⟨g3, c3, rfl, hc3, hX2⟩, hb2⟩
  clear hb2 hC hRd1 HLE s11
  have hc3b : (N : Int) ≤ (c3 : Int) := by omega
  go_upto_region 9 with fail
  have k2 := HK.out _ _ _ _ _ hX2
  have kd := HK.out _ _ _ _ _ (hX2.below (Below.drew (Below.refl _ w2)))
  go_cut [6] (fun c X => c = .int .i64 ev ∧ Hid (PX q n #[.int .i64 3, .int .i64 x, .int .i64 y, .string t, .int .i32 sf, .int .i32 sb, .int .u8 sa, .int .i64 r1, .int .i64 r2, .int .i64 r3, .int .i64 r4, .slice a N cap, .int .i64 by0] L1 L w a cap R g3 c3 X))
  case first =>
    refine run.alone (by assumption) (by assumption) ?_
    go_light
    intro _ _ _ _
    go_region_held3 (fun X => (X).cell? ⟨q.pb, 0, none⟩ = some (.pointer (some ⟨q.b, 0, none⟩)) ∧ (X).cell? ⟨q.pb, 1, none⟩ = some (.pointer (some ⟨q.r, 0, none⟩)) ∧ (X).cell? ⟨n, 1, none⟩ = some (.int .i64 x) ∧ (X).cell? ⟨n, 2, none⟩ = some (.int .i64 y) ∧ (X).cell? ⟨n, 7, none⟩ = some (.int .i64 r1) ∧ (X).cell? ⟨n, 8, none⟩ = some (.int .i64 r2) ∧ (X).cell? ⟨n, 9, none⟩ = some (.int .i64 r3) ∧ (X).cell? ⟨n, 10, none⟩ = some (.int .i64 r4) ∧ (X).cell? ⟨n, 11, none⟩ = some (.slice a N cap))
      (first
        | with_reducible assumption
        | (trace_state; fail))
      (first
        | (go_at_call 17; refine (HP.out _ _ hc3 _ (hX2.below (Below.drew (Below.refl _ w2)))).mono ?_; rintro e w7 ⟨rfl, hX7⟩; have k7 := HK.out _ _ _ _ _ hX7))
    all_goals
      have HX := run.hid hX7
      go_wp2
      go_meet
      case rel => exact ⟨rfl, HX⟩
  obtain ⟨rfl, hX7h⟩ := hcut
  have hX7 := hX7h.out
  clear k2 kd hX2 hX7h HP
  generalize wc = w7 at *
  go_upto_region 10 with fail
  have k7 := HK.out _ _ _ _ _ hX7
  have kd := HK.out _ _ _ _ _ (hX7.below (Below.drew (Below.refl _ w7)))
  go_cut [7] (fun c X => c = .int .i64 ev ∧ Hid (PX q n #[.int .i64 3, .int .i64 x, .int .i64 y, .string t, .int .i32 sf, .int .i32 sb, .int .u8 sa, .int .i64 r1, .int .i64 r2, .int .i64 r3, .int .i64 r4, .slice a N cap, .int .i64 by0] L1 L1 w a cap R g3 c3 X ∧ Strong q.W q.H L1))
  case first =>
    refine run.alone (by assumption) (by assumption) ?_
    go_light
    intro _ _ _ _
    go_region_held3 (fun X => (X).cell? ⟨q.pb, 0, none⟩ = some (.pointer (some ⟨q.b, 0, none⟩)) ∧ (X).cell? ⟨q.pb, 1, none⟩ = some (.pointer (some ⟨q.r, 0, none⟩)) ∧ (X).cell? ⟨n, 1, none⟩ = some (.int .i64 x) ∧ (X).cell? ⟨n, 2, none⟩ = some (.int .i64 y) ∧ (X).cell? ⟨n, 7, none⟩ = some (.int .i64 r1) ∧ (X).cell? ⟨n, 8, none⟩ = some (.int .i64 r2) ∧ (X).cell? ⟨n, 9, none⟩ = some (.int .i64 r3) ∧ (X).cell? ⟨n, 10, none⟩ = some (.int .i64 r4) ∧ (X).cell? ⟨n, 11, none⟩ = some (.slice a N cap))
      (first
        | with_reducible assumption
        | (trace_state; fail))
      (first
        | (go_at_call 18; refine (HR.out _ _ _ (hX7.below (Below.drew (Below.refl _ w7)))).mono ?_; rintro e w8 ⟨rfl, hX8, hS8⟩; have k8 := HK.out _ _ _ _ _ hX8))
    all_goals
      have HX := run.hid (And.intro hX8 hS8)
      go_wp2
      go_meet
      case rel => exact ⟨rfl, HX⟩
  obtain ⟨rfl, hX8h⟩ := hcut
  obtain ⟨hX8, hS8⟩ := hX8h.out
  have HS8 := run.hid hS8
  clear k7 kd hX7 hX8h HR hS8
  generalize wc = w8 at *
  have k8 := (HK.out _ _ _ _ _ hX8).2.2.2.2.2.2.2.2
  clear HK
  go_upto_region 11 with fail
  go_wp2_with fail
  refine (HST.out _ _ _ hX8).mono ?_
  rintro e w9 ⟨rfl, hb9⟩
  have hX9 := hX8.below hb9
  have h3n := hX9.g3n
  have hg3 : g3 < w9.heap.size := (hX9.ow.lt g3 rfl).2
  have hw3 : w.heap.size ≤ g3 := by omega
  have HFIN := run.hid (fun X (hg : w9.grownBy X (some g3)) => (⟨q, L1, (hX9.cx.own hg h3n hw3).1, HS8.out, rfl, Nat.le_succ _, HM.out, fun k hk => .inl hk, (hX9.cx.own hg h3n hw3).2⟩ : After q w X))
  have HO := run.hid hX9.ow
  rw [HRL.out] at HO
  clear hX8 hb9 hX9 HST k8 HS8 h3n hw3
  go_wp2
  generalize w9 = wz at *
  have hM27 : N + 2 ≤ 134217730 := by omega
  generalize hMM : N + 2 = M at *
  clear hMM HRL
  go_loopw [9] (fun vk wr => ∃ (k : Nat) (xs : List Value), k ≤ M ∧ vk = .int .i64 k ∧ Hid (wr.ownsRow n 59 5 (.slice (some ⟨g3, 0, none⟩) M c3) M xs) ∧ Hid (wz.grownBy wr (some g3))) (fun vk _ => ((M : Int) - intOf vk).toNat)
  case atStart => exact ⟨0, _, by omega, rfl, HO, World.grownBy.refl _ _⟩
  case round =>
    obtain ⟨k, xs, hk, rfl, HO, HGR⟩ := hrel
    by_cases hkl : k < M
    · have hown := HO.out
      have hgr := HGR.out
      have hxl := hown.1
      obtain ⟨q0, hu0⟩ : ∃ u, xs[k * 5]? = some u := ⟨_, List.getElem?_eq_getElem (by rw [hxl]; omega)⟩
      have hq0 := (hown.cellAt (k * 5) (by omega)).trans hu0
      have hf0 := hown.frozenAt (k * 5)
      clear hu0
      obtain ⟨q1, hu1⟩ : ∃ u, xs[k * 5 + 1]? = some u := ⟨_, List.getElem?_eq_getElem (by rw [hxl]; omega)⟩
      have hq1 := (hown.cellAt (k * 5 + 1) (by omega)).trans hu1
      have hf1 := hown.frozenAt (k * 5 + 1)
      clear hu1
      obtain ⟨q2, hu2⟩ : ∃ u, xs[k * 5 + 2]? = some u := ⟨_, List.getElem?_eq_getElem (by rw [hxl]; omega)⟩
      have hq2 := (hown.cellAt (k * 5 + 2) (by omega)).trans hu2
      have hf2 := hown.frozenAt (k * 5 + 2)
      clear hu2
      obtain ⟨q3, hu3⟩ : ∃ u, xs[k * 5 + 3]? = some u := ⟨_, List.getElem?_eq_getElem (by rw [hxl]; omega)⟩
      have hq3 := (hown.cellAt (k * 5 + 3) (by omega)).trans hu3
      have hf3 := hown.frozenAt (k * 5 + 3)
      clear hu3
      obtain ⟨q4, hu4⟩ : ∃ u, xs[k * 5 + 4]? = some u := ⟨_, List.getElem?_eq_getElem (by rw [hxl]; omega)⟩
      have hq4 := (hown.cellAt (k * 5 + 4) (by omega)).trans hu4
      have hf4 := hown.frozenAt (k * 5 + 4)
      clear hu4
      have hown2 := (((((hown.stored (k * 5) (.string ⟨#[103, 111, 110, 101]⟩)).1.stored (k * 5 + 1) (.int .i8 0)).1.stored (k * 5 + 2) (.int .i32 0)).1.stored (k * 5 + 3) (.int .i32 0)).1.stored (k * 5 + 4) (.int .u8 0)).1
      have hgr2 := (run.grown_trans (run.grown_trans (run.grown_trans (run.grown_trans (run.grown_trans hgr (run.setCell_grown wr g3 (k * 5) (.string ⟨#[103, 111, 110, 101]⟩)) (.inl rfl)) (run.setCell_grown _ g3 (k * 5 + 1) (.int .i8 0)) (.inl rfl)) (run.setCell_grown _ g3 (k * 5 + 2) (.int .i32 0)) (.inl rfl)) (run.setCell_grown _ g3 (k * 5 + 3) (.int .i32 0)) (.inl rfl)) (run.setCell_grown _ g3 (k * 5 + 4) (.int .u8 0)) (.inl rfl))
      have HO2 := run.hid hown2
      have HGR2 := run.hid hgr2
      clear hown hown2 hgr hgr2 hxl HO HGR
      go_wp2
      go_roundw
      case rel => exact ⟨k + 1, _, by omega, by go_num, HO2, HGR2⟩
      case measure => simp [intOf]; omega
    · obtain rfl : k = M := by omega
      have HE := run.hid (HFIN.out wr HGR.out)
      clear HO HGR HFIN
      go_wp2
      go_ret
      exact ⟨rfl, HE.out⟩
end Go.Proofs.YtdgcfmfjgidbjaaGreat.cel
