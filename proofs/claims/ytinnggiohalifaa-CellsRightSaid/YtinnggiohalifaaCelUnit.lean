/-
  The walk of the layer cells: what a row begins with.
-/
import Derived.Test.YtinnggiohalifaaCelB
import Derived.Test.YtinnggiohalifaaCelC
import Derived.Test.YtinnggiohalifaaCluOne
namespace Go.Proofs.Ytinnggiohalifaa.cel
open Go Go.RowKit Go.Proofs
open Go.Proofs.Ytinnggiohalifaa.clu (oneOk OneIs one_any)
open Go.Proofs.Ytinnggiohalifaa.utf (bs runes)
set_option linter.unusedVariables false

instance (s : ByteArray) : Decidable (oneOk s) := by unfold oneOk; infer_instance
/-- how wide a text of one cluster is -/
def wdT (s : ByteArray) : Nat := clu.wide (runes (bs s))
def restT (s : SV) : CV := ⟨⟨#[]⟩, 0, s⟩
/-- a cell as a cluster as it should be: its width, or 0 -/
def unit1 (c : CV) : Nat := if oneOk c.text ∧ 1 ≤ wdT c.text ∧ ((wdT c.text : Nat) : Int) = c.wide ∧ overS c.sty = c.sty then wdT c.text else 0
/-- what a row begins with: a pair (2), a single (1), neither (0) -/
def unitT : List CV → Nat
  | [] => 0
  | c :: t => if unit1 c = 2 ∧ t.head? ≠ some (restT c.sty) then 0 else unit1 c
theorem wdT_le (s : ByteArray) : wdT s ≤ 2 := clu.wide_le _
theorem unit1_le (c : CV) : unit1 c ≤ 2 := by
  unfold unit1
  split
  · exact wdT_le _
  · omega
theorem unitT_le (R : List CV) : unitT R ≤ 2 ∧ unitT R ≤ R.length := by
  cases R with
  | nil => exact ⟨by decide, by decide⟩
  | cons c t =>
    have hU : unitT (c :: t) = if unit1 c = 2 ∧ t.head? ≠ some (restT c.sty) then 0 else unit1 c := rfl
    rw [hU]
    have h1 := unit1_le c
    by_cases h : unit1 c = 2 ∧ t.head? ≠ some (restT c.sty)
    · rw [if_pos h]; exact ⟨by omega, by omega⟩
    · rw [if_neg h]
      refine ⟨h1, ?_⟩
      cases t with
      | nil =>
        rcases Nat.lt_or_ge (unit1 c) 2 with h2 | h2
        · simp; omega
        · exfalso; exact h ⟨by omega, by simp⟩
      | cons d t => simp; omega

section
variable {P : Program} {o : Oper} {ρ : Operand → Value} {w : World} {p q : Operand}
theorem run_neint_t {t t' : TypeId} {x y : Int} (ho : o.op = .binOp .neq t p q t') (hx : ρ p = .int .i64 x) (hy : ρ q = .int .i64 y) (h : x ≠ y) : (execOp ρ o).run Try.prog w = .ok (.value (.bool true)) w := by rw [run_neint ho hx hy, decide_eq_false h]; rfl
theorem run_neint_f {t t' : TypeId} {x y : Int} (ho : o.op = .binOp .neq t p q t') (hx : ρ p = .int .i64 x) (hy : ρ q = .int .i64 y) (h : x = y) : (execOp ρ o).run Try.prog w = .ok (.value (.bool false)) w := by rw [run_neint ho hx hy, decide_eq_true h]; rfl
theorem run_eqint_t {t t' : TypeId} {x y : Int} (ho : o.op = .binOp .eql t p q t') (hx : ρ p = .int .i64 x) (hy : ρ q = .int .i64 y) (h : x = y) : (execOp ρ o).run Try.prog w = .ok (.value (.bool true)) w := by rw [run_eqint ho hx hy, decide_eq_true h]
theorem run_eqint_f {t t' : TypeId} {x y : Int} (ho : o.op = .binOp .eql t p q t') (hx : ρ p = .int .i64 x) (hy : ρ q = .int .i64 y) (h : x ≠ y) : (execOp ρ o).run Try.prog w = .ok (.value (.bool false)) w := by rw [run_eqint ho hx hy, decide_eq_false h]
theorem run_nesty_t {s s' : SV} (ho : o.op = .binOp .neq 24 p q 24) (hx : ρ p = s.val) (hy : ρ q = s'.val) (h : s ≠ s') : (execOp ρ o).run Try.prog w = .ok (.value (.bool true)) w := by rw [run_nesty ho hx hy, decide_eq_false h]; rfl
theorem run_nesty_f {s s' : SV} (ho : o.op = .binOp .neq 24 p q 24) (hx : ρ p = s.val) (hy : ρ q = s'.val) (h : s = s') : (execOp ρ o).run Try.prog w = .ok (.value (.bool false)) w := by rw [run_nesty ho hx hy, decide_eq_true h]; rfl
theorem run_necell_t {s s' : CV} (ho : o.op = .binOp .neq 44 p q 44) (hx : ρ p = s.val) (hy : ρ q = s'.val) (h : s ≠ s') : (execOp ρ o).run Try.prog w = .ok (.value (.bool true)) w := by rw [run_necell ho hx hy, decide_eq_false h]; rfl
theorem run_necell_f {s s' : CV} (ho : o.op = .binOp .neq 44 p q 44) (hx : ρ p = s.val) (hy : ρ q = s'.val) (h : s = s') : (execOp ρ o).run Try.prog w = .ok (.value (.bool false)) w := by rw [run_necell ho hx hy, decide_eq_true h]; rfl
/-- a cell loaded -/
def Cell5 (w : World) (b o : Nat) (c : CV) : Prop := w.cell? ⟨b, o, none⟩ = some (.string c.text) ∧ w.cell? ⟨b, o + 1, none⟩ = some (.int .i8 c.wide) ∧ w.cell? ⟨b, o + 2, none⟩ = some (.int .i32 c.sty.fg) ∧ w.cell? ⟨b, o + 3, none⟩ = some (.int .i32 c.sty.bg) ∧ w.cell? ⟨b, o + 4, none⟩ = some (.int .u8 c.sty.att)
theorem run_load5 {b n : Nat} {c : CV} (ho : o.op = .load 44 p) (hx : ρ p = .pointer (some ⟨b, n, none⟩)) (h : Cell5 w b n c) : (execOp ρ o).run Try.prog w = .ok (.value c.val) w := by
  obtain ⟨c0, c1, c2, c3, c4⟩ := h
  unfold execOp
  simp only [ho, hx]
  simp [go_sem, c0, c1, c2, c3, c4, CV.val]
end
theorem Cell5.below {w w' : World} {B b o : Nat} {c : CV} (h : Cell5 w b o c) (hb : Below B w w') (hlt : b < B) : Cell5 w' b o c := by
  have hbb := hb.block b hlt
  obtain ⟨h0, h1, h2, h3, h4⟩ := h
  exact ⟨(World.cell?_of_block (a := ⟨b, _, none⟩) hbb).trans h0, (World.cell?_of_block (a := ⟨b, _, none⟩) hbb).trans h1, (World.cell?_of_block (a := ⟨b, _, none⟩) hbb).trans h2, (World.cell?_of_block (a := ⟨b, _, none⟩) hbb).trans h3, (World.cell?_of_block (a := ⟨b, _, none⟩) hbb).trans h4⟩

set_option maxRecDepth 100000 in
set_option maxHeartbeats 8000000 in
theorem unit_any (b off N cap : Nat) (c : CV) (t : List CV) (w : World) (hN : N = t.length + 1) (hc : Cell5 w b off c) (hd : ∀ d t', t = d :: t' → Cell5 w b (off + 5) d) (hs : c.text.size ≤ 1099511627776) (hcw : -128 ≤ c.wide ∧ c.wide ≤ 127) :
    Calls Try.prog 71 #[.slice (some ⟨b, off, none⟩) N cap] w fun e w' => e = .returned (.int .i64 (unitT (c :: t) : Nat)) ∧ Below w.heap.size w w' := by
  obtain ⟨it, hinf, -, hsz, -⟩ := info_parts info_cell
  have hb : b < w.heap.size := run.lt_of_cell hc.1
  have HD5 := run.hid (fun (X : World) (h : Below w.heap.size w X) d t' (ht : t = d :: t') => (hd d t' ht).below h hb)
  have HONE := run.hid (fun w => one_any c.text w hs)
  have HOV := run.hid (fun w => over_any c.sty w)
  have HU := run.hid (show unitT (c :: t) = if unit1 c = 2 ∧ t.head? ≠ some (restT c.sty) then 0 else unit1 c from rfl)
  have HU1 := run.hid (show unit1 c = if oneOk c.text ∧ 1 ≤ wdT c.text ∧ ((wdT c.text : Nat) : Int) = c.wide ∧ overS c.sty = c.sty then wdT c.text else 0 from rfl)
  have hwl := wdT_le c.text
  change Hid (∀ w, Calls _ _ _ w (OneIs c.text w)) at HONE
  unfold OneIs at HONE
  change Hid (∀ w, Calls _ _ _ w (fun e w' => Below w.heap.size w w' ∧ ((oneOk c.text ∧ e = .returned (.tuple #[.agg #[.string c.text, .int .i64 (wdT c.text : Nat)], .bool true])) ∨ _))) at HONE
  unfold restT at HU
  generalize unitT (c :: t) = un at *
  generalize unit1 c = u1 at *
  obtain ⟨ct, cw, ⟨cf, cb, ca⟩⟩ := c
  dsimp only at *
  generalize wdT ct = wd at *
  obtain ⟨⟨of, ob, oa⟩, hos⟩ : ∃ q, q = overS ⟨cf, cb, ca⟩ := ⟨_, rfl⟩
  rw [← hos] at HOV HU1
  clear hos
  change Hid (∀ w, Calls _ _ #[.agg #[.int .i32 cf, .int .i32 cb, .int .u8 ca], _] _ fun e w' => e = .returned (.agg #[.int .i32 of, .int .i32 ob, .int .u8 oa]) ∧ _) at HOV
  obtain ⟨c0, c1, c2, c3, c4⟩ := hc
  have k1 := heap_alloc_new w (.cells #[.string ct, .int .i8 cw, .int .i32 cf, .int .i32 cb, .int .u8 ca] 44)
  have hB1 := run.below_one w (.cells #[.string ct, .int .i8 cw, .int .i32 cf, .int .i32 cb, .int .u8 ca] 44)
  have KK := run.hid (And.intro k1 hB1)
  clear k1 hB1 hd hs
  have hpos : 0 < N := by omega
  have HNN := run.hid hN
  clear hN
  dsimp only at c0 c1 c2 c3 c4
  go_enter Try.func71, Try.ntmps71
  go_wp2_with fail
  refine (HONE.out _).mono ?_
  rintro e w2 ⟨hb2, hcase⟩
  obtain ⟨k1, hB1⟩ := KK.out
  have hs2 := hb2.size
  simp only [World.size_alloc] at hs2
  have HB2 := run.hid (hB1.trans (hb2.mono hB1.size))
  have K32 := run.hid ((hb2.block w.heap.size (by simp)).trans k1)
  clear k1 hB1 hb2 KK HONE c0 c1 c2 c3 c4
  obtain ⟨okb, st2, wd2, rfl, hok⟩ : ∃ (okb : Bool) (st2 : ByteArray) (wd2 : Nat), e = .returned (.tuple #[.agg #[.string st2, .int .i64 (wd2 : Nat)], .bool okb]) ∧ ((okb = true ∧ oneOk ct ∧ st2 = ct ∧ wd2 = wd) ∨ (okb = false ∧ ¬ oneOk ct)) := by
    rcases hcase with ⟨h1, rfl⟩ | ⟨h1, rfl⟩
    · exact ⟨true, _, _, rfl, .inl ⟨rfl, h1, rfl, rfl⟩⟩
    · exact ⟨false, ⟨#[]⟩, 0, rfl, .inr ⟨rfl, h1⟩⟩
  clear hcase
  have HB3 := run.hid (HB2.out.alloc HB2.out.size (.cells #[.string st2, .int .i64 (wd2 : Nat)] 55))
  have K3 := run.hid (And.intro ((blk_old (.cells #[.string st2, .int .i64 (wd2 : Nat)] 55) (by omega)).trans K32.out) (show w.heap.size < w2.heap.size + 1 by omega))
  have K4 := run.hid (And.intro (heap_alloc_new w2 (.cells #[.string st2, .int .i64 (wd2 : Nat)] 55)) (show w2.heap.size < w2.heap.size + 1 by omega))
  have hszA : (w2.alloc (.cells #[.string st2, .int .i64 (wd2 : Nat)] 55)).heap.size = w2.heap.size + 1 := by simp
  have hle : w.heap.size ≤ w2.heap.size + 1 := by omega
  clear HB2 K32
  rcases hok with ⟨rfl, hone, rfl, rfl⟩ | ⟨rfl, hone⟩
  · have HONEOK := run.hid hone
    clear hone
    by_cases hB : wd2 < 1
    · go_upto_region 3 with fail
      generalize w2.alloc (.cells #[.string st2, .int .i64 (wd2 : Nat)] 55) = w3 at *
      generalize hn4 : w2.heap.size = n4 at *
      generalize hn3 : w.heap.size = n3 at *
      refine lx.region (fun D X => Below (n4 + 1) w3 X) (by kernel_rfl) (by kernel_rfl) (by kernel_rfl) (drewB (Below.refl _ _)) ?_
      refine lx.begin 57 rfl ?_
      refine lx.o_pure (.bool true) (fun _ _ h => by first | rfl | kernel_rfl) ?_
      refine lx.o_pure (.bool false) (fun _ _ h => by first | rfl | kernel_rfl) ?_
      refine lx.o_pure (.bool false) (fun _ _ h => by first | rfl | kernel_rfl) ?_
      refine lx.o_pure (.pointer (some ⟨n4, 1, none⟩)) (fun _ _ h => by first | rfl | kernel_rfl) ?_
      refine lx.o_pure (.int .i64 (wd2 : Nat)) (fun D X hC => lx.run_load rfl rfl Try.underlying3 rfl (blk_cell (hC.b4 K4.out) 1)) ?_
      refine lx.o_pure (.bool true) (fun _ _ _ => run_lss rfl rfl rfl (decide_eq_true (by omega))) ?_
      refine lx.o_pure (.bool true) (fun _ _ h => by first | rfl | kernel_rfl) ?_
      refine lx.o_pure (.bool true) (fun _ _ h => by first | rfl | kernel_rfl) ?_
      refine lx.o_skip ?_
      refine lx.o_skip ?_
      refine lx.o_skip ?_
      refine lx.o_skip ?_
      refine lx.o_skip ?_
      refine lx.o_skip ?_
      refine lx.o_pure (.bool true) (fun _ _ h => by first | rfl | kernel_rfl) ?_
      refine lx.o_pure (.bool true) (fun _ _ h => by first | rfl | kernel_rfl) ?_
      refine lx.o_skip ?_
      refine lx.o_skip ?_
      refine lx.o_skip ?_
      refine lx.o_skip ?_
      refine lx.o_skip ?_
      refine lx.o_skip ?_
      refine lx.o_pure (.bool true) (fun _ _ h => by first | rfl | kernel_rfl) ?_
      refine lx.o_end ?_
      simp only [lx.ov]
      rintro X d hd hC
      have HF := run.hid (HB3.out.trans (hC.mono hle))
      clear hC hd K3 K4 HB3 HOV HD5
      go_simp
      go_wp2
      go_ret
      exact ⟨by rw [HU.out, HU1.out, if_neg (c := oneOk _ ∧ _) (by omega)]; simp, by rw [hn3]; exact HF.out⟩

    by_cases hwc : ((wd2 : Nat) : Int) = cw
    rotate_left
    · have HWC := run.hid hwc
      clear hwc
      go_upto_region 3 with fail
      generalize w2.alloc (.cells #[.string st2, .int .i64 (wd2 : Nat)] 55) = w3 at *
      generalize hn4 : w2.heap.size = n4 at *
      generalize hn3 : w.heap.size = n3 at *
      refine lx.region (fun D X => Below (n4 + 1) w3 X) (by kernel_rfl) (by kernel_rfl) (by kernel_rfl) (drewB (Below.refl _ _)) ?_
      refine lx.begin 57 rfl ?_
      refine lx.o_pure (.bool true) (fun _ _ h => by first | rfl | kernel_rfl) ?_
      refine lx.o_pure (.bool false) (fun _ _ h => by first | rfl | kernel_rfl) ?_
      refine lx.o_pure (.bool false) (fun _ _ h => by first | rfl | kernel_rfl) ?_
      refine lx.o_pure (.pointer (some ⟨n4, 1, none⟩)) (fun _ _ h => by first | rfl | kernel_rfl) ?_
      refine lx.o_pure (.int .i64 (wd2 : Nat)) (fun D X hC => lx.run_load rfl rfl Try.underlying3 rfl (blk_cell (hC.b4 K4.out) 1)) ?_
      refine lx.o_pure (.bool false) (fun _ _ _ => run_lss rfl rfl rfl (decide_eq_false (by omega))) ?_
      refine lx.o_pure (.bool false) (fun _ _ h => by first | rfl | kernel_rfl) ?_
      refine lx.o_pure (.bool false) (fun _ _ h => by first | rfl | kernel_rfl) ?_
      refine lx.o_pure (.pointer (some ⟨n4, 1, none⟩)) (fun _ _ h => by first | rfl | kernel_rfl) ?_
      refine lx.o_pure (.int .i64 (wd2 : Nat)) (fun D X hC => lx.run_load rfl rfl Try.underlying3 rfl (blk_cell (hC.b4 K4.out) 1)) ?_
      refine lx.o_pure (.pointer (some ⟨n3, 1, none⟩)) (fun _ _ h => by first | rfl | kernel_rfl) ?_
      refine lx.o_pure (.int .i8 cw) (fun D X hC => lx.run_load rfl rfl Try.underlying42 rfl (blk_cell (hC.b4 K3.out) 1)) ?_
      refine lx.o_pure (.int .i64 cw) (fun _ _ _ => run_wide8 rfl rfl Try.underlying42 Try.underlying3 hcw) ?_
      refine lx.o_pure (.bool true) (fun _ _ _ => run_neint_t rfl rfl rfl HWC.out) ?_
      refine lx.o_pure (.bool true) (fun _ _ h => by first | rfl | kernel_rfl) ?_
      refine lx.o_pure (.bool true) (fun _ _ h => by first | rfl | kernel_rfl) ?_
      refine lx.o_skip ?_
      refine lx.o_skip ?_
      refine lx.o_skip ?_
      refine lx.o_skip ?_
      refine lx.o_skip ?_
      refine lx.o_skip ?_
      refine lx.o_pure (.bool true) (fun _ _ h => by first | rfl | kernel_rfl) ?_
      refine lx.o_end ?_
      simp only [lx.ov]
      rintro X d hd hC
      have HF := run.hid (HB3.out.trans (hC.mono hle))
      clear hC hd K3 K4 HB3 HOV HD5
      go_simp
      go_wp2
      go_ret
      exact ⟨by rw [HU.out, HU1.out, if_neg (c := oneOk _ ∧ _) (by exact fun h => HWC.out h.2.2.1)]; simp, by rw [hn3]; exact HF.out⟩

    by_cases hst : SV.mk of ob oa = ⟨cf, cb, ca⟩
    rotate_left
    · have HWC := run.hid hwc
      have HST := run.hid hst
      clear hwc hst
      go_upto_region 3 with fail
      generalize w2.alloc (.cells #[.string st2, .int .i64 (wd2 : Nat)] 55) = w3 at *
      generalize hn4 : w2.heap.size = n4 at *
      generalize hn3 : w.heap.size = n3 at *
      refine lx.region (fun D X => Below (n4 + 1) w3 X) (by kernel_rfl) (by kernel_rfl) (by kernel_rfl) (drewB (Below.refl _ _)) ?_
      refine lx.begin 57 rfl ?_
      refine lx.o_pure (.bool true) (fun _ _ h => by first | rfl | kernel_rfl) ?_
      refine lx.o_pure (.bool false) (fun _ _ h => by first | rfl | kernel_rfl) ?_
      refine lx.o_pure (.bool false) (fun _ _ h => by first | rfl | kernel_rfl) ?_
      refine lx.o_pure (.pointer (some ⟨n4, 1, none⟩)) (fun _ _ h => by first | rfl | kernel_rfl) ?_
      refine lx.o_pure (.int .i64 (wd2 : Nat)) (fun D X hC => lx.run_load rfl rfl Try.underlying3 rfl (blk_cell (hC.b4 K4.out) 1)) ?_
      refine lx.o_pure (.bool false) (fun _ _ _ => run_lss rfl rfl rfl (decide_eq_false (by omega))) ?_
      refine lx.o_pure (.bool false) (fun _ _ h => by first | rfl | kernel_rfl) ?_
      refine lx.o_pure (.bool false) (fun _ _ h => by first | rfl | kernel_rfl) ?_
      refine lx.o_pure (.pointer (some ⟨n4, 1, none⟩)) (fun _ _ h => by first | rfl | kernel_rfl) ?_
      refine lx.o_pure (.int .i64 (wd2 : Nat)) (fun D X hC => lx.run_load rfl rfl Try.underlying3 rfl (blk_cell (hC.b4 K4.out) 1)) ?_
      refine lx.o_pure (.pointer (some ⟨n3, 1, none⟩)) (fun _ _ h => by first | rfl | kernel_rfl) ?_
      refine lx.o_pure (.int .i8 cw) (fun D X hC => lx.run_load rfl rfl Try.underlying42 rfl (blk_cell (hC.b4 K3.out) 1)) ?_
      refine lx.o_pure (.int .i64 cw) (fun _ _ _ => run_wide8 rfl rfl Try.underlying42 Try.underlying3 hcw) ?_
      refine lx.o_pure (.bool false) (fun _ _ _ => run_neint_f rfl rfl rfl HWC.out) ?_
      refine lx.o_pure (.bool false) (fun _ _ h => by first | rfl | kernel_rfl) ?_
      refine lx.o_pure (.bool false) (fun _ _ h => by first | rfl | kernel_rfl) ?_
      refine lx.o_pure (.pointer (some ⟨n3, 2, none⟩)) (fun _ _ h => by first | rfl | kernel_rfl) ?_
      refine lx.o_pure (.agg #[.int .i32 cf, .int .i32 cb, .int .u8 ca]) (fun D X hC => run_load3 rfl rfl (hC.b4 K3.out)) ?_
      refine lx.o_call (.agg #[.int .i32 of, .int .i32 ob, .int .u8 oa]) 30 #[.agg #[.int .i32 cf, .int .i32 cb, .int .u8 ca], .slice none 0 0] (fun _ _ _ => lx.run_fn rfl rfl rfl (enters_of Try.func30 (by kernel_rfl) rfl)) (fun D X hC => (HOV.out X).mono fun e w2 ⟨he, hw⟩ => ⟨he, hC.trans (hw.mono (by have := hC.size; omega))⟩) ?_
      refine lx.o_pure (.pointer (some ⟨n3, 2, none⟩)) (fun _ _ h => by first | rfl | kernel_rfl) ?_
      refine lx.o_pure (.agg #[.int .i32 cf, .int .i32 cb, .int .u8 ca]) (fun D X hC => run_load3 rfl rfl (hC.b4 K3.out)) ?_
      refine lx.o_pure (.bool true) (fun _ _ _ => run_nesty_t (s := ⟨of, ob, oa⟩) (s' := ⟨cf, cb, ca⟩) rfl rfl rfl HST.out) ?_
      refine lx.o_pure (.bool true) (fun _ _ h => by first | rfl | kernel_rfl) ?_
      refine lx.o_end ?_
      simp only [lx.ov]
      rintro X d hd hC
      have HF := run.hid (HB3.out.trans (hC.mono hle))
      clear hC hd K3 K4 HB3 HOV HD5
      go_simp
      go_wp2
      go_ret
      exact ⟨by rw [HU.out, HU1.out, if_neg (c := oneOk _ ∧ _) (by exact fun h => HST.out h.2.2.2)]; simp, by rw [hn3]; exact HF.out⟩

    have HU1' : Hid (u1 = wd2) := by
      show u1 = wd2
      rw [HU1.out]
      exact if_pos ⟨HONEOK.out, by omega, hwc, hst⟩
    have HWC := run.hid hwc
    have HST := run.hid hst
    clear HU1 hwc hst
    by_cases h2 : wd2 = 2
    rotate_left
    · have H2 := run.hid (show ((wd2 : Nat) : Int) ≠ 2 by omega)
      have HU2 : Hid (un = wd2) := by
        show un = _
        rw [HU.out, HU1'.out, if_neg (by omega)]
      clear h2
      go_upto_region 3 with fail
      generalize w2.alloc (.cells #[.string st2, .int .i64 (wd2 : Nat)] 55) = w3 at *
      generalize hn4 : w2.heap.size = n4 at *
      generalize hn3 : w.heap.size = n3 at *
      refine lx.region (fun D X => Below (n4 + 1) w3 X) (by kernel_rfl) (by kernel_rfl) (by kernel_rfl) (drewB (Below.refl _ _)) ?_
      refine lx.begin 57 rfl ?_
      refine lx.o_pure (.bool true) (fun _ _ h => by first | rfl | kernel_rfl) ?_
      refine lx.o_pure (.bool false) (fun _ _ h => by first | rfl | kernel_rfl) ?_
      refine lx.o_pure (.bool false) (fun _ _ h => by first | rfl | kernel_rfl) ?_
      refine lx.o_pure (.pointer (some ⟨n4, 1, none⟩)) (fun _ _ h => by first | rfl | kernel_rfl) ?_
      refine lx.o_pure (.int .i64 (wd2 : Nat)) (fun D X hC => lx.run_load rfl rfl Try.underlying3 rfl (blk_cell (hC.b4 K4.out) 1)) ?_
      refine lx.o_pure (.bool false) (fun _ _ _ => run_lss rfl rfl rfl (decide_eq_false (by omega))) ?_
      refine lx.o_pure (.bool false) (fun _ _ h => by first | rfl | kernel_rfl) ?_
      refine lx.o_pure (.bool false) (fun _ _ h => by first | rfl | kernel_rfl) ?_
      refine lx.o_pure (.pointer (some ⟨n4, 1, none⟩)) (fun _ _ h => by first | rfl | kernel_rfl) ?_
      refine lx.o_pure (.int .i64 (wd2 : Nat)) (fun D X hC => lx.run_load rfl rfl Try.underlying3 rfl (blk_cell (hC.b4 K4.out) 1)) ?_
      refine lx.o_pure (.pointer (some ⟨n3, 1, none⟩)) (fun _ _ h => by first | rfl | kernel_rfl) ?_
      refine lx.o_pure (.int .i8 cw) (fun D X hC => lx.run_load rfl rfl Try.underlying42 rfl (blk_cell (hC.b4 K3.out) 1)) ?_
      refine lx.o_pure (.int .i64 cw) (fun _ _ _ => run_wide8 rfl rfl Try.underlying42 Try.underlying3 hcw) ?_
      refine lx.o_pure (.bool false) (fun _ _ _ => run_neint_f rfl rfl rfl HWC.out) ?_
      refine lx.o_pure (.bool false) (fun _ _ h => by first | rfl | kernel_rfl) ?_
      refine lx.o_pure (.bool false) (fun _ _ h => by first | rfl | kernel_rfl) ?_
      refine lx.o_pure (.pointer (some ⟨n3, 2, none⟩)) (fun _ _ h => by first | rfl | kernel_rfl) ?_
      refine lx.o_pure (.agg #[.int .i32 cf, .int .i32 cb, .int .u8 ca]) (fun D X hC => run_load3 rfl rfl (hC.b4 K3.out)) ?_
      refine lx.o_call (.agg #[.int .i32 of, .int .i32 ob, .int .u8 oa]) 30 #[.agg #[.int .i32 cf, .int .i32 cb, .int .u8 ca], .slice none 0 0] (fun _ _ _ => lx.run_fn rfl rfl rfl (enters_of Try.func30 (by kernel_rfl) rfl)) (fun D X hC => (HOV.out X).mono fun e w2 ⟨he, hw⟩ => ⟨he, hC.trans (hw.mono (by have := hC.size; omega))⟩) ?_
      refine lx.o_pure (.pointer (some ⟨n3, 2, none⟩)) (fun _ _ h => by first | rfl | kernel_rfl) ?_
      refine lx.o_pure (.agg #[.int .i32 cf, .int .i32 cb, .int .u8 ca]) (fun D X hC => run_load3 rfl rfl (hC.b4 K3.out)) ?_
      refine lx.o_pure (.bool false) (fun _ _ _ => run_nesty_f (s := ⟨of, ob, oa⟩) (s' := ⟨cf, cb, ca⟩) rfl rfl rfl HST.out) ?_
      refine lx.o_pure (.bool false) (fun _ _ h => by first | rfl | kernel_rfl) ?_
      refine lx.o_end ?_
      simp only [lx.ov]
      rintro X d hd hC
      have hsX := hC.size
      have K3X := run.hid (And.intro (hC.b4 K3.out) (show n3 < X.heap.size by have := K3.out.2; omega))
      have K4X := run.hid (And.intro (hC.b4 K4.out) (show n4 < X.heap.size by have := K4.out.2; omega))
      replace HB3 := run.hid (HB3.out.trans (hC.mono hle))
      replace hle : n3 ≤ X.heap.size := by omega
      clear hC hd K3 K4 HOV
      go_simp
      go_upto_region 5 with fail
      refine lx.region (fun D Y => Below X.heap.size X Y) (by kernel_rfl) (by kernel_rfl) (by kernel_rfl) (drewB (Below.refl _ _)) ?_
      refine lx.begin 57 rfl ?_
      refine lx.o_pure (.pointer (some ⟨n4, 1, none⟩)) (fun _ _ h => by first | rfl | kernel_rfl) ?_
      refine lx.o_pure (.int .i64 (wd2 : Nat)) (fun D X hC => lx.run_load rfl rfl Try.underlying3 rfl (blk_cell (hC.b4 K4X.out) 1)) ?_
      refine lx.o_pure (.bool false) (fun _ _ _ => run_eqint_f rfl rfl rfl H2.out) ?_
      refine lx.o_pure (.bool false) (fun _ _ h => by first | rfl | kernel_rfl) ?_
      refine lx.o_skip ?_
      refine lx.o_skip ?_
      refine lx.o_skip ?_
      refine lx.o_skip ?_
      refine lx.o_skip ?_
      refine lx.o_skip ?_
      refine lx.o_skip ?_
      refine lx.o_skip ?_
      refine lx.o_skip ?_
      refine lx.o_skip ?_
      refine lx.o_skip ?_
      refine lx.o_skip ?_
      refine lx.o_pure (.bool false) (fun _ _ h => by first | rfl | kernel_rfl) ?_
      refine lx.o_end ?_
      simp only [lx.ov]
      rintro Y d hd hC
      have HF := run.hid (HB3.out.trans (hC.mono hle))
      have e1 := blk_cell (hC.b4 K4X.out) 1
      change Y.cell? _ = some (.int .i64 (wd2 : Nat)) at e1
      clear hC hd K3X K4X HB3 HD5
      go_simp
      go_wp2
      go_ret
      exact ⟨by rw [HU2.out]; try rfl, by rw [hn3]; exact HF.out⟩

    have H2 := run.hid (show ((wd2 : Nat) : Int) = 2 by omega)
    have H2' := run.hid h2
    clear h2
    match t, HNN with
    | [], HNN =>
      have hN1 : N < 2 := by have := HNN.out; simp at this; omega
      clear HNN
      go_upto_region 3 with fail
      generalize w2.alloc (.cells #[.string st2, .int .i64 (wd2 : Nat)] 55) = w3 at *
      generalize hn4 : w2.heap.size = n4 at *
      generalize hn3 : w.heap.size = n3 at *
      refine lx.region (fun D X => Below (n4 + 1) w3 X) (by kernel_rfl) (by kernel_rfl) (by kernel_rfl) (drewB (Below.refl _ _)) ?_
      refine lx.begin 57 rfl ?_
      refine lx.o_pure (.bool true) (fun _ _ h => by first | rfl | kernel_rfl) ?_
      refine lx.o_pure (.bool false) (fun _ _ h => by first | rfl | kernel_rfl) ?_
      refine lx.o_pure (.bool false) (fun _ _ h => by first | rfl | kernel_rfl) ?_
      refine lx.o_pure (.pointer (some ⟨n4, 1, none⟩)) (fun _ _ h => by first | rfl | kernel_rfl) ?_
      refine lx.o_pure (.int .i64 (wd2 : Nat)) (fun D X hC => lx.run_load rfl rfl Try.underlying3 rfl (blk_cell (hC.b4 K4.out) 1)) ?_
      refine lx.o_pure (.bool false) (fun _ _ _ => run_lss rfl rfl rfl (decide_eq_false (by omega))) ?_
      refine lx.o_pure (.bool false) (fun _ _ h => by first | rfl | kernel_rfl) ?_
      refine lx.o_pure (.bool false) (fun _ _ h => by first | rfl | kernel_rfl) ?_
      refine lx.o_pure (.pointer (some ⟨n4, 1, none⟩)) (fun _ _ h => by first | rfl | kernel_rfl) ?_
      refine lx.o_pure (.int .i64 (wd2 : Nat)) (fun D X hC => lx.run_load rfl rfl Try.underlying3 rfl (blk_cell (hC.b4 K4.out) 1)) ?_
      refine lx.o_pure (.pointer (some ⟨n3, 1, none⟩)) (fun _ _ h => by first | rfl | kernel_rfl) ?_
      refine lx.o_pure (.int .i8 cw) (fun D X hC => lx.run_load rfl rfl Try.underlying42 rfl (blk_cell (hC.b4 K3.out) 1)) ?_
      refine lx.o_pure (.int .i64 cw) (fun _ _ _ => run_wide8 rfl rfl Try.underlying42 Try.underlying3 hcw) ?_
      refine lx.o_pure (.bool false) (fun _ _ _ => run_neint_f rfl rfl rfl HWC.out) ?_
      refine lx.o_pure (.bool false) (fun _ _ h => by first | rfl | kernel_rfl) ?_
      refine lx.o_pure (.bool false) (fun _ _ h => by first | rfl | kernel_rfl) ?_
      refine lx.o_pure (.pointer (some ⟨n3, 2, none⟩)) (fun _ _ h => by first | rfl | kernel_rfl) ?_
      refine lx.o_pure (.agg #[.int .i32 cf, .int .i32 cb, .int .u8 ca]) (fun D X hC => run_load3 rfl rfl (hC.b4 K3.out)) ?_
      refine lx.o_call (.agg #[.int .i32 of, .int .i32 ob, .int .u8 oa]) 30 #[.agg #[.int .i32 cf, .int .i32 cb, .int .u8 ca], .slice none 0 0] (fun _ _ _ => lx.run_fn rfl rfl rfl (enters_of Try.func30 (by kernel_rfl) rfl)) (fun D X hC => (HOV.out X).mono fun e w2 ⟨he, hw⟩ => ⟨he, hC.trans (hw.mono (by have := hC.size; omega))⟩) ?_
      refine lx.o_pure (.pointer (some ⟨n3, 2, none⟩)) (fun _ _ h => by first | rfl | kernel_rfl) ?_
      refine lx.o_pure (.agg #[.int .i32 cf, .int .i32 cb, .int .u8 ca]) (fun D X hC => run_load3 rfl rfl (hC.b4 K3.out)) ?_
      refine lx.o_pure (.bool false) (fun _ _ _ => run_nesty_f (s := ⟨of, ob, oa⟩) (s' := ⟨cf, cb, ca⟩) rfl rfl rfl HST.out) ?_
      refine lx.o_pure (.bool false) (fun _ _ h => by first | rfl | kernel_rfl) ?_
      refine lx.o_end ?_
      simp only [lx.ov]
      rintro X d hd hC
      have hsX := hC.size
      have K3X := run.hid (And.intro (hC.b4 K3.out) (show n3 < X.heap.size by have := K3.out.2; omega))
      have K4X := run.hid (And.intro (hC.b4 K4.out) (show n4 < X.heap.size by have := K4.out.2; omega))
      replace HB3 := run.hid (HB3.out.trans (hC.mono hle))
      replace hle : n3 ≤ X.heap.size := by omega
      clear hC hd K3 K4 HOV
      go_simp
      go_upto_region 5 with fail
      refine lx.region (fun D Y => Below X.heap.size X Y) (by kernel_rfl) (by kernel_rfl) (by kernel_rfl) (drewB (Below.refl _ _)) ?_
      refine lx.begin 57 rfl ?_
      refine lx.o_pure (.pointer (some ⟨n4, 1, none⟩)) (fun _ _ h => by first | rfl | kernel_rfl) ?_
      refine lx.o_pure (.int .i64 (wd2 : Nat)) (fun D X hC => lx.run_load rfl rfl Try.underlying3 rfl (blk_cell (hC.b4 K4X.out) 1)) ?_
      refine lx.o_pure (.bool true) (fun _ _ _ => run_eqint_t rfl rfl rfl H2.out) ?_
      refine lx.o_pure (.bool true) (fun _ _ h => by first | rfl | kernel_rfl) ?_
      refine lx.o_pure (.slice (some ⟨b, off, none⟩) N cap) (fun _ _ h => by first | rfl | kernel_rfl) ?_
      refine lx.o_pure (.int .i64 (N : Nat)) (fun _ _ h => by first | rfl | kernel_rfl) ?_
      refine lx.o_pure (.bool true) (fun _ _ _ => run_lss rfl rfl rfl (decide_eq_true (by omega))) ?_
      refine lx.o_pure (.bool true) (fun _ _ h => by first | rfl | kernel_rfl) ?_
      refine lx.o_skip ?_
      refine lx.o_skip ?_
      refine lx.o_skip ?_
      refine lx.o_skip ?_
      refine lx.o_skip ?_
      refine lx.o_skip ?_
      refine lx.o_skip ?_
      refine lx.o_pure (.bool true) (fun _ _ h => by first | rfl | kernel_rfl) ?_
      refine lx.o_pure (.bool true) (fun _ _ h => by first | rfl | kernel_rfl) ?_
      refine lx.o_end ?_
      simp only [lx.ov]
      rintro Y d hd hC
      have HF := run.hid (HB3.out.trans (hC.mono hle))
      clear hC hd K3X K4X HB3 HD5
      go_simp
      go_wp2
      go_ret
      exact ⟨by rw [HU.out, HU1'.out, if_pos ⟨H2'.out, by simp⟩]; try rfl, by rw [hn3]; exact HF.out⟩

    | d :: t', HNN =>
      replace HD5 := run.hid (fun X h => HD5.out X h d t' rfl)
      have HU' : Hid (un = if d ≠ ⟨⟨#[]⟩, 0, ⟨cf, cb, ca⟩⟩ then 0 else wd2) := by
        show un = _
        rw [HU.out, HU1'.out]
        simp [H2'.out]
      clear HU
      obtain ⟨dt, dw, ⟨df, db, da⟩⟩ := d
      have hN2 : 2 ≤ N := by rw [HNN.out]; simp
      clear HNN
      by_cases hrest : CV.mk dt dw ⟨df, db, da⟩ = ⟨⟨#[]⟩, 0, ⟨cf, cb, ca⟩⟩
      · have HRE := run.hid hrest
        clear hrest
        go_upto_region 3 with fail
        generalize w2.alloc (.cells #[.string st2, .int .i64 (wd2 : Nat)] 55) = w3 at *
        generalize hn4 : w2.heap.size = n4 at *
        generalize hn3 : w.heap.size = n3 at *
        refine lx.region (fun D X => Below (n4 + 1) w3 X) (by kernel_rfl) (by kernel_rfl) (by kernel_rfl) (drewB (Below.refl _ _)) ?_
        refine lx.begin 57 rfl ?_
        refine lx.o_pure (.bool true) (fun _ _ h => by first | rfl | kernel_rfl) ?_
        refine lx.o_pure (.bool false) (fun _ _ h => by first | rfl | kernel_rfl) ?_
        refine lx.o_pure (.bool false) (fun _ _ h => by first | rfl | kernel_rfl) ?_
        refine lx.o_pure (.pointer (some ⟨n4, 1, none⟩)) (fun _ _ h => by first | rfl | kernel_rfl) ?_
        refine lx.o_pure (.int .i64 (wd2 : Nat)) (fun D X hC => lx.run_load rfl rfl Try.underlying3 rfl (blk_cell (hC.b4 K4.out) 1)) ?_
        refine lx.o_pure (.bool false) (fun _ _ _ => run_lss rfl rfl rfl (decide_eq_false (by omega))) ?_
        refine lx.o_pure (.bool false) (fun _ _ h => by first | rfl | kernel_rfl) ?_
        refine lx.o_pure (.bool false) (fun _ _ h => by first | rfl | kernel_rfl) ?_
        refine lx.o_pure (.pointer (some ⟨n4, 1, none⟩)) (fun _ _ h => by first | rfl | kernel_rfl) ?_
        refine lx.o_pure (.int .i64 (wd2 : Nat)) (fun D X hC => lx.run_load rfl rfl Try.underlying3 rfl (blk_cell (hC.b4 K4.out) 1)) ?_
        refine lx.o_pure (.pointer (some ⟨n3, 1, none⟩)) (fun _ _ h => by first | rfl | kernel_rfl) ?_
        refine lx.o_pure (.int .i8 cw) (fun D X hC => lx.run_load rfl rfl Try.underlying42 rfl (blk_cell (hC.b4 K3.out) 1)) ?_
        refine lx.o_pure (.int .i64 cw) (fun _ _ _ => run_wide8 rfl rfl Try.underlying42 Try.underlying3 hcw) ?_
        refine lx.o_pure (.bool false) (fun _ _ _ => run_neint_f rfl rfl rfl HWC.out) ?_
        refine lx.o_pure (.bool false) (fun _ _ h => by first | rfl | kernel_rfl) ?_
        refine lx.o_pure (.bool false) (fun _ _ h => by first | rfl | kernel_rfl) ?_
        refine lx.o_pure (.pointer (some ⟨n3, 2, none⟩)) (fun _ _ h => by first | rfl | kernel_rfl) ?_
        refine lx.o_pure (.agg #[.int .i32 cf, .int .i32 cb, .int .u8 ca]) (fun D X hC => run_load3 rfl rfl (hC.b4 K3.out)) ?_
        refine lx.o_call (.agg #[.int .i32 of, .int .i32 ob, .int .u8 oa]) 30 #[.agg #[.int .i32 cf, .int .i32 cb, .int .u8 ca], .slice none 0 0] (fun _ _ _ => lx.run_fn rfl rfl rfl (enters_of Try.func30 (by kernel_rfl) rfl)) (fun D X hC => (HOV.out X).mono fun e w2 ⟨he, hw⟩ => ⟨he, hC.trans (hw.mono (by have := hC.size; omega))⟩) ?_
        refine lx.o_pure (.pointer (some ⟨n3, 2, none⟩)) (fun _ _ h => by first | rfl | kernel_rfl) ?_
        refine lx.o_pure (.agg #[.int .i32 cf, .int .i32 cb, .int .u8 ca]) (fun D X hC => run_load3 rfl rfl (hC.b4 K3.out)) ?_
        refine lx.o_pure (.bool false) (fun _ _ _ => run_nesty_f (s := ⟨of, ob, oa⟩) (s' := ⟨cf, cb, ca⟩) rfl rfl rfl HST.out) ?_
        refine lx.o_pure (.bool false) (fun _ _ h => by first | rfl | kernel_rfl) ?_
        refine lx.o_end ?_
        simp only [lx.ov]
        rintro X d hd hC
        have hsX := hC.size
        have K3X := run.hid (And.intro (hC.b4 K3.out) (show n3 < X.heap.size by have := K3.out.2; omega))
        have K4X := run.hid (And.intro (hC.b4 K4.out) (show n4 < X.heap.size by have := K4.out.2; omega))
        replace HB3 := run.hid (HB3.out.trans (hC.mono hle))
        replace hle : n3 ≤ X.heap.size := by omega
        clear hC hd K3 K4 HOV
        go_simp
        go_upto_region 5 with fail
        refine lx.region (fun D Y => Below X.heap.size X Y) (by kernel_rfl) (by kernel_rfl) (by kernel_rfl) (drewB (Below.refl _ _)) ?_
        refine lx.begin 57 rfl ?_
        refine lx.o_pure (.pointer (some ⟨n4, 1, none⟩)) (fun _ _ h => by first | rfl | kernel_rfl) ?_
        refine lx.o_pure (.int .i64 (wd2 : Nat)) (fun D X hC => lx.run_load rfl rfl Try.underlying3 rfl (blk_cell (hC.b4 K4X.out) 1)) ?_
        refine lx.o_pure (.bool true) (fun _ _ _ => run_eqint_t rfl rfl rfl H2.out) ?_
        refine lx.o_pure (.bool true) (fun _ _ h => by first | rfl | kernel_rfl) ?_
        refine lx.o_pure (.slice (some ⟨b, off, none⟩) N cap) (fun _ _ h => by first | rfl | kernel_rfl) ?_
        refine lx.o_pure (.int .i64 (N : Nat)) (fun _ _ h => by first | rfl | kernel_rfl) ?_
        refine lx.o_pure (.bool false) (fun _ _ _ => run_lss rfl rfl rfl (decide_eq_false (by omega))) ?_
        refine lx.o_pure (.bool false) (fun _ _ h => by first | rfl | kernel_rfl) ?_
        refine lx.o_pure (.slice (some ⟨b, off, none⟩) N cap) (fun _ _ h => by first | rfl | kernel_rfl) ?_
        refine lx.o_pure (.pointer (some ⟨b, off + 1 * 5, none⟩)) (fun _ _ _ => lx.run_at (i := 1) rfl rfl rfl (by omega) Try.underlying35 hinf hsz) ?_
        refine lx.o_pure (.agg #[.string dt, .int .i8 dw, .int .i32 df, .int .i32 db, .int .u8 da]) (fun D X hC => run_load5 rfl rfl (HD5.out _ (HB3.out.trans (hC.mono hle)))) ?_
        refine lx.o_pure (.pointer (some ⟨n3, 2, none⟩)) (fun _ _ h => by first | rfl | kernel_rfl) ?_
        refine lx.o_pure (.agg #[.int .i32 cf, .int .i32 cb, .int .u8 ca]) (fun D X hC => run_load3 rfl rfl (hC.b4 K3X.out)) ?_
        refine lx.o_pure (.agg #[.string ⟨#[]⟩, .int .i8 0, .int .i32 cf, .int .i32 cb, .int .u8 ca]) (fun _ _ h => by first | rfl | kernel_rfl) ?_
        refine lx.o_pure (.bool false) (fun _ _ _ => run_necell_f (s := ⟨dt, dw, ⟨df, db, da⟩⟩) (s' := ⟨⟨#[]⟩, 0, ⟨cf, cb, ca⟩⟩) rfl rfl rfl HRE.out) ?_
        refine lx.o_pure (.bool false) (fun _ _ h => by first | rfl | kernel_rfl) ?_
        refine lx.o_pure (.bool false) (fun _ _ h => by first | rfl | kernel_rfl) ?_
        refine lx.o_end ?_
        simp only [lx.ov]
        rintro Y d hd hC
        have HF := run.hid (HB3.out.trans (hC.mono hle))
        have e1 := blk_cell (hC.b4 K4X.out) 1
        change Y.cell? _ = some (.int .i64 (wd2 : Nat)) at e1
        clear hC hd K3X K4X HB3 HD5
        go_simp
        go_wp2
        go_ret
        exact ⟨by rw [HU'.out, if_neg (by intro h; exact h HRE.out)]; try rfl, by rw [hn3]; exact HF.out⟩

      · have HRE := run.hid hrest
        clear hrest
        go_upto_region 3 with fail
        generalize w2.alloc (.cells #[.string st2, .int .i64 (wd2 : Nat)] 55) = w3 at *
        generalize hn4 : w2.heap.size = n4 at *
        generalize hn3 : w.heap.size = n3 at *
        refine lx.region (fun D X => Below (n4 + 1) w3 X) (by kernel_rfl) (by kernel_rfl) (by kernel_rfl) (drewB (Below.refl _ _)) ?_
        refine lx.begin 57 rfl ?_
        refine lx.o_pure (.bool true) (fun _ _ h => by first | rfl | kernel_rfl) ?_
        refine lx.o_pure (.bool false) (fun _ _ h => by first | rfl | kernel_rfl) ?_
        refine lx.o_pure (.bool false) (fun _ _ h => by first | rfl | kernel_rfl) ?_
        refine lx.o_pure (.pointer (some ⟨n4, 1, none⟩)) (fun _ _ h => by first | rfl | kernel_rfl) ?_
        refine lx.o_pure (.int .i64 (wd2 : Nat)) (fun D X hC => lx.run_load rfl rfl Try.underlying3 rfl (blk_cell (hC.b4 K4.out) 1)) ?_
        refine lx.o_pure (.bool false) (fun _ _ _ => run_lss rfl rfl rfl (decide_eq_false (by omega))) ?_
        refine lx.o_pure (.bool false) (fun _ _ h => by first | rfl | kernel_rfl) ?_
        refine lx.o_pure (.bool false) (fun _ _ h => by first | rfl | kernel_rfl) ?_
        refine lx.o_pure (.pointer (some ⟨n4, 1, none⟩)) (fun _ _ h => by first | rfl | kernel_rfl) ?_
        refine lx.o_pure (.int .i64 (wd2 : Nat)) (fun D X hC => lx.run_load rfl rfl Try.underlying3 rfl (blk_cell (hC.b4 K4.out) 1)) ?_
        refine lx.o_pure (.pointer (some ⟨n3, 1, none⟩)) (fun _ _ h => by first | rfl | kernel_rfl) ?_
        refine lx.o_pure (.int .i8 cw) (fun D X hC => lx.run_load rfl rfl Try.underlying42 rfl (blk_cell (hC.b4 K3.out) 1)) ?_
        refine lx.o_pure (.int .i64 cw) (fun _ _ _ => run_wide8 rfl rfl Try.underlying42 Try.underlying3 hcw) ?_
        refine lx.o_pure (.bool false) (fun _ _ _ => run_neint_f rfl rfl rfl HWC.out) ?_
        refine lx.o_pure (.bool false) (fun _ _ h => by first | rfl | kernel_rfl) ?_
        refine lx.o_pure (.bool false) (fun _ _ h => by first | rfl | kernel_rfl) ?_
        refine lx.o_pure (.pointer (some ⟨n3, 2, none⟩)) (fun _ _ h => by first | rfl | kernel_rfl) ?_
        refine lx.o_pure (.agg #[.int .i32 cf, .int .i32 cb, .int .u8 ca]) (fun D X hC => run_load3 rfl rfl (hC.b4 K3.out)) ?_
        refine lx.o_call (.agg #[.int .i32 of, .int .i32 ob, .int .u8 oa]) 30 #[.agg #[.int .i32 cf, .int .i32 cb, .int .u8 ca], .slice none 0 0] (fun _ _ _ => lx.run_fn rfl rfl rfl (enters_of Try.func30 (by kernel_rfl) rfl)) (fun D X hC => (HOV.out X).mono fun e w2 ⟨he, hw⟩ => ⟨he, hC.trans (hw.mono (by have := hC.size; omega))⟩) ?_
        refine lx.o_pure (.pointer (some ⟨n3, 2, none⟩)) (fun _ _ h => by first | rfl | kernel_rfl) ?_
        refine lx.o_pure (.agg #[.int .i32 cf, .int .i32 cb, .int .u8 ca]) (fun D X hC => run_load3 rfl rfl (hC.b4 K3.out)) ?_
        refine lx.o_pure (.bool false) (fun _ _ _ => run_nesty_f (s := ⟨of, ob, oa⟩) (s' := ⟨cf, cb, ca⟩) rfl rfl rfl HST.out) ?_
        refine lx.o_pure (.bool false) (fun _ _ h => by first | rfl | kernel_rfl) ?_
        refine lx.o_end ?_
        simp only [lx.ov]
        rintro X d hd hC
        have hsX := hC.size
        have K3X := run.hid (And.intro (hC.b4 K3.out) (show n3 < X.heap.size by have := K3.out.2; omega))
        have K4X := run.hid (And.intro (hC.b4 K4.out) (show n4 < X.heap.size by have := K4.out.2; omega))
        replace HB3 := run.hid (HB3.out.trans (hC.mono hle))
        replace hle : n3 ≤ X.heap.size := by omega
        clear hC hd K3 K4 HOV
        go_simp
        go_upto_region 5 with fail
        refine lx.region (fun D Y => Below X.heap.size X Y) (by kernel_rfl) (by kernel_rfl) (by kernel_rfl) (drewB (Below.refl _ _)) ?_
        refine lx.begin 57 rfl ?_
        refine lx.o_pure (.pointer (some ⟨n4, 1, none⟩)) (fun _ _ h => by first | rfl | kernel_rfl) ?_
        refine lx.o_pure (.int .i64 (wd2 : Nat)) (fun D X hC => lx.run_load rfl rfl Try.underlying3 rfl (blk_cell (hC.b4 K4X.out) 1)) ?_
        refine lx.o_pure (.bool true) (fun _ _ _ => run_eqint_t rfl rfl rfl H2.out) ?_
        refine lx.o_pure (.bool true) (fun _ _ h => by first | rfl | kernel_rfl) ?_
        refine lx.o_pure (.slice (some ⟨b, off, none⟩) N cap) (fun _ _ h => by first | rfl | kernel_rfl) ?_
        refine lx.o_pure (.int .i64 (N : Nat)) (fun _ _ h => by first | rfl | kernel_rfl) ?_
        refine lx.o_pure (.bool false) (fun _ _ _ => run_lss rfl rfl rfl (decide_eq_false (by omega))) ?_
        refine lx.o_pure (.bool false) (fun _ _ h => by first | rfl | kernel_rfl) ?_
        refine lx.o_pure (.slice (some ⟨b, off, none⟩) N cap) (fun _ _ h => by first | rfl | kernel_rfl) ?_
        refine lx.o_pure (.pointer (some ⟨b, off + 1 * 5, none⟩)) (fun _ _ _ => lx.run_at (i := 1) rfl rfl rfl (by omega) Try.underlying35 hinf hsz) ?_
        refine lx.o_pure (.agg #[.string dt, .int .i8 dw, .int .i32 df, .int .i32 db, .int .u8 da]) (fun D X hC => run_load5 rfl rfl (HD5.out _ (HB3.out.trans (hC.mono hle)))) ?_
        refine lx.o_pure (.pointer (some ⟨n3, 2, none⟩)) (fun _ _ h => by first | rfl | kernel_rfl) ?_
        refine lx.o_pure (.agg #[.int .i32 cf, .int .i32 cb, .int .u8 ca]) (fun D X hC => run_load3 rfl rfl (hC.b4 K3X.out)) ?_
        refine lx.o_pure (.agg #[.string ⟨#[]⟩, .int .i8 0, .int .i32 cf, .int .i32 cb, .int .u8 ca]) (fun _ _ h => by first | rfl | kernel_rfl) ?_
        refine lx.o_pure (.bool true) (fun _ _ _ => run_necell_t (s := ⟨dt, dw, ⟨df, db, da⟩⟩) (s' := ⟨⟨#[]⟩, 0, ⟨cf, cb, ca⟩⟩) rfl rfl rfl HRE.out) ?_
        refine lx.o_pure (.bool true) (fun _ _ h => by first | rfl | kernel_rfl) ?_
        refine lx.o_pure (.bool true) (fun _ _ h => by first | rfl | kernel_rfl) ?_
        refine lx.o_end ?_
        simp only [lx.ov]
        rintro Y d hd hC
        have HF := run.hid (HB3.out.trans (hC.mono hle))
        clear hC hd K3X K4X HB3 HD5
        go_simp
        go_wp2
        go_ret
        exact ⟨by rw [HU'.out, if_pos HRE.out]; try rfl, by rw [hn3]; exact HF.out⟩

  · go_upto_region 3 with fail
    generalize w2.alloc (.cells #[.string st2, .int .i64 (wd2 : Nat)] 55) = w3 at *
    generalize hn4 : w2.heap.size = n4 at *
    generalize hn3 : w.heap.size = n3 at *
    refine lx.region (fun D X => Below (n4 + 1) w3 X) (by kernel_rfl) (by kernel_rfl) (by kernel_rfl) (drewB (Below.refl _ _)) ?_
    refine lx.begin 57 rfl ?_
    refine lx.o_pure (.bool false) (fun _ _ h => by first | rfl | kernel_rfl) ?_
    refine lx.o_pure (.bool true) (fun _ _ h => by first | rfl | kernel_rfl) ?_
    refine lx.o_pure (.bool true) (fun _ _ h => by first | rfl | kernel_rfl) ?_
    refine lx.o_skip ?_
    refine lx.o_skip ?_
    refine lx.o_skip ?_
    refine lx.o_pure (.bool true) (fun _ _ h => by first | rfl | kernel_rfl) ?_
    refine lx.o_pure (.bool true) (fun _ _ h => by first | rfl | kernel_rfl) ?_
    refine lx.o_skip ?_
    refine lx.o_skip ?_
    refine lx.o_skip ?_
    refine lx.o_skip ?_
    refine lx.o_skip ?_
    refine lx.o_skip ?_
    refine lx.o_pure (.bool true) (fun _ _ h => by first | rfl | kernel_rfl) ?_
    refine lx.o_pure (.bool true) (fun _ _ h => by first | rfl | kernel_rfl) ?_
    refine lx.o_skip ?_
    refine lx.o_skip ?_
    refine lx.o_skip ?_
    refine lx.o_skip ?_
    refine lx.o_skip ?_
    refine lx.o_skip ?_
    refine lx.o_pure (.bool true) (fun _ _ h => by first | rfl | kernel_rfl) ?_
    refine lx.o_end ?_
    simp only [lx.ov]
    rintro X d hd hC
    have HF := run.hid (HB3.out.trans (hC.mono hle))
    clear hC hd K3 K4 HB3 HOV HD5
    go_simp
    go_wp2
    go_ret
    exact ⟨by rw [HU.out, HU1.out, if_neg (c := oneOk _ ∧ _) (by exact fun h => hone h.1)]; simp, by rw [hn3]; exact HF.out⟩

end Go.Proofs.Ytinnggiohalifaa.cel
