/-
  What a row begins with; helpers of the laws; units; is a row right; parts of rows.
-/
import Derived.Test.YtdgcfmfjgidbjaaGreatCelB
import Derived.Test.YtdgcfmfjgidbjaaGreatCelC
import Derived.Test.YtdgcfmfjgidbjaaGreatCluEvery
namespace Go.Proofs.YtdgcfmfjgidbjaaGreat.cel
open Go Go.RowKit Go.Proofs
open Go.Proofs.YtdgcfmfjgidbjaaGreat.clu (oneOk OneIs one_any)
open Go.Proofs.YtdgcfmfjgidbjaaGreat.utf (bs runes)
set_option linter.unusedVariables false

instance (s : ByteArray) : Decidable (oneOk s) := by unfold oneOk; infer_instance
/-- how wide a text of one cluster is -/
def wdT (s : ByteArray) : Nat := clu.wide (runes (bs s))
def restT (s : SV) : CV := ⟨⟨#[]⟩, 0, s⟩
/-- a cell as a cluster as it should be: its width, or 0 -/
def unit1 (c : CV) : Nat := if oneOk c.text ∧ 1 ≤ wdT c.text ∧ ((wdT c.text : Nat) : Int) = c.wide ∧ overS c.sty = c.sty then wdT c.text else 0
/-- what a row begins with: a pair (2), a single (1), neither (0) -/
def unitT : List CV → Nat
  | [] => 0
  | c :: t => if unit1 c = 2 ∧ t.head? ≠ some (restT c.sty) then 0 else unit1 c
theorem wdT_le (s : ByteArray) : wdT s ≤ 2 := clu.wide_le _
theorem unit1_le (c : CV) : unit1 c ≤ 2 := by
  unfold unit1
  split
  · exact wdT_le _
  · omega
theorem unitT_le (R : List CV) : unitT R ≤ 2 ∧ unitT R ≤ R.length := by
  cases R with
  | nil => exact ⟨by decide, by decide⟩
  | cons c t =>
    have hU : unitT (c :: t) = if unit1 c = 2 ∧ t.head? ≠ some (restT c.sty) then 0 else unit1 c := rfl
    rw [hU]
    have h1 := unit1_le c
    by_cases h : unit1 c = 2 ∧ t.head? ≠ some (restT c.sty)
    · rw [if_pos h]; exact ⟨by omega, by omega⟩
    · rw [if_neg h]
      refine ⟨h1, ?_⟩
      cases t with
      | nil =>
        rcases Nat.lt_or_ge (unit1 c) 2 with h2 | h2
        · simp; omega
        · exfalso; exact h ⟨by omega, by simp⟩
      | cons d t => simp; omega

section
variable {P : Program} {o : Oper} {ρ : Operand → Value} {w : World} {p q : Operand}
theorem run_neint_t {t t' : TypeId} {x y : Int} (ho : o.op = .binOp .neq t p q t') (hx : ρ p = .int .i64 x) (hy : ρ q = .int .i64 y) (h : x ≠ y) : (execOp ρ o).run Tryz.prog w = .ok (.value (.bool true)) w := by rw [run_neint ho hx hy, decide_eq_false h]; rfl
theorem run_neint_f {t t' : TypeId} {x y : Int} (ho : o.op = .binOp .neq t p q t') (hx : ρ p = .int .i64 x) (hy : ρ q = .int .i64 y) (h : x = y) : (execOp ρ o).run Tryz.prog w = .ok (.value (.bool false)) w := by rw [run_neint ho hx hy, decide_eq_true h]; rfl
theorem run_eqint_t {t t' : TypeId} {x y : Int} (ho : o.op = .binOp .eql t p q t') (hx : ρ p = .int .i64 x) (hy : ρ q = .int .i64 y) (h : x = y) : (execOp ρ o).run Tryz.prog w = .ok (.value (.bool true)) w := by rw [run_eqint ho hx hy, decide_eq_true h]
theorem run_eqint_f {t t' : TypeId} {x y : Int} (ho : o.op = .binOp .eql t p q t') (hx : ρ p = .int .i64 x) (hy : ρ q = .int .i64 y) (h : x ≠ y) : (execOp ρ o).run Tryz.prog w = .ok (.value (.bool false)) w := by rw [run_eqint ho hx hy, decide_eq_false h]
theorem run_nesty_t {s s' : SV} (ho : o.op = .binOp .neq 32 p q 32) (hx : ρ p = s.val) (hy : ρ q = s'.val) (h : s ≠ s') : (execOp ρ o).run Tryz.prog w = .ok (.value (.bool true)) w := by rw [run_nesty ho hx hy, decide_eq_false h]; rfl
theorem run_nesty_f {s s' : SV} (ho : o.op = .binOp .neq 32 p q 32) (hx : ρ p = s.val) (hy : ρ q = s'.val) (h : s = s') : (execOp ρ o).run Tryz.prog w = .ok (.value (.bool false)) w := by rw [run_nesty ho hx hy, decide_eq_true h]; rfl
theorem run_necell_t {s s' : CV} (ho : o.op = .binOp .neq 59 p q 59) (hx : ρ p = s.val) (hy : ρ q = s'.val) (h : s ≠ s') : (execOp ρ o).run Tryz.prog w = .ok (.value (.bool true)) w := by rw [run_necell ho hx hy, decide_eq_false h]; rfl
theorem run_necell_f {s s' : CV} (ho : o.op = .binOp .neq 59 p q 59) (hx : ρ p = s.val) (hy : ρ q = s'.val) (h : s = s') : (execOp ρ o).run Tryz.prog w = .ok (.value (.bool false)) w := by rw [run_necell ho hx hy, decide_eq_true h]; rfl
/-- a cell loaded -/
def Cell5 (w : World) (b o : Nat) (c : CV) : Prop := w.cell? ⟨b, o, none⟩ = some (.string c.text) ∧ w.cell? ⟨b, o + 1, none⟩ = some (.int .i8 c.wide) ∧ w.cell? ⟨b, o + 2, none⟩ = some (.int .i32 c.sty.fg) ∧ w.cell? ⟨b, o + 3, none⟩ = some (.int .i32 c.sty.bg) ∧ w.cell? ⟨b, o + 4, none⟩ = some (.int .u8 c.sty.att)
theorem run_load5 {b n : Nat} {c : CV} (ho : o.op = .load 59 p) (hx : ρ p = .pointer (some ⟨b, n, none⟩)) (h : Cell5 w b n c) : (execOp ρ o).run Tryz.prog w = .ok (.value c.val) w := by
  obtain ⟨c0, c1, c2, c3, c4⟩ := h
  unfold execOp
  simp only [ho, hx]
  simp [go_sem, c0, c1, c2, c3, c4, CV.val]
end
theorem Cell5.below {w w' : World} {B b o : Nat} {c : CV} (h : Cell5 w b o c) (hb : Below B w w') (hlt : b < B) : Cell5 w' b o c := by
  have hbb := hb.block b hlt
  obtain ⟨h0, h1, h2, h3, h4⟩ := h
  exact ⟨(World.cell?_of_block (a := ⟨b, _, none⟩) hbb).trans h0, (World.cell?_of_block (a := ⟨b, _, none⟩) hbb).trans h1, (World.cell?_of_block (a := ⟨b, _, none⟩) hbb).trans h2, (World.cell?_of_block (a := ⟨b, _, none⟩) hbb).trans h3, (World.cell?_of_block (a := ⟨b, _, none⟩) hbb).trans h4⟩

set_option maxRecDepth 100000 in
set_option maxHeartbeats 8000000 in
theorem unit_any (b off N cap : Nat) (c : CV) (t : List CV) (w : World) (hN : N = t.length + 1) (hc : Cell5 w b off c) (hd : ∀ d t', t = d :: t' → Cell5 w b (off + 5) d) (hs : c.text.size ≤ 1099511627776) (hcw : -128 ≤ c.wide ∧ c.wide ≤ 127) :
    Calls Tryz.prog 70 #[.slice (some ⟨b, off, none⟩) N cap] w fun e w' => e = .returned (.int .i64 (unitT (c :: t) : Nat)) ∧ Below w.heap.size w w' := by
  obtain ⟨it, hinf, -, hsz, -⟩ := info_parts info_cell
  have hb : b < w.heap.size := run.lt_of_cell hc.1
  have HD5 := run.hid (fun (X : World) (h : Below w.heap.size w X) d t' (ht : t = d :: t') => (hd d t' ht).below h hb)
  have HONE := run.hid (fun w => one_any c.text w hs)
  have HOV := run.hid (fun w => over_any c.sty w)
  have HU := run.hid (show unitT (c :: t) = if unit1 c = 2 ∧ t.head? ≠ some (restT c.sty) then 0 else unit1 c from rfl)
  have HU1 := run.hid (show unit1 c = if oneOk c.text ∧ 1 ≤ wdT c.text ∧ ((wdT c.text : Nat) : Int) = c.wide ∧ overS c.sty = c.sty then wdT c.text else 0 from rfl)
  have hwl := wdT_le c.text
  change Hid (∀ w, Calls _ _ _ w (OneIs c.text w)) at HONE
  unfold OneIs at HONE
  change Hid (∀ w, Calls _ _ _ w (fun e w' => Below w.heap.size w w' ∧ ((oneOk c.text ∧ e = .returned (.tuple #[.agg #[.string c.text, .int .i64 (wdT c.text : Nat)], .bool true])) ∨ _))) at HONE
  unfold restT at HU
  generalize unitT (c :: t) = un at *
  generalize unit1 c = u1 at *
  obtain ⟨ct, cw, ⟨cf, cb, ca⟩⟩ := c
  dsimp only at *
  generalize wdT ct = wd at *
  obtain ⟨⟨of, ob, oa⟩, hos⟩ : ∃ q, q = overS ⟨cf, cb, ca⟩ := ⟨_, rfl⟩
  rw [← hos] at HOV HU1
  clear hos
  change Hid (∀ w, Calls _ _ #[.agg #[.int .i32 cf, .int .i32 cb, .int .u8 ca], _] _ fun e w' => e = .returned (.agg #[.int .i32 of, .int .i32 ob, .int .u8 oa]) ∧ _) at HOV
  obtain ⟨c0, c1, c2, c3, c4⟩ := hc
  have k1 := heap_alloc_new w (.cells #[.string ct, .int .i8 cw, .int .i32 cf, .int .i32 cb, .int .u8 ca] 59)
  have hB1 := run.below_one w (.cells #[.string ct, .int .i8 cw, .int .i32 cf, .int .i32 cb, .int .u8 ca] 59)
  have KK := run.hid (And.intro k1 hB1)
  clear k1 hB1 hd hs
  have hpos : 0 < N := by omega
  have HNN := run.hid hN
  clear hN
  dsimp only at c0 c1 c2 c3 c4
  go_enter Tryz.func70, Tryz.ntmps70
  go_wp2_with fail
  refine (HONE.out _).mono ?_
  rintro e w2 ⟨hb2, hcase⟩
  obtain ⟨k1, hB1⟩ := KK.out
  have hs2 := hb2.size
  simp only [World.size_alloc] at hs2
  have HB2 := run.hid (hB1.trans (hb2.mono hB1.size))
  have K32 := run.hid ((hb2.block w.heap.size (by simp)).trans k1)
  clear k1 hB1 hb2 KK HONE c0 c1 c2 c3 c4
  obtain ⟨okb, st2, wd2, rfl, hok⟩ : ∃ (okb : Bool) (st2 : ByteArray) (wd2 : Nat), e = .returned (.tuple #[.agg #[.string st2, .int .i64 (wd2 : Nat)], .bool okb]) ∧ ((okb = true ∧ oneOk ct ∧ st2 = ct ∧ wd2 = wd) ∨ (okb = false ∧ ¬ oneOk ct)) := by
    rcases hcase with ⟨h1, rfl⟩ | ⟨h1, rfl⟩
    · exact ⟨true, _, _, rfl, .inl ⟨rfl, h1, rfl, rfl⟩⟩
    · exact ⟨false, ⟨#[]⟩, 0, rfl, .inr ⟨rfl, h1⟩⟩
  clear hcase
  have HB3 := run.hid (HB2.out.alloc HB2.out.size (.cells #[.string st2, .int .i64 (wd2 : Nat)] 83))
  have K3 := run.hid (And.intro ((blk_old (.cells #[.string st2, .int .i64 (wd2 : Nat)] 83) (by omega)).trans K32.out) (show w.heap.size < w2.heap.size + 1 by omega))
  have K4 := run.hid (And.intro (heap_alloc_new w2 (.cells #[.string st2, .int .i64 (wd2 : Nat)] 83)) (show w2.heap.size < w2.heap.size + 1 by omega))
  have hszA : (w2.alloc (.cells #[.string st2, .int .i64 (wd2 : Nat)] 83)).heap.size = w2.heap.size + 1 := by simp
  have hle : w.heap.size ≤ w2.heap.size + 1 := by omega
  clear HB2 K32
  rcases hok with ⟨rfl, hone, rfl, rfl⟩ | ⟨rfl, hone⟩
  · have HONEOK := run.hid hone
    clear hone
    by_cases hB : wd2 < 1
    · go_upto_region 3 with fail
      generalize w2.alloc (.cells #[.string st2, .int .i64 (wd2 : Nat)] 83) = w3 at *
      generalize hn4 : w2.heap.size = n4 at *
      generalize hn3 : w.heap.size = n3 at *
      refine lx.region (fun D X => Below (n4 + 1) w3 X) (by kernel_rfl) (by kernel_rfl) (by kernel_rfl) (drewB (Below.refl _ _)) ?_
      refine lx.begin 57 rfl ?_
      refine lx.o_pure (.bool true) (fun _ _ h => by first | rfl | kernel_rfl) ?_
      refine lx.o_pure (.bool false) (fun _ _ h => by first | rfl | kernel_rfl) ?_
      refine lx.o_pure (.bool false) (fun _ _ h => by first | rfl | kernel_rfl) ?_
      refine lx.o_pure (.pointer (some ⟨n4, 1, none⟩)) (fun _ _ h => by first | rfl | kernel_rfl) ?_
      refine lx.o_pure (.int .i64 (wd2 : Nat)) (fun D X hC => lx.run_load rfl rfl Tryz.underlying3 rfl (blk_cell (hC.b4 K4.out) 1)) ?_
      refine lx.o_pure (.bool true) (fun _ _ _ => run_lss rfl rfl rfl (decide_eq_true (by omega))) ?_
      refine lx.o_pure (.bool true) (fun _ _ h => by first | rfl | kernel_rfl) ?_
      refine lx.o_pure (.bool true) (fun _ _ h => by first | rfl | kernel_rfl) ?_
      refine lx.o_skip ?_
      refine lx.o_skip ?_
      refine lx.o_skip ?_
      refine lx.o_skip ?_
      refine lx.o_skip ?_
      refine lx.o_skip ?_
      refine lx.o_pure (.bool true) (fun _ _ h => by first | rfl | kernel_rfl) ?_
      refine lx.o_pure (.bool true) (fun _ _ h => by first | rfl | kernel_rfl) ?_
      refine lx.o_skip ?_
      refine lx.o_skip ?_
      refine lx.o_skip ?_
      refine lx.o_skip ?_
      refine lx.o_skip ?_
      refine lx.o_skip ?_
      refine lx.o_pure (.bool true) (fun _ _ h => by first | rfl | kernel_rfl) ?_
      refine lx.o_end ?_
      simp only [lx.ov]
      rintro X d hd hC
      have HF := run.hid (HB3.out.trans (hC.mono hle))
      clear hC hd K3 K4 HB3 HOV HD5
      go_simp
      go_wp2
      go_ret
      exact ⟨by rw [HU.out, HU1.out, if_neg (c := oneOk _ ∧ _) (by omega)]; simp, by rw [hn3]; exact HF.out⟩

    by_cases hwc : ((wd2 : Nat) : Int) = cw
    rotate_left
    · have HWC := run.hid hwc
      clear hwc
      go_upto_region 3 with fail
      generalize w2.alloc (.cells #[.string st2, .int .i64 (wd2 : Nat)] 83) = w3 at *
      generalize hn4 : w2.heap.size = n4 at *
      generalize hn3 : w.heap.size = n3 at *
      refine lx.region (fun D X => Below (n4 + 1) w3 X) (by kernel_rfl) (by kernel_rfl) (by kernel_rfl) (drewB (Below.refl _ _)) ?_
      refine lx.begin 57 rfl ?_
      refine lx.o_pure (.bool true) (fun _ _ h => by first | rfl | kernel_rfl) ?_
      refine lx.o_pure (.bool false) (fun _ _ h => by first | rfl | kernel_rfl) ?_
      refine lx.o_pure (.bool false) (fun _ _ h => by first | rfl | kernel_rfl) ?_
      refine lx.o_pure (.pointer (some ⟨n4, 1, none⟩)) (fun _ _ h => by first | rfl | kernel_rfl) ?_
      refine lx.o_pure (.int .i64 (wd2 : Nat)) (fun D X hC => lx.run_load rfl rfl Tryz.underlying3 rfl (blk_cell (hC.b4 K4.out) 1)) ?_
      refine lx.o_pure (.bool false) (fun _ _ _ => run_lss rfl rfl rfl (decide_eq_false (by omega))) ?_
      refine lx.o_pure (.bool false) (fun _ _ h => by first | rfl | kernel_rfl) ?_
      refine lx.o_pure (.bool false) (fun _ _ h => by first | rfl | kernel_rfl) ?_
      refine lx.o_pure (.pointer (some ⟨n4, 1, none⟩)) (fun _ _ h => by first | rfl | kernel_rfl) ?_
      refine lx.o_pure (.int .i64 (wd2 : Nat)) (fun D X hC => lx.run_load rfl rfl Tryz.underlying3 rfl (blk_cell (hC.b4 K4.out) 1)) ?_
      refine lx.o_pure (.pointer (some ⟨n3, 1, none⟩)) (fun _ _ h => by first | rfl | kernel_rfl) ?_
      refine lx.o_pure (.int .i8 cw) (fun D X hC => lx.run_load rfl rfl Tryz.underlying57 rfl (blk_cell (hC.b4 K3.out) 1)) ?_
      refine lx.o_pure (.int .i64 cw) (fun _ _ _ => run_wide8 rfl rfl Tryz.underlying57 Tryz.underlying3 hcw) ?_
      refine lx.o_pure (.bool true) (fun _ _ _ => run_neint_t rfl rfl rfl HWC.out) ?_
      refine lx.o_pure (.bool true) (fun _ _ h => by first | rfl | kernel_rfl) ?_
      refine lx.o_pure (.bool true) (fun _ _ h => by first | rfl | kernel_rfl) ?_
      refine lx.o_skip ?_
      refine lx.o_skip ?_
      refine lx.o_skip ?_
      refine lx.o_skip ?_
      refine lx.o_skip ?_
      refine lx.o_skip ?_
      refine lx.o_pure (.bool true) (fun _ _ h => by first | rfl | kernel_rfl) ?_
      refine lx.o_end ?_
      simp only [lx.ov]
      rintro X d hd hC
      have HF := run.hid (HB3.out.trans (hC.mono hle))
      clear hC hd K3 K4 HB3 HOV HD5
      go_simp
      go_wp2
      go_ret
      exact ⟨by rw [HU.out, HU1.out, if_neg (c := oneOk _ ∧ _) (by exact fun h => HWC.out h.2.2.1)]; simp, by rw [hn3]; exact HF.out⟩

    by_cases hst : SV.mk of ob oa = ⟨cf, cb, ca⟩
    rotate_left
    · have HWC := run.hid hwc
      have HST := run.hid hst
      clear hwc hst
      go_upto_region 3 with fail
      generalize w2.alloc (.cells #[.string st2, .int .i64 (wd2 : Nat)] 83) = w3 at *
      generalize hn4 : w2.heap.size = n4 at *
      generalize hn3 : w.heap.size = n3 at *
      refine lx.region (fun D X => Below (n4 + 1) w3 X) (by kernel_rfl) (by kernel_rfl) (by kernel_rfl) (drewB (Below.refl _ _)) ?_
      refine lx.begin 57 rfl ?_
      refine lx.o_pure (.bool true) (fun _ _ h => by first | rfl | kernel_rfl) ?_
      refine lx.o_pure (.bool false) (fun _ _ h => by first | rfl | kernel_rfl) ?_
      refine lx.o_pure (.bool false) (fun _ _ h => by first | rfl | kernel_rfl) ?_
      refine lx.o_pure (.pointer (some ⟨n4, 1, none⟩)) (fun _ _ h => by first | rfl | kernel_rfl) ?_
      refine lx.o_pure (.int .i64 (wd2 : Nat)) (fun D X hC => lx.run_load rfl rfl Tryz.underlying3 rfl (blk_cell (hC.b4 K4.out) 1)) ?_
      refine lx.o_pure (.bool false) (fun _ _ _ => run_lss rfl rfl rfl (decide_eq_false (by omega))) ?_
      refine lx.o_pure (.bool false) (fun _ _ h => by first | rfl | kernel_rfl) ?_
      refine lx.o_pure (.bool false) (fun _ _ h => by first | rfl | kernel_rfl) ?_
      refine lx.o_pure (.pointer (some ⟨n4, 1, none⟩)) (fun _ _ h => by first | rfl | kernel_rfl) ?_
      refine lx.o_pure (.int .i64 (wd2 : Nat)) (fun D X hC => lx.run_load rfl rfl Tryz.underlying3 rfl (blk_cell (hC.b4 K4.out) 1)) ?_
      refine lx.o_pure (.pointer (some ⟨n3, 1, none⟩)) (fun _ _ h => by first | rfl | kernel_rfl) ?_
      refine lx.o_pure (.int .i8 cw) (fun D X hC => lx.run_load rfl rfl Tryz.underlying57 rfl (blk_cell (hC.b4 K3.out) 1)) ?_
      refine lx.o_pure (.int .i64 cw) (fun _ _ _ => run_wide8 rfl rfl Tryz.underlying57 Tryz.underlying3 hcw) ?_
      refine lx.o_pure (.bool false) (fun _ _ _ => run_neint_f rfl rfl rfl HWC.out) ?_
      refine lx.o_pure (.bool false) (fun _ _ h => by first | rfl | kernel_rfl) ?_
      refine lx.o_pure (.bool false) (fun _ _ h => by first | rfl | kernel_rfl) ?_
      refine lx.o_pure (.pointer (some ⟨n3, 2, none⟩)) (fun _ _ h => by first | rfl | kernel_rfl) ?_
      refine lx.o_pure (.agg #[.int .i32 cf, .int .i32 cb, .int .u8 ca]) (fun D X hC => run_load3 rfl rfl (hC.b4 K3.out)) ?_
      refine lx.o_call (.agg #[.int .i32 of, .int .i32 ob, .int .u8 oa]) 36 #[.agg #[.int .i32 cf, .int .i32 cb, .int .u8 ca], .slice none 0 0] (fun _ _ _ => lx.run_fn rfl rfl rfl (enters_of Tryz.func36 (by kernel_rfl) rfl)) (fun D X hC => (HOV.out X).mono fun e w2 ⟨he, hw⟩ => ⟨he, hC.trans (hw.mono (by have := hC.size; omega))⟩) ?_
      refine lx.o_pure (.pointer (some ⟨n3, 2, none⟩)) (fun _ _ h => by first | rfl | kernel_rfl) ?_
      refine lx.o_pure (.agg #[.int .i32 cf, .int .i32 cb, .int .u8 ca]) (fun D X hC => run_load3 rfl rfl (hC.b4 K3.out)) ?_
      refine lx.o_pure (.bool true) (fun _ _ _ => run_nesty_t (s := ⟨of, ob, oa⟩) (s' := ⟨cf, cb, ca⟩) rfl rfl rfl HST.out) ?_
      refine lx.o_pure (.bool true) (fun _ _ h => by first | rfl | kernel_rfl) ?_
      refine lx.o_end ?_
      simp only [lx.ov]
      rintro X d hd hC
      have HF := run.hid (HB3.out.trans (hC.mono hle))
      clear hC hd K3 K4 HB3 HOV HD5
      go_simp
      go_wp2
      go_ret
      exact ⟨by rw [HU.out, HU1.out, if_neg (c := oneOk _ ∧ _) (by exact fun h => HST.out h.2.2.2)]; simp, by rw [hn3]; exact HF.out⟩

    have HU1' : Hid (u1 = wd2) := by
      show u1 = wd2
      rw [HU1.out]
      exact if_pos ⟨HONEOK.out, by omega, hwc, hst⟩
    have HWC := run.hid hwc
    have HST := run.hid hst
    clear HU1 hwc hst
    by_cases h2 : wd2 = 2
    rotate_left
    · have H2 := run.hid (show ((wd2 : Nat) : Int) ≠ 2 by omega)
      have HU2 : Hid (un = wd2) := by
        show un = _
        rw [HU.out, HU1'.out, if_neg (by omega)]
      clear h2
      go_upto_region 3 with fail
      generalize w2.alloc (.cells #[.string st2, .int .i64 (wd2 : Nat)] 83) = w3 at *
      generalize hn4 : w2.heap.size = n4 at *
      generalize hn3 : w.heap.size = n3 at *
      refine lx.region (fun D X => Below (n4 + 1) w3 X) (by kernel_rfl) (by kernel_rfl) (by kernel_rfl) (drewB (Below.refl _ _)) ?_
      refine lx.begin 57 rfl ?_
      refine lx.o_pure (.bool true) (fun _ _ h => by first | rfl | kernel_rfl) ?_
      refine lx.o_pure (.bool false) (fun _ _ h => by first | rfl | kernel_rfl) ?_
      refine lx.o_pure (.bool false) (fun _ _ h => by first | rfl | kernel_rfl) ?_
      refine lx.o_pure (.pointer (some ⟨n4, 1, none⟩)) (fun _ _ h => by first | rfl | kernel_rfl) ?_
      refine lx.o_pure (.int .i64 (wd2 : Nat)) (fun D X hC => lx.run_load rfl rfl Tryz.underlying3 rfl (blk_cell (hC.b4 K4.out) 1)) ?_
      refine lx.o_pure (.bool false) (fun _ _ _ => run_lss rfl rfl rfl (decide_eq_false (by omega))) ?_
      refine lx.o_pure (.bool false) (fun _ _ h => by first | rfl | kernel_rfl) ?_
      refine lx.o_pure (.bool false) (fun _ _ h => by first | rfl | kernel_rfl) ?_
      refine lx.o_pure (.pointer (some ⟨n4, 1, none⟩)) (fun _ _ h => by first | rfl | kernel_rfl) ?_
      refine lx.o_pure (.int .i64 (wd2 : Nat)) (fun D X hC => lx.run_load rfl rfl Tryz.underlying3 rfl (blk_cell (hC.b4 K4.out) 1)) ?_
      refine lx.o_pure (.pointer (some ⟨n3, 1, none⟩)) (fun _ _ h => by first | rfl | kernel_rfl) ?_
      refine lx.o_pure (.int .i8 cw) (fun D X hC => lx.run_load rfl rfl Tryz.underlying57 rfl (blk_cell (hC.b4 K3.out) 1)) ?_
      refine lx.o_pure (.int .i64 cw) (fun _ _ _ => run_wide8 rfl rfl Tryz.underlying57 Tryz.underlying3 hcw) ?_
      refine lx.o_pure (.bool false) (fun _ _ _ => run_neint_f rfl rfl rfl HWC.out) ?_
      refine lx.o_pure (.bool false) (fun _ _ h => by first | rfl | kernel_rfl) ?_
      refine lx.o_pure (.bool false) (fun _ _ h => by first | rfl | kernel_rfl) ?_
      refine lx.o_pure (.pointer (some ⟨n3, 2, none⟩)) (fun _ _ h => by first | rfl | kernel_rfl) ?_
      refine lx.o_pure (.agg #[.int .i32 cf, .int .i32 cb, .int .u8 ca]) (fun D X hC => run_load3 rfl rfl (hC.b4 K3.out)) ?_
      refine lx.o_call (.agg #[.int .i32 of, .int .i32 ob, .int .u8 oa]) 36 #[.agg #[.int .i32 cf, .int .i32 cb, .int .u8 ca], .slice none 0 0] (fun _ _ _ => lx.run_fn rfl rfl rfl (enters_of Tryz.func36 (by kernel_rfl) rfl)) (fun D X hC => (HOV.out X).mono fun e w2 ⟨he, hw⟩ => ⟨he, hC.trans (hw.mono (by have := hC.size; omega))⟩) ?_
      refine lx.o_pure (.pointer (some ⟨n3, 2, none⟩)) (fun _ _ h => by first | rfl | kernel_rfl) ?_
      refine lx.o_pure (.agg #[.int .i32 cf, .int .i32 cb, .int .u8 ca]) (fun D X hC => run_load3 rfl rfl (hC.b4 K3.out)) ?_
      refine lx.o_pure (.bool false) (fun _ _ _ => run_nesty_f (s := ⟨of, ob, oa⟩) (s' := ⟨cf, cb, ca⟩) rfl rfl rfl HST.out) ?_
      refine lx.o_pure (.bool false) (fun _ _ h => by first | rfl | kernel_rfl) ?_
      refine lx.o_end ?_
      simp only [lx.ov]
      rintro X d hd hC
      have hsX := hC.size
      have K3X := run.hid (And.intro (hC.b4 K3.out) (show n3 < X.heap.size by have := K3.out.2; omega))
      have K4X := run.hid (And.intro (hC.b4 K4.out) (show n4 < X.heap.size by have := K4.out.2; omega))
      replace HB3 := run.hid (HB3.out.trans (hC.mono hle))
      replace hle : n3 ≤ X.heap.size := by omega
      clear hC hd K3 K4 HOV
      go_simp
      go_upto_region 5 with fail
      refine lx.region (fun D Y => Below X.heap.size X Y) (by kernel_rfl) (by kernel_rfl) (by kernel_rfl) (drewB (Below.refl _ _)) ?_
      refine lx.begin 57 rfl ?_
      refine lx.o_pure (.pointer (some ⟨n4, 1, none⟩)) (fun _ _ h => by first | rfl | kernel_rfl) ?_
      refine lx.o_pure (.int .i64 (wd2 : Nat)) (fun D X hC => lx.run_load rfl rfl Tryz.underlying3 rfl (blk_cell (hC.b4 K4X.out) 1)) ?_
      refine lx.o_pure (.bool false) (fun _ _ _ => run_eqint_f rfl rfl rfl H2.out) ?_
      refine lx.o_pure (.bool false) (fun _ _ h => by first | rfl | kernel_rfl) ?_
      refine lx.o_skip ?_
      refine lx.o_skip ?_
      refine lx.o_skip ?_
      refine lx.o_skip ?_
      refine lx.o_skip ?_
      refine lx.o_skip ?_
      refine lx.o_skip ?_
      refine lx.o_skip ?_
      refine lx.o_skip ?_
      refine lx.o_skip ?_
      refine lx.o_skip ?_
      refine lx.o_skip ?_
      refine lx.o_pure (.bool false) (fun _ _ h => by first | rfl | kernel_rfl) ?_
      refine lx.o_end ?_
      simp only [lx.ov]
      rintro Y d hd hC
      have HF := run.hid (HB3.out.trans (hC.mono hle))
      have e1 := blk_cell (hC.b4 K4X.out) 1
      change Y.cell? _ = some (.int .i64 (wd2 : Nat)) at e1
      clear hC hd K3X K4X HB3 HD5
      go_simp
      go_wp2
      go_ret
      exact ⟨by rw [HU2.out]; try rfl, by rw [hn3]; exact HF.out⟩

    have H2 := run.hid (show ((wd2 : Nat) : Int) = 2 by omega)
    have H2' := run.hid h2
    clear h2
    match t, HNN with
    | [], HNN =>
      have hN1 : N < 2 := by have := HNN.out; simp at this; omega
      clear HNN
      go_upto_region 3 with fail
      generalize w2.alloc (.cells #[.string st2, .int .i64 (wd2 : Nat)] 83) = w3 at *
      generalize hn4 : w2.heap.size = n4 at *
      generalize hn3 : w.heap.size = n3 at *
      refine lx.region (fun D X => Below (n4 + 1) w3 X) (by kernel_rfl) (by kernel_rfl) (by kernel_rfl) (drewB (Below.refl _ _)) ?_
      refine lx.begin 57 rfl ?_
      refine lx.o_pure (.bool true) (fun _ _ h => by first | rfl | kernel_rfl) ?_
      refine lx.o_pure (.bool false) (fun _ _ h => by first | rfl | kernel_rfl) ?_
      refine lx.o_pure (.bool false) (fun _ _ h => by first | rfl | kernel_rfl) ?_
      refine lx.o_pure (.pointer (some ⟨n4, 1, none⟩)) (fun _ _ h => by first | rfl | kernel_rfl) ?_
      refine lx.o_pure (.int .i64 (wd2 : Nat)) (fun D X hC => lx.run_load rfl rfl Tryz.underlying3 rfl (blk_cell (hC.b4 K4.out) 1)) ?_
      refine lx.o_pure (.bool false) (fun _ _ _ => run_lss rfl rfl rfl (decide_eq_false (by omega))) ?_
      refine lx.o_pure (.bool false) (fun _ _ h => by first | rfl | kernel_rfl) ?_
      refine lx.o_pure (.bool false) (fun _ _ h => by first | rfl | kernel_rfl) ?_
      refine lx.o_pure (.pointer (some ⟨n4, 1, none⟩)) (fun _ _ h => by first | rfl | kernel_rfl) ?_
      refine lx.o_pure (.int .i64 (wd2 : Nat)) (fun D X hC => lx.run_load rfl rfl Tryz.underlying3 rfl (blk_cell (hC.b4 K4.out) 1)) ?_
      refine lx.o_pure (.pointer (some ⟨n3, 1, none⟩)) (fun _ _ h => by first | rfl | kernel_rfl) ?_
      refine lx.o_pure (.int .i8 cw) (fun D X hC => lx.run_load rfl rfl Tryz.underlying57 rfl (blk_cell (hC.b4 K3.out) 1)) ?_
      refine lx.o_pure (.int .i64 cw) (fun _ _ _ => run_wide8 rfl rfl Tryz.underlying57 Tryz.underlying3 hcw) ?_
      refine lx.o_pure (.bool false) (fun _ _ _ => run_neint_f rfl rfl rfl HWC.out) ?_
      refine lx.o_pure (.bool false) (fun _ _ h => by first | rfl | kernel_rfl) ?_
      refine lx.o_pure (.bool false) (fun _ _ h => by first | rfl | kernel_rfl) ?_
      refine lx.o_pure (.pointer (some ⟨n3, 2, none⟩)) (fun _ _ h => by first | rfl | kernel_rfl) ?_
      refine lx.o_pure (.agg #[.int .i32 cf, .int .i32 cb, .int .u8 ca]) (fun D X hC => run_load3 rfl rfl (hC.b4 K3.out)) ?_
      refine lx.o_call (.agg #[.int .i32 of, .int .i32 ob, .int .u8 oa]) 36 #[.agg #[.int .i32 cf, .int .i32 cb, .int .u8 ca], .slice none 0 0] (fun _ _ _ => lx.run_fn rfl rfl rfl (enters_of Tryz.func36 (by kernel_rfl) rfl)) (fun D X hC => (HOV.out X).mono fun e w2 ⟨he, hw⟩ => ⟨he, hC.trans (hw.mono (by have := hC.size; omega))⟩) ?_
      refine lx.o_pure (.pointer (some ⟨n3, 2, none⟩)) (fun _ _ h => by first | rfl | kernel_rfl) ?_
      refine lx.o_pure (.agg #[.int .i32 cf, .int .i32 cb, .int .u8 ca]) (fun D X hC => run_load3 rfl rfl (hC.b4 K3.out)) ?_
      refine lx.o_pure (.bool false) (fun _ _ _ => run_nesty_f (s := ⟨of, ob, oa⟩) (s' := ⟨cf, cb, ca⟩) rfl rfl rfl HST.out) ?_
      refine lx.o_pure (.bool false) (fun _ _ h => by first | rfl | kernel_rfl) ?_
      refine lx.o_end ?_
      simp only [lx.ov]
      rintro X d hd hC
      have hsX := hC.size
      have K3X := run.hid (And.intro (hC.b4 K3.out) (show n3 < X.heap.size by have := K3.out.2; omega))
      have K4X := run.hid (And.intro (hC.b4 K4.out) (show n4 < X.heap.size by have := K4.out.2; omega))
      replace HB3 := run.hid (HB3.out.trans (hC.mono hle))
      replace hle : n3 ≤ X.heap.size := by omega
      clear hC hd K3 K4 HOV
      go_simp
      go_upto_region 5 with fail
      refine lx.region (fun D Y => Below X.heap.size X Y) (by kernel_rfl) (by kernel_rfl) (by kernel_rfl) (drewB (Below.refl _ _)) ?_
      refine lx.begin 57 rfl ?_
      refine lx.o_pure (.pointer (some ⟨n4, 1, none⟩)) (fun _ _ h => by first | rfl | kernel_rfl) ?_
      refine lx.o_pure (.int .i64 (wd2 : Nat)) (fun D X hC => lx.run_load rfl rfl Tryz.underlying3 rfl (blk_cell (hC.b4 K4X.out) 1)) ?_
      refine lx.o_pure (.bool true) (fun _ _ _ => run_eqint_t rfl rfl rfl H2.out) ?_
      refine lx.o_pure (.bool true) (fun _ _ h => by first | rfl | kernel_rfl) ?_
      refine lx.o_pure (.slice (some ⟨b, off, none⟩) N cap) (fun _ _ h => by first | rfl | kernel_rfl) ?_
      refine lx.o_pure (.int .i64 (N : Nat)) (fun _ _ h => by first | rfl | kernel_rfl) ?_
      refine lx.o_pure (.bool true) (fun _ _ _ => run_lss rfl rfl rfl (decide_eq_true (by omega))) ?_
      refine lx.o_pure (.bool true) (fun _ _ h => by first | rfl | kernel_rfl) ?_
      refine lx.o_skip ?_
      refine lx.o_skip ?_
      refine lx.o_skip ?_
      refine lx.o_skip ?_
      refine lx.o_skip ?_
      refine lx.o_skip ?_
      refine lx.o_skip ?_
      refine lx.o_pure (.bool true) (fun _ _ h => by first | rfl | kernel_rfl) ?_
      refine lx.o_pure (.bool true) (fun _ _ h => by first | rfl | kernel_rfl) ?_
      refine lx.o_end ?_
      simp only [lx.ov]
      rintro Y d hd hC
      have HF := run.hid (HB3.out.trans (hC.mono hle))
      clear hC hd K3X K4X HB3 HD5
      go_simp
      go_wp2
      go_ret
      exact ⟨by rw [HU.out, HU1'.out, if_pos ⟨H2'.out, by simp⟩]; try rfl, by rw [hn3]; exact HF.out⟩

    | d :: t', HNN =>
      replace HD5 := run.hid (fun X h => HD5.out X h d t' rfl)
      have HU' : Hid (un = if d ≠ ⟨⟨#[]⟩, 0, ⟨cf, cb, ca⟩⟩ then 0 else wd2) := by
        show un = _
        rw [HU.out, HU1'.out]
        simp [H2'.out]
      clear HU
      obtain ⟨dt, dw, ⟨df, db, da⟩⟩ := d
      have hN2 : 2 ≤ N := by rw [HNN.out]; simp
      clear HNN
      by_cases hrest : CV.mk dt dw ⟨df, db, da⟩ = ⟨⟨#[]⟩, 0, ⟨cf, cb, ca⟩⟩
      · have HRE := run.hid hrest
        clear hrest
        go_upto_region 3 with fail
        generalize w2.alloc (.cells #[.string st2, .int .i64 (wd2 : Nat)] 83) = w3 at *
        generalize hn4 : w2.heap.size = n4 at *
        generalize hn3 : w.heap.size = n3 at *
        refine lx.region (fun D X => Below (n4 + 1) w3 X) (by kernel_rfl) (by kernel_rfl) (by kernel_rfl) (drewB (Below.refl _ _)) ?_
        refine lx.begin 57 rfl ?_
        refine lx.o_pure (.bool true) (fun _ _ h => by first | rfl | kernel_rfl) ?_
        refine lx.o_pure (.bool false) (fun _ _ h => by first | rfl | kernel_rfl) ?_
        refine lx.o_pure (.bool false) (fun _ _ h => by first | rfl | kernel_rfl) ?_
        refine lx.o_pure (.pointer (some ⟨n4, 1, none⟩)) (fun _ _ h => by first | rfl | kernel_rfl) ?_
        refine lx.o_pure (.int .i64 (wd2 : Nat)) (fun D X hC => lx.run_load rfl rfl Tryz.underlying3 rfl (blk_cell (hC.b4 K4.out) 1)) ?_
        refine lx.o_pure (.bool false) (fun _ _ _ => run_lss rfl rfl rfl (decide_eq_false (by omega))) ?_
        refine lx.o_pure (.bool false) (fun _ _ h => by first | rfl | kernel_rfl) ?_
        refine lx.o_pure (.bool false) (fun _ _ h => by first | rfl | kernel_rfl) ?_
        refine lx.o_pure (.pointer (some ⟨n4, 1, none⟩)) (fun _ _ h => by first | rfl | kernel_rfl) ?_
        refine lx.o_pure (.int .i64 (wd2 : Nat)) (fun D X hC => lx.run_load rfl rfl Tryz.underlying3 rfl (blk_cell (hC.b4 K4.out) 1)) ?_
        refine lx.o_pure (.pointer (some ⟨n3, 1, none⟩)) (fun _ _ h => by first | rfl | kernel_rfl) ?_
        refine lx.o_pure (.int .i8 cw) (fun D X hC => lx.run_load rfl rfl Tryz.underlying57 rfl (blk_cell (hC.b4 K3.out) 1)) ?_
        refine lx.o_pure (.int .i64 cw) (fun _ _ _ => run_wide8 rfl rfl Tryz.underlying57 Tryz.underlying3 hcw) ?_
        refine lx.o_pure (.bool false) (fun _ _ _ => run_neint_f rfl rfl rfl HWC.out) ?_
        refine lx.o_pure (.bool false) (fun _ _ h => by first | rfl | kernel_rfl) ?_
        refine lx.o_pure (.bool false) (fun _ _ h => by first | rfl | kernel_rfl) ?_
        refine lx.o_pure (.pointer (some ⟨n3, 2, none⟩)) (fun _ _ h => by first | rfl | kernel_rfl) ?_
        refine lx.o_pure (.agg #[.int .i32 cf, .int .i32 cb, .int .u8 ca]) (fun D X hC => run_load3 rfl rfl (hC.b4 K3.out)) ?_
        refine lx.o_call (.agg #[.int .i32 of, .int .i32 ob, .int .u8 oa]) 36 #[.agg #[.int .i32 cf, .int .i32 cb, .int .u8 ca], .slice none 0 0] (fun _ _ _ => lx.run_fn rfl rfl rfl (enters_of Tryz.func36 (by kernel_rfl) rfl)) (fun D X hC => (HOV.out X).mono fun e w2 ⟨he, hw⟩ => ⟨he, hC.trans (hw.mono (by have := hC.size; omega))⟩) ?_
        refine lx.o_pure (.pointer (some ⟨n3, 2, none⟩)) (fun _ _ h => by first | rfl | kernel_rfl) ?_
        refine lx.o_pure (.agg #[.int .i32 cf, .int .i32 cb, .int .u8 ca]) (fun D X hC => run_load3 rfl rfl (hC.b4 K3.out)) ?_
        refine lx.o_pure (.bool false) (fun _ _ _ => run_nesty_f (s := ⟨of, ob, oa⟩) (s' := ⟨cf, cb, ca⟩) rfl rfl rfl HST.out) ?_
        refine lx.o_pure (.bool false) (fun _ _ h => by first | rfl | kernel_rfl) ?_
        refine lx.o_end ?_
        simp only [lx.ov]
        rintro X d hd hC
        have hsX := hC.size
        have K3X := run.hid (And.intro (hC.b4 K3.out) (show n3 < X.heap.size by have := K3.out.2; omega))
        have K4X := run.hid (And.intro (hC.b4 K4.out) (show n4 < X.heap.size by have := K4.out.2; omega))
        replace HB3 := run.hid (HB3.out.trans (hC.mono hle))
        replace hle : n3 ≤ X.heap.size := by omega
        clear hC hd K3 K4 HOV
        go_simp
        go_upto_region 5 with fail
        refine lx.region (fun D Y => Below X.heap.size X Y) (by kernel_rfl) (by kernel_rfl) (by kernel_rfl) (drewB (Below.refl _ _)) ?_
        refine lx.begin 57 rfl ?_
        refine lx.o_pure (.pointer (some ⟨n4, 1, none⟩)) (fun _ _ h => by first | rfl | kernel_rfl) ?_
        refine lx.o_pure (.int .i64 (wd2 : Nat)) (fun D X hC => lx.run_load rfl rfl Tryz.underlying3 rfl (blk_cell (hC.b4 K4X.out) 1)) ?_
        refine lx.o_pure (.bool true) (fun _ _ _ => run_eqint_t rfl rfl rfl H2.out) ?_
        refine lx.o_pure (.bool true) (fun _ _ h => by first | rfl | kernel_rfl) ?_
        refine lx.o_pure (.slice (some ⟨b, off, none⟩) N cap) (fun _ _ h => by first | rfl | kernel_rfl) ?_
        refine lx.o_pure (.int .i64 (N : Nat)) (fun _ _ h => by first | rfl | kernel_rfl) ?_
        refine lx.o_pure (.bool false) (fun _ _ _ => run_lss rfl rfl rfl (decide_eq_false (by omega))) ?_
        refine lx.o_pure (.bool false) (fun _ _ h => by first | rfl | kernel_rfl) ?_
        refine lx.o_pure (.slice (some ⟨b, off, none⟩) N cap) (fun _ _ h => by first | rfl | kernel_rfl) ?_
        refine lx.o_pure (.pointer (some ⟨b, off + 1 * 5, none⟩)) (fun _ _ _ => lx.run_at (i := 1) rfl rfl rfl (by omega) Tryz.underlying35 hinf hsz) ?_
        refine lx.o_pure (.agg #[.string dt, .int .i8 dw, .int .i32 df, .int .i32 db, .int .u8 da]) (fun D X hC => run_load5 rfl rfl (HD5.out _ (HB3.out.trans (hC.mono hle)))) ?_
        refine lx.o_pure (.pointer (some ⟨n3, 2, none⟩)) (fun _ _ h => by first | rfl | kernel_rfl) ?_
        refine lx.o_pure (.agg #[.int .i32 cf, .int .i32 cb, .int .u8 ca]) (fun D X hC => run_load3 rfl rfl (hC.b4 K3X.out)) ?_
        refine lx.o_pure (.agg #[.string ⟨#[]⟩, .int .i8 0, .int .i32 cf, .int .i32 cb, .int .u8 ca]) (fun _ _ h => by first | rfl | kernel_rfl) ?_
        refine lx.o_pure (.bool false) (fun _ _ _ => run_necell_f (s := ⟨dt, dw, ⟨df, db, da⟩⟩) (s' := ⟨⟨#[]⟩, 0, ⟨cf, cb, ca⟩⟩) rfl rfl rfl HRE.out) ?_
        refine lx.o_pure (.bool false) (fun _ _ h => by first | rfl | kernel_rfl) ?_
        refine lx.o_pure (.bool false) (fun _ _ h => by first | rfl | kernel_rfl) ?_
        refine lx.o_end ?_
        simp only [lx.ov]
        rintro Y d hd hC
        have HF := run.hid (HB3.out.trans (hC.mono hle))
        have e1 := blk_cell (hC.b4 K4X.out) 1
        change Y.cell? _ = some (.int .i64 (wd2 : Nat)) at e1
        clear hC hd K3X K4X HB3 HD5
        go_simp
        go_wp2
        go_ret
        exact ⟨by rw [HU'.out, if_neg (by intro h; exact h HRE.out)]; try rfl, by rw [hn3]; exact HF.out⟩

      · have HRE := run.hid hrest
        clear hrest
        go_upto_region 3 with fail
        generalize w2.alloc (.cells #[.string st2, .int .i64 (wd2 : Nat)] 83) = w3 at *
        generalize hn4 : w2.heap.size = n4 at *
        generalize hn3 : w.heap.size = n3 at *
        refine lx.region (fun D X => Below (n4 + 1) w3 X) (by kernel_rfl) (by kernel_rfl) (by kernel_rfl) (drewB (Below.refl _ _)) ?_
        refine lx.begin 57 rfl ?_
        refine lx.o_pure (.bool true) (fun _ _ h => by first | rfl | kernel_rfl) ?_
        refine lx.o_pure (.bool false) (fun _ _ h => by first | rfl | kernel_rfl) ?_
        refine lx.o_pure (.bool false) (fun _ _ h => by first | rfl | kernel_rfl) ?_
        refine lx.o_pure (.pointer (some ⟨n4, 1, none⟩)) (fun _ _ h => by first | rfl | kernel_rfl) ?_
        refine lx.o_pure (.int .i64 (wd2 : Nat)) (fun D X hC => lx.run_load rfl rfl Tryz.underlying3 rfl (blk_cell (hC.b4 K4.out) 1)) ?_
        refine lx.o_pure (.bool false) (fun _ _ _ => run_lss rfl rfl rfl (decide_eq_false (by omega))) ?_
        refine lx.o_pure (.bool false) (fun _ _ h => by first | rfl | kernel_rfl) ?_
        refine lx.o_pure (.bool false) (fun _ _ h => by first | rfl | kernel_rfl) ?_
        refine lx.o_pure (.pointer (some ⟨n4, 1, none⟩)) (fun _ _ h => by first | rfl | kernel_rfl) ?_
        refine lx.o_pure (.int .i64 (wd2 : Nat)) (fun D X hC => lx.run_load rfl rfl Tryz.underlying3 rfl (blk_cell (hC.b4 K4.out) 1)) ?_
        refine lx.o_pure (.pointer (some ⟨n3, 1, none⟩)) (fun _ _ h => by first | rfl | kernel_rfl) ?_
        refine lx.o_pure (.int .i8 cw) (fun D X hC => lx.run_load rfl rfl Tryz.underlying57 rfl (blk_cell (hC.b4 K3.out) 1)) ?_
        refine lx.o_pure (.int .i64 cw) (fun _ _ _ => run_wide8 rfl rfl Tryz.underlying57 Tryz.underlying3 hcw) ?_
        refine lx.o_pure (.bool false) (fun _ _ _ => run_neint_f rfl rfl rfl HWC.out) ?_
        refine lx.o_pure (.bool false) (fun _ _ h => by first | rfl | kernel_rfl) ?_
        refine lx.o_pure (.bool false) (fun _ _ h => by first | rfl | kernel_rfl) ?_
        refine lx.o_pure (.pointer (some ⟨n3, 2, none⟩)) (fun _ _ h => by first | rfl | kernel_rfl) ?_
        refine lx.o_pure (.agg #[.int .i32 cf, .int .i32 cb, .int .u8 ca]) (fun D X hC => run_load3 rfl rfl (hC.b4 K3.out)) ?_
        refine lx.o_call (.agg #[.int .i32 of, .int .i32 ob, .int .u8 oa]) 36 #[.agg #[.int .i32 cf, .int .i32 cb, .int .u8 ca], .slice none 0 0] (fun _ _ _ => lx.run_fn rfl rfl rfl (enters_of Tryz.func36 (by kernel_rfl) rfl)) (fun D X hC => (HOV.out X).mono fun e w2 ⟨he, hw⟩ => ⟨he, hC.trans (hw.mono (by have := hC.size; omega))⟩) ?_
        refine lx.o_pure (.pointer (some ⟨n3, 2, none⟩)) (fun _ _ h => by first | rfl | kernel_rfl) ?_
        refine lx.o_pure (.agg #[.int .i32 cf, .int .i32 cb, .int .u8 ca]) (fun D X hC => run_load3 rfl rfl (hC.b4 K3.out)) ?_
        refine lx.o_pure (.bool false) (fun _ _ _ => run_nesty_f (s := ⟨of, ob, oa⟩) (s' := ⟨cf, cb, ca⟩) rfl rfl rfl HST.out) ?_
        refine lx.o_pure (.bool false) (fun _ _ h => by first | rfl | kernel_rfl) ?_
        refine lx.o_end ?_
        simp only [lx.ov]
        rintro X d hd hC
        have hsX := hC.size
        have K3X := run.hid (And.intro (hC.b4 K3.out) (show n3 < X.heap.size by have := K3.out.2; omega))
        have K4X := run.hid (And.intro (hC.b4 K4.out) (show n4 < X.heap.size by have := K4.out.2; omega))
        replace HB3 := run.hid (HB3.out.trans (hC.mono hle))
        replace hle : n3 ≤ X.heap.size := by omega
        clear hC hd K3 K4 HOV
        go_simp
        go_upto_region 5 with fail
        refine lx.region (fun D Y => Below X.heap.size X Y) (by kernel_rfl) (by kernel_rfl) (by kernel_rfl) (drewB (Below.refl _ _)) ?_
        refine lx.begin 57 rfl ?_
        refine lx.o_pure (.pointer (some ⟨n4, 1, none⟩)) (fun _ _ h => by first | rfl | kernel_rfl) ?_
        refine lx.o_pure (.int .i64 (wd2 : Nat)) (fun D X hC => lx.run_load rfl rfl Tryz.underlying3 rfl (blk_cell (hC.b4 K4X.out) 1)) ?_
        refine lx.o_pure (.bool true) (fun _ _ _ => run_eqint_t rfl rfl rfl H2.out) ?_
        refine lx.o_pure (.bool true) (fun _ _ h => by first | rfl | kernel_rfl) ?_
        refine lx.o_pure (.slice (some ⟨b, off, none⟩) N cap) (fun _ _ h => by first | rfl | kernel_rfl) ?_
        refine lx.o_pure (.int .i64 (N : Nat)) (fun _ _ h => by first | rfl | kernel_rfl) ?_
        refine lx.o_pure (.bool false) (fun _ _ _ => run_lss rfl rfl rfl (decide_eq_false (by omega))) ?_
        refine lx.o_pure (.bool false) (fun _ _ h => by first | rfl | kernel_rfl) ?_
        refine lx.o_pure (.slice (some ⟨b, off, none⟩) N cap) (fun _ _ h => by first | rfl | kernel_rfl) ?_
        refine lx.o_pure (.pointer (some ⟨b, off + 1 * 5, none⟩)) (fun _ _ _ => lx.run_at (i := 1) rfl rfl rfl (by omega) Tryz.underlying35 hinf hsz) ?_
        refine lx.o_pure (.agg #[.string dt, .int .i8 dw, .int .i32 df, .int .i32 db, .int .u8 da]) (fun D X hC => run_load5 rfl rfl (HD5.out _ (HB3.out.trans (hC.mono hle)))) ?_
        refine lx.o_pure (.pointer (some ⟨n3, 2, none⟩)) (fun _ _ h => by first | rfl | kernel_rfl) ?_
        refine lx.o_pure (.agg #[.int .i32 cf, .int .i32 cb, .int .u8 ca]) (fun D X hC => run_load3 rfl rfl (hC.b4 K3X.out)) ?_
        refine lx.o_pure (.agg #[.string ⟨#[]⟩, .int .i8 0, .int .i32 cf, .int .i32 cb, .int .u8 ca]) (fun _ _ h => by first | rfl | kernel_rfl) ?_
        refine lx.o_pure (.bool true) (fun _ _ _ => run_necell_t (s := ⟨dt, dw, ⟨df, db, da⟩⟩) (s' := ⟨⟨#[]⟩, 0, ⟨cf, cb, ca⟩⟩) rfl rfl rfl HRE.out) ?_
        refine lx.o_pure (.bool true) (fun _ _ h => by first | rfl | kernel_rfl) ?_
        refine lx.o_pure (.bool true) (fun _ _ h => by first | rfl | kernel_rfl) ?_
        refine lx.o_end ?_
        simp only [lx.ov]
        rintro Y d hd hC
        have HF := run.hid (HB3.out.trans (hC.mono hle))
        clear hC hd K3X K4X HB3 HD5
        go_simp
        go_wp2
        go_ret
        exact ⟨by rw [HU'.out, if_pos HRE.out]; try rfl, by rw [hn3]; exact HF.out⟩

  · go_upto_region 3 with fail
    generalize w2.alloc (.cells #[.string st2, .int .i64 (wd2 : Nat)] 83) = w3 at *
    generalize hn4 : w2.heap.size = n4 at *
    generalize hn3 : w.heap.size = n3 at *
    refine lx.region (fun D X => Below (n4 + 1) w3 X) (by kernel_rfl) (by kernel_rfl) (by kernel_rfl) (drewB (Below.refl _ _)) ?_
    refine lx.begin 57 rfl ?_
    refine lx.o_pure (.bool false) (fun _ _ h => by first | rfl | kernel_rfl) ?_
    refine lx.o_pure (.bool true) (fun _ _ h => by first | rfl | kernel_rfl) ?_
    refine lx.o_pure (.bool true) (fun _ _ h => by first | rfl | kernel_rfl) ?_
    refine lx.o_skip ?_
    refine lx.o_skip ?_
    refine lx.o_skip ?_
    refine lx.o_pure (.bool true) (fun _ _ h => by first | rfl | kernel_rfl) ?_
    refine lx.o_pure (.bool true) (fun _ _ h => by first | rfl | kernel_rfl) ?_
    refine lx.o_skip ?_
    refine lx.o_skip ?_
    refine lx.o_skip ?_
    refine lx.o_skip ?_
    refine lx.o_skip ?_
    refine lx.o_skip ?_
    refine lx.o_pure (.bool true) (fun _ _ h => by first | rfl | kernel_rfl) ?_
    refine lx.o_pure (.bool true) (fun _ _ h => by first | rfl | kernel_rfl) ?_
    refine lx.o_skip ?_
    refine lx.o_skip ?_
    refine lx.o_skip ?_
    refine lx.o_skip ?_
    refine lx.o_skip ?_
    refine lx.o_skip ?_
    refine lx.o_pure (.bool true) (fun _ _ h => by first | rfl | kernel_rfl) ?_
    refine lx.o_end ?_
    simp only [lx.ov]
    rintro X d hd hC
    have HF := run.hid (HB3.out.trans (hC.mono hle))
    clear hC hd K3 K4 HB3 HOV HD5
    go_simp
    go_wp2
    go_ret
    exact ⟨by rw [HU.out, HU1.out, if_neg (c := oneOk _ ∧ _) (by exact fun h => hone h.1)]; simp, by rw [hn3]; exact HF.out⟩

end Go.Proofs.YtdgcfmfjgidbjaaGreat.cel
namespace Go.Proofs.YtdgcfmfjgidbjaaGreat.cel
open Go Go.RowKit Go.Proofs
set_option linter.unusedVariables false

theorem reads5N {w : World} {a : Option Addr} {cap : Nat} {L : List CV} (h : Reads5 w (.slice a L.length cap) L) (h0 : a = none → cap = 0) : run.ReadsN 5 w (.slice a L.length cap) L.length (cells5 L) := by
  refine ⟨cells5_length L, a, cap, rfl, fun hne => ?_, h0⟩
  obtain ⟨a', cap', e, hc⟩ := h
  simp only [Value.slice.injEq] at e
  obtain ⟨rfl, -, rfl⟩ := e
  have hl : 0 < L.length := by
    rcases Nat.eq_zero_or_pos L.length with h | h
    · exfalso; apply hne; apply List.eq_nil_of_length_eq_zero; rw [cells5_length, h]
    · exact h
  obtain ⟨b, off, rfl, hb, -⟩ := hc 0 hl
  refine ⟨b, off, rfl, hb, fun j u hj => ?_⟩
  obtain ⟨k, hk, h1⟩ := cells5_at hj
  obtain ⟨b', off', e, -, c0, c1, c2, c3, c4⟩ := hc k hk
  simp only [Option.some.injEq, Addr.mk.injEq, and_true] at e
  obtain ⟨rfl, rfl⟩ := e
  rcases h1 with ⟨rfl, rfl⟩ | ⟨rfl, rfl⟩ | ⟨rfl, rfl⟩ | ⟨rfl, rfl⟩ | ⟨rfl, rfl⟩
  · exact c0
  · rw [← Nat.add_assoc]; exact c1
  · rw [← Nat.add_assoc]; exact c2
  · rw [← Nat.add_assoc]; exact c3
  · rw [← Nat.add_assoc]; exact c4

/-- how many bytes and items cells have, counted on from n; or that they are more than 2^27 -/
def longT : List CV → Nat → Nat × Bool
  | [], n => (n, false)
  | c :: t, n => if 134217728 < n + 1 + c.text.size then (n + 1 + c.text.size, true) else longT t (n + 1 + c.text.size)
theorem longT_at {L : List CV} {i n : Nat} (h : i < L.length) : longT (L.drop i) n = if 134217728 < n + 1 + (L.getD i z0).text.size then (n + 1 + (L.getD i z0).text.size, true) else longT (L.drop (i + 1)) (n + 1 + (L.getD i z0).text.size) := by
  rw [List.drop_eq_getElem_cons h]
  simp [longT, List.getD_eq_getElem?_getD, h]
theorem longT_fits : ∀ (L : List CV) (n : Nat), (longT L n).2 = false → n ≤ 134217728 → n + L.length ≤ 134217728 ∧ (∀ c ∈ L, c.text.size ≤ 134217728) ∧ (longT L n).1 ≤ 134217728 ∧ n ≤ (longT L n).1
  | [], n, _, hn => ⟨by simpa using hn, by simp, hn, Nat.le_refl _⟩
  | c :: t, n, h, hn => by
    unfold longT at h ⊢
    split at h
    · cases h
    · rename_i h1
      obtain ⟨h2, h3, h4, h5⟩ := longT_fits t _ h (by omega)
      rw [if_neg h1]
      refine ⟨by simp only [List.length_cons]; omega, fun d hd => ?_, h4, by omega⟩
      rcases List.mem_cons.1 hd with rfl | hd
      · omega
      · exact h3 d hd

set_option maxHeartbeats 1000000 in
theorem long_any (a : Option Addr) (cap : Nat) (L : List CV) (n : Nat) (w : World) (hR : Reads5 w (.slice a L.length cap) L) (hN : L.length ≤ 140737488355328) (hL : ∀ c ∈ L, c.text.size ≤ 140737488351232) (hn : n ≤ 134217728) :
    Calls Tryz.prog 9 #[.slice a L.length cap, .int .i64 n] w fun e w' => e = .returned (.tuple #[.int .i64 ((longT L n).1 : Nat), .bool (longT L n).2]) ∧ Below w.heap.size w w' := by
  have HA := run.hid (fun i (hi : i < L.length) => show ∃ b off, a = some ⟨b, off, none⟩ ∧ b < w.heap.size ∧ w.cell? ⟨b, off + i * 5, none⟩ = some (.string (L.getD i z0).text) ∧ (L.getD i z0).text.size ≤ 140737488351232 from by
    obtain ⟨a', c', e, hc⟩ := hR
    simp only [Value.slice.injEq] at e
    obtain ⟨rfl, -, -⟩ := e
    obtain ⟨b, off, rfl, hb, h0, -⟩ := hc i hi
    exact ⟨b, off, rfl, hb, h0, hL _ (by rw [List.getD_eq_getElem?_getD, List.getElem?_eq_getElem hi]; exact List.getElem_mem _)⟩)
  have HS := run.hid (fun i m (hi : i < L.length) => @longT_at L i m hi)
  have HE := run.hid (fun m => show longT (L.drop L.length) m = (m, false) from by rw [List.drop_length]; rfl)
  obtain ⟨r, hr⟩ : ∃ r, r = longT L n := ⟨_, rfl⟩
  rw [← hr]
  have H0 := run.hid (show r = longT (L.drop 0) n from hr)
  clear hR hL hr
  generalize hNN : L.length = N at *
  clear hNN
  go_enter Tryz.func9, Tryz.ntmps9
  go_wp2
  go_loopw [6, 1] (fun vi vn wr => ∃ i m : Nat, i ≤ N ∧ m ≤ 134217728 ∧ vi = .int .i64 i ∧ vn = .int .i64 m ∧ Hid (r = longT (L.drop i) m) ∧ Below w.heap.size w wr) (fun vi _ _ => ((N : Int) - intOf vi).toNat)
  case atStart => exact ⟨0, n, Nat.zero_le _, hn, rfl, rfl, H0, Below.refl _ _⟩
  case round =>
    obtain ⟨i, m, hi, hm, rfl, rfl, HI, hbel⟩ := hrel
    by_cases hlt : i < N
    · obtain ⟨b, off, rfl, hb, h0, hsz⟩ := HA.out i hlt
      replace h0 := (hbel.cell (p := ⟨b, off + i * 5, none⟩) hb).trans h0
      have HSi := run.hid (HI.out.trans (HS.out i m hlt))
      generalize L.getD i z0 = c at *
      obtain ⟨ct, cw, cs⟩ := c
      dsimp only at h0 hsz HSi
      have hsz2 : (ct.size : Int) ≤ 140737488351232 := by omega
      clear HA HS HE H0 HI
      by_cases hbig : 134217728 < m + 1 + ct.size
      · have hbig2 : (134217728 : Int) < (m : Int) + 1 + (ct.size : Int) := by omega
        have HF : Hid (r = (m + 1 + ct.size, true)) := by show r = _; rw [HSi.out, if_pos hbig]
        clear HSi hbig
        go_wp2
        go_ret2
        exact ⟨by rw [HF.out]; go_num, hbel⟩
      · have hbig2 : (m : Int) + 1 + (ct.size : Int) ≤ 134217728 := by omega
        have HF : Hid (r = longT (L.drop (i + 1)) (m + 1 + ct.size)) := by show r = _; rw [HSi.out, if_neg hbig]
        clear HSi
        go_wp2
        go_roundw
        case rel => exact ⟨i + 1, m + 1 + ct.size, by omega, by omega, by go_num, by go_num, HF, hbel⟩
        case measure => simp [intOf]; omega
    · obtain rfl : i = N := by omega
      have HF : Hid (r = (m, false)) := by show r = _; rw [HI.out, HE.out]
      clear HA HS HE H0 HI
      go_wp2
      go_ret2
      exact ⟨by rw [HF.out]; try rfl, hbel⟩

def bh1 : CV := ⟨⟨#[98, 101, 104, 105, 110, 100]⟩, 0, s0⟩
def bh2 : CV := ⟨⟨#[98, 101, 104, 105, 110, 100, 32, 105, 116]⟩, 0, s0⟩
def lentT (L : List CV) : List CV := L ++ [bh1, bh2]

set_option maxRecDepth 100000 in
set_option maxHeartbeats 2000000 in
theorem lent_any (a : Option Addr) (cap : Nat) (L : List CV) (w : World) (hR : Reads5 w (.slice a L.length cap) L) (h0 : a = none → cap = 0) (hN : L.length * 32 ≤ 140737488351232) :
    Calls Tryz.prog 16 #[.slice a L.length cap] w fun e w' => ∃ v, e = .returned v ∧ w'.ownsRow w.heap.size 59 5 v (L.length + 2) (cells5 (lentT L)) ∧ Below w.heap.size w w' := by
  obtain ⟨i, hi, hz0, hz1, hz2⟩ := info_parts info_cell
  have HRN := run.hid (reads5N hR h0)
  have H1 := run.hid (@one_cell5 L)
  have HCL := run.hid (show cells5 (lentT L) = cells5 L ++ [.string ⟨#[98, 101, 104, 105, 110, 100]⟩, .int .i8 0, .int .i32 0, .int .i32 0, .int .u8 0, .string ⟨#[98, 101, 104, 105, 110, 100, 32, 105, 116]⟩, .int .i8 0, .int .i32 0, .int .i32 0, .int .u8 0] from by unfold lentT; rw [cells5_append]; rfl)
  clear hR h0
  generalize cells5 (lentT L) = LT at *
  generalize cells5 L = C at *
  generalize L.length = N at *
  go_enter Tryz.func16, Tryz.ntmps16
  go_wp2_with (at_builtin; refine run.wpList_append_any _ rfl _ _ 35 rfl w.heap.size 59 i (.agg #[.string ⟨#[]⟩, .int .i8 0, .int .i32 0, .int .i32 0, .int .u8 0]) 5 32 Tryz.underlying35 hi hz0 hz1 hz2 rfl (by decide) _ 0 [] rfl ⟨rfl, .inl ⟨rfl, rfl⟩⟩ _ N C rfl HRN.out H1.out (by unfold maxLen; omega) (by omega) (Nat.le_refl _) ?_)
  intro v1 w1 hown1 hg1 hold1 hst1
  have hb1 := run.below_append (Below.refl w.heap.size w) (show w.ownsRow w.heap.size 59 5 (.slice none 0 0) 0 [] from ⟨rfl, .inl ⟨rfl, rfl⟩⟩) hg1 (Nat.le_refl _)
  have hs1 := hb1.size
  have HO := run.hid hown1
  have hbel := hb1.alloc hs1 (.cells #[.string ⟨#[98, 101, 104, 105, 110, 100]⟩, .int .i8 0, .int .i32 0, .int .i32 0, .int .u8 0, .string ⟨#[98, 101, 104, 105, 110, 100, 32, 105, 116]⟩, .int .i8 0, .int .i32 0, .int .i32 0, .int .u8 0] 59)
  clear hown1 hg1 hold1 hst1 HRN H1
  go_wp2_with (at_builtin; refine run.wpList_append_any _ rfl _ _ 35 rfl w.heap.size 59 i (.agg #[.string ⟨#[]⟩, .int .i8 0, .int .i32 0, .int .i32 0, .int .u8 0]) 5 32 Tryz.underlying35 hi hz0 hz1 hz2 rfl (by decide) _ N C rfl (HO.out.alloc _) _ 2 [.string ⟨#[98, 101, 104, 105, 110, 100]⟩, .int .i8 0, .int .i32 0, .int .i32 0, .int .u8 0, .string ⟨#[98, 101, 104, 105, 110, 100, 32, 105, 116]⟩, .int .i8 0, .int .i32 0, .int .i32 0, .int .u8 0] rfl (run.readsN_new w1 [.string ⟨#[98, 101, 104, 105, 110, 100]⟩, .int .i8 0, .int .i32 0, .int .i32 0, .int .u8 0, .string ⟨#[98, 101, 104, 105, 110, 100, 32, 105, 116]⟩, .int .i8 0, .int .i32 0, .int .i32 0, .int .u8 0] 2 5 _ rfl) (by intro u hu; simp only [List.mem_cons, List.not_mem_nil, or_false] at hu; rcases hu with rfl | rfl | rfl | rfl | rfl | rfl | rfl | rfl | rfl | rfl <;> rfl) (by unfold maxLen; omega) (by omega) (by simp; omega) ?_)
  intro v2 w2 hown2 hg2 hold2 hst2
  have hbel2 := run.below_append hbel (HO.out.alloc _) hg2 (by simp; omega)
  rw [← HCL.out] at hown2
  have HF := run.hid hown2
  clear hown2 hg2 hold2 hst2 HO HCL
  go_wp2
  go_ret
  exact ⟨_, rfl, HF.out, hbel2⟩

theorem reads_cell {w : World} {a : Option Addr} {cap : Nat} {L : List CV} (h : Reads5 w (.slice a L.length cap) L) {i : Nat} (hi : i < L.length) : ∃ b off, a = some ⟨b, off, none⟩ ∧ b < w.heap.size ∧ Cell5 w b (off + i * 5) (L.getD i z0) := by
  obtain ⟨a', c', e, hc⟩ := h
  simp only [Value.slice.injEq] at e
  obtain ⟨rfl, -, -⟩ := e
  obtain ⟨b, off, rfl, hb, h0, h1, h2, h3, h4⟩ := hc i hi
  exact ⟨b, off, rfl, hb, h0, h1, h2, h3, h4⟩
theorem list_ne {A B : List CV} (hl : A.length = B.length) {i : Nat} (hi : i < A.length) (h : A.getD i z0 ≠ B.getD i z0) : A ≠ B := fun e => h (by rw [e])
theorem list_eq {A B : List CV} (hl : A.length = B.length) (h : ∀ i, i < A.length → A.getD i z0 = B.getD i z0) : A = B := by
  apply List.ext_getElem hl
  intro i h1 h2
  have := h i h1
  simpa [List.getD_eq_getElem?_getD, h1, h2] using this

set_option maxRecDepth 100000 in
set_option maxHeartbeats 2000000 in
theorem same_any (a1 a2 : Option Addr) (c1 c2 : Nat) (A B : List CV) (w : World) (hA : Reads5 w (.slice a1 A.length c1) A) (hB : Reads5 w (.slice a2 B.length c2) B) (hN : A.length ≤ 140737488355328) :
    Calls Tryz.prog 28 #[.slice a1 A.length c1, .slice a2 B.length c2] w fun e w' => e = .returned (.bool (decide (A = B))) ∧ Below w.heap.size w w' := by
  obtain ⟨it, hinf, -, hsz, -⟩ := info_parts info_cell
  by_cases hl : A.length = B.length
  · have HA := run.hid (fun i (hi : i < A.length) => reads_cell hA hi)
    have HB := run.hid (fun i (hi : i < A.length) => reads_cell hB (i := i) (by omega))
    have HNE := run.hid (fun i (hi : i < A.length) h => @list_ne A B hl i hi h)
    have HEQ := run.hid (fun h => @list_eq A B hl h)
    have hD : ∀ b, (A = B ↔ b = true) → decide (A = B) = b := fun b h => by rw [Bool.eq_iff_iff]; simpa using h
    have HD := run.hid hD
    rw [← hl]
    clear hA hB hl hD
    generalize decide (A = B) = r at *
    generalize A.length = N at *
    go_enter Tryz.func28, Tryz.ntmps28
    go_wp2
    go_loopw [5] (fun vi wr => ∃ i : Nat, i ≤ N ∧ vi = .int .i64 i ∧ Hid (∀ k, k < i → A.getD k z0 = B.getD k z0) ∧ Below w.heap.size w wr) (fun vi _ => ((N : Int) - intOf vi).toNat)
    case atStart => exact ⟨0, Nat.zero_le _, rfl, run.hid (fun k hk => by omega), Below.refl _ _⟩
    case round =>
      obtain ⟨i, hi, rfl, HI, hbel⟩ := hrel
      by_cases hlt : i < N
      · obtain ⟨b1, o1, rfl, hb1, hc1⟩ := HA.out i hlt
        obtain ⟨b2, o2, rfl, hb2, hc2⟩ := HB.out i hlt
        have HC1 := run.hid (fun (X : World) (h : Below w.heap.size w X) => hc1.below h hb1)
        have HC2 := run.hid (fun (X : World) (h : Below w.heap.size w X) => hc2.below h hb2)
        have HN := run.hid (fun h => HNE.out i hlt h)
        have HX := run.hid (fun (h : A.getD i z0 = B.getD i z0) => show ∀ k, k < i + 1 → A.getD k z0 = B.getD k z0 from fun k hk => by
          rcases Nat.lt_or_ge k i with h2 | h2
          · exact HI.out k h2
          · obtain rfl : k = i := by omega
            exact h)
        clear HA HB hc1 hc2 HI HEQ HNE
        generalize A.getD i z0 = x at *
        generalize B.getD i z0 = y at *
        have HBL := run.hid hbel
        clear hbel
        go_upto_region 6 with fail
        refine lx.region (fun D X => Below wr.heap.size wr X) (by kernel_rfl) (by kernel_rfl) (by kernel_rfl) (drewB (Below.refl _ _)) ?_
        refine lx.begin 26 rfl ?_
        refine lx.o_pure (.slice (some ⟨b1, o1, none⟩) N c1) (fun _ _ h => by first | rfl | kernel_rfl) ?_
        refine lx.o_pure (.int .i64 (i : Nat)) (fun _ _ h => by first | rfl | kernel_rfl) ?_
        refine lx.o_pure (.pointer (some ⟨b1, o1 + i * 5, none⟩)) (fun D X hC => lx.run_at rfl rfl rfl hlt Tryz.underlying35 hinf hsz) ?_
        refine lx.o_pure x.val (fun D X hC => run_load5 rfl rfl (HC1.out _ (HBL.out.trans (hC.mono HBL.out.size)))) ?_
        refine lx.o_pure (.slice (some ⟨b2, o2, none⟩) N c2) (fun _ _ h => by first | rfl | kernel_rfl) ?_
        refine lx.o_pure (.int .i64 (i : Nat)) (fun _ _ h => by first | rfl | kernel_rfl) ?_
        refine lx.o_pure (.pointer (some ⟨b2, o2 + i * 5, none⟩)) (fun D X hC => lx.run_at rfl rfl rfl hlt Tryz.underlying35 hinf hsz) ?_
        refine lx.o_pure y.val (fun D X hC => run_load5 rfl rfl (HC2.out _ (HBL.out.trans (hC.mono HBL.out.size)))) ?_
        by_cases hxy : x = y
        · refine lx.o_pure (.bool false) (fun D X hC => run_necell_f rfl rfl rfl hxy) ?_
          refine lx.o_end ?_
          simp only [lx.ov]
          rintro X d hd hC
          have HF := run.hid (HBL.out.trans (hC.mono HBL.out.size))
          have HK := run.hid (HX.out hxy)
          clear hC hd HBL HC1 HC2 HX HN hxy
          go_simp
          go_wp2
          go_roundw
          case rel => exact ⟨i + 1, by omega, by go_num, HK, HF.out⟩
          case measure => simp [intOf]; omega
        · refine lx.o_pure (.bool true) (fun D X hC => run_necell_t rfl rfl rfl hxy) ?_
          refine lx.o_end ?_
          simp only [lx.ov]
          rintro X d hd hC
          have HF := run.hid (HBL.out.trans (hC.mono HBL.out.size))
          have HK := run.hid (HN.out hxy)
          have HR : Hid (r = false) := HD.out false (by simpa using HK.out)
          clear hC hd HBL HC1 HC2 HX HN hxy
          go_simp
          go_wp2
          go_ret
          exact ⟨by rw [HR.out]; try rfl, HF.out⟩
      · obtain rfl : i = N := by omega
        have HR : Hid (r = true) := HD.out true (by simpa using HEQ.out HI.out)
        clear HA HB HNE HEQ HI
        go_wp2
        go_ret
        exact ⟨by rw [HR.out]; try rfl, hbel⟩
  · have HR : decide (A = B) = false := decide_eq_false fun e => hl (by rw [e])
    rw [HR]
    clear HR hA hB
    generalize A.length = n at *
    generalize B.length = m at *
    go_enter Tryz.func28, Tryz.ntmps28
    go_wp2
    go_ret
    exact ⟨rfl, Below.refl _ _⟩

set_option maxRecDepth 100000 in
set_option maxHeartbeats 2000000 in
theorem stays_any (a1 a2 : Option Addr) (c1 c2 : Nat) (A L : List CV) (w : World) (hA : Reads5 w (.slice a1 A.length c1) A) (hL : Reads5 w (.slice a2 L.length c2) L) (h0 : a2 = none → c2 = 0) (hN : L.length * 32 ≤ 140737488351232) (hM : A.length ≤ 140737488355328) :
    Calls Tryz.prog 19 #[.slice a1 A.length c1, .slice a2 L.length c2] w fun e w' => e = .returned (.bool (decide (A = lentT L))) ∧ Below w.heap.size w w' := by
  have HL := run.hid (fun w hL => lent_any a2 c2 L w hL h0 hN)
  have HS := run.hid (fun w (hA : Reads5 w (.slice a1 A.length c1) A) a c hB => same_any a1 a c1 c A (lentT L) w hA hB hM)
  have hll : (lentT L).length = L.length + 2 := by unfold lentT; simp
  have HA := run.hid hA
  have HLL := run.hid (HL.out w hL)
  clear hA hL HL h0
  have HX := run.hid (fun w' v (h : w'.ownsRow w.heap.size 59 5 v (L.length + 2) (cells5 (lentT L))) => show Reads5 w' v (lentT L) from reads5_own (by rw [hll]; exact h))
  have HY := run.hid hll
  clear hll
  generalize decide (A = lentT L) = r at *
  generalize A.length = n at *
  generalize L.length = m at *
  go_enter Tryz.func19, Tryz.ntmps19
  go_wp2_with fail
  refine HLL.out.mono ?_
  rintro e w1 ⟨v, rfl, hown, hb1⟩
  have hrd := HX.out w1 v hown
  obtain ⟨a, c, rfl, -⟩ := id hrd
  have HC := run.hid (HS.out w1 (HA.out.below hb1) a c hrd)
  rw [HY.out] at HC hown
  clear hrd hown HS HLL
  rw [HY.out]
  go_wp2_with fail
  refine HC.out.mono ?_
  rintro e w2 ⟨rfl, hb2⟩
  go_wp2
  go_ret
  exact ⟨rfl, hb1.trans (hb2.mono hb1.size)⟩
end Go.Proofs.YtdgcfmfjgidbjaaGreat.cel
namespace Go.Proofs.YtdgcfmfjgidbjaaGreat.cel
open Go Go.RowKit Go.Proofs
set_option linter.unusedVariables false

/-- a cell that is short enough to be looked at -/
def Fit (c : CV) : Prop := c.text.size ≤ 1099511627776 ∧ -128 ≤ c.wide ∧ c.wide ≤ 127
theorem unit_at (a : Option Addr) (cap : Nat) (L : List CV) (w : World) (i : Nat) (hi : i < L.length) (h : Reads5 w (.slice a L.length cap) L) (hL : ∀ c ∈ L, Fit c) (b off : Nat) (ha : a = some ⟨b, off, none⟩) :
    Calls Tryz.prog 70 #[.slice (some ⟨b, off + i * 5, none⟩) (L.length - i) (cap - i)] w fun e w' => e = .returned (.int .i64 (unitT (L.drop i) : Nat)) ∧ Below w.heap.size w w' := by
  subst ha
  obtain ⟨a', c', e, hc⟩ := h
  simp only [Value.slice.injEq] at e
  obtain ⟨rfl, -, -⟩ := e
  have hat : ∀ k, k < L.length → Cell5 w b (off + k * 5) (L.getD k z0) := fun k hk => by
    obtain ⟨b', off', e, -, h0, h1, h2, h3, h4⟩ := hc k hk
    simp only [Option.some.injEq, Addr.mk.injEq, and_true] at e
    obtain ⟨rfl, rfl⟩ := e
    exact ⟨h0, h1, h2, h3, h4⟩
  have hd : L.drop i = L.getD i z0 :: L.drop (i + 1) := by
    rw [List.drop_eq_getElem_cons hi]
    simp [List.getD_eq_getElem?_getD, hi]
  rw [hd]
  have hf := hL (L.getD i z0) (by rw [List.getD_eq_getElem?_getD, List.getElem?_eq_getElem hi]; exact List.getElem_mem _)
  refine unit_any b (off + i * 5) (L.length - i) (cap - i) _ _ w (by rw [List.length_drop]; omega) (hat i hi) (fun d t' ht => ?_) hf.1 hf.2
  have h1 : i + 1 < L.length := by
    have := congrArg List.length ht
    rw [List.length_drop, List.length_cons] at this
    omega
  have := hat (i + 1) h1
  rw [show off + (i + 1) * 5 = off + i * 5 + 5 by omega] at this
  have e2 : L.getD (i + 1) z0 = d := by
    have h2 := congrArg (fun l : List CV => l[0]?) ht
    simp only [List.getElem?_drop, Nat.add_zero, List.getElem?_cons_zero] at h2
    rw [List.getD_eq_getElem?_getD, h2]; rfl
  rw [e2] at this
  exact this

set_option maxRecDepth 100000 in
set_option maxHeartbeats 2000000 in
theorem units_whole (a : Option Addr) (cap : Nat) (L : List CV) (q0 : Value) (w : World) (Inv : Nat → World → Prop) (hcap : L.length ≤ cap) (hN : L.length ≤ 140737488355328) (hL : ∀ c ∈ L, Fit c)
    (h0 : Inv 0 w) (hR : ∀ i w', Inv i w' → Reads5 w' (.slice a L.length cap) L) (hB : ∀ i w' w'', Inv i w' → Below w'.heap.size w' w'' → Inv i w'')
    (hS : ∀ i w', i < L.length → Inv i w' → Calls Tryz.prog 69 #[.int .i64 i, .int .i64 (unitT (L.drop i) : Nat), q0] w' fun e w'' => e = .returned (.tuple #[]) ∧ Inv (i + max (unitT (L.drop i)) 1) w'') :
    Calls Tryz.prog 47 #[.slice a L.length cap, .func (.func 69) #[] #[q0]] w fun e w' => e = .returned (.tuple #[]) ∧ Inv L.length w' := by
  obtain ⟨it, hinf, -, hsz, -⟩ := info_parts info_cell
  have HU := run.hid (fun i w' (hi : i < L.length) (h : Inv i w') => unit_at a cap L w' i hi (hR i w' h) hL)
  have HS := run.hid hS
  have HB := run.hid hB
  have HLE := run.hid (fun i (hi : i < L.length) => show unitT (L.drop i) ≤ L.length - i ∧ unitT (L.drop i) ≤ 2 from by have := unitT_le (L.drop i); rw [List.length_drop] at this; exact ⟨this.2, this.1⟩)
  have HA := run.hid (fun i w' (hi : i < L.length) (h : Inv i w') => show ∃ b off, a = some ⟨b, off, none⟩ from by obtain ⟨a', c', e, hc⟩ := hR i w' h; simp only [Value.slice.injEq] at e; obtain ⟨rfl, -, -⟩ := e; obtain ⟨b, off, rfl, -⟩ := hc i hi; exact ⟨b, off, rfl⟩)
  have H0 := run.hid h0
  clear hS hB hR h0 hL
  generalize hNN : L.length = N at *
  clear hNN
  go_enter Tryz.func47, Tryz.ntmps47
  go_wp2
  go_loopw [4] (fun vi wr => ∃ i : Nat, i ≤ N ∧ vi = .int .i64 i ∧ Hid (Inv i wr)) (fun vi _ => ((N : Int) - intOf vi).toNat)
  case atStart => exact ⟨0, Nat.zero_le _, rfl, H0⟩
  case round =>
    obtain ⟨i, hi, rfl, HI⟩ := hrel
    by_cases hlt : i < N
    · obtain ⟨b, off, rfl⟩ := HA.out i wr hlt HI.out
      have hcc : i < cap := by omega
      have HUi := run.hid (HU.out i wr hlt HI.out b off rfl)
      obtain ⟨hu1, hu2⟩ := HLE.out i hlt
      have HSi := run.hid (fun w' h => HS.out i w' hlt h)
      generalize unitT (L.drop i) = u at *
      clear HU HS HLE HA H0
      go_wp2_with fail
      refine HUi.out.mono ?_
      rintro e w1 ⟨rfl, hb1⟩
      have HI1 := run.hid (HB.out i wr w1 HI.out hb1)
      clear HUi hb1 HI
      go_wp2_with fail
      refine (HSi.out w1 HI1.out).mono ?_
      rintro e w2 ⟨rfl, hI2⟩
      have HI2 := run.hid hI2
      clear hI2 HSi HI1
      obtain ⟨j, hj⟩ : ∃ j, j = max u 1 := ⟨_, rfl⟩
      have hji : max ((u : Nat) : Int) 1 = ((j : Nat) : Int) := by omega
      have hj1 : 1 ≤ j := by omega
      have hj2 : i + j ≤ N := by omega
      rw [← hj] at HI2
      clear hj
      go_wp2
      go_roundw
      case rel => exact ⟨i + j, by omega, by go_num, HI2⟩
      case measure => simp [intOf]; omega
    · obtain rfl : i = N := by omega
      clear HU HS HLE HA H0
      go_wp2
      first | go_end0 | (refine bodyPost_ret (results_none rfl _ _ _) rfl ?_)
      exact ⟨rfl, HI.out⟩

set_option maxRecDepth 100000 in
set_option maxHeartbeats 2000000 in
theorem units_paste (a : Option Addr) (cap : Nat) (L : List CV) (q0 q1 q2 q3 q4 : Value) (w : World) (Inv : Nat → World → Prop) (hcap : L.length ≤ cap) (hN : L.length ≤ 140737488355328) (hL : ∀ c ∈ L, Fit c)
    (h0 : Inv 0 w) (hR : ∀ i w', Inv i w' → Reads5 w' (.slice a L.length cap) L) (hB : ∀ i w' w'', Inv i w' → Below w'.heap.size w' w'' → Inv i w'')
    (hS : ∀ i w', i < L.length → Inv i w' → Calls Tryz.prog 48 #[.int .i64 i, .int .i64 (unitT (L.drop i) : Nat), q0, q1, q2, q3, q4] w' fun e w'' => e = .returned (.tuple #[]) ∧ Inv (i + max (unitT (L.drop i)) 1) w'') :
    Calls Tryz.prog 47 #[.slice a L.length cap, .func (.func 48) #[] #[q0, q1, q2, q3, q4]] w fun e w' => e = .returned (.tuple #[]) ∧ Inv L.length w' := by
  obtain ⟨it, hinf, -, hsz, -⟩ := info_parts info_cell
  have HU := run.hid (fun i w' (hi : i < L.length) (h : Inv i w') => unit_at a cap L w' i hi (hR i w' h) hL)
  have HS := run.hid hS
  have HB := run.hid hB
  have HLE := run.hid (fun i (hi : i < L.length) => show unitT (L.drop i) ≤ L.length - i ∧ unitT (L.drop i) ≤ 2 from by have := unitT_le (L.drop i); rw [List.length_drop] at this; exact ⟨this.2, this.1⟩)
  have HA := run.hid (fun i w' (hi : i < L.length) (h : Inv i w') => show ∃ b off, a = some ⟨b, off, none⟩ from by obtain ⟨a', c', e, hc⟩ := hR i w' h; simp only [Value.slice.injEq] at e; obtain ⟨rfl, -, -⟩ := e; obtain ⟨b, off, rfl, -⟩ := hc i hi; exact ⟨b, off, rfl⟩)
  have H0 := run.hid h0
  clear hS hB hR h0 hL
  generalize hNN : L.length = N at *
  clear hNN
  go_enter Tryz.func47, Tryz.ntmps47
  go_wp2
  go_loopw [4] (fun vi wr => ∃ i : Nat, i ≤ N ∧ vi = .int .i64 i ∧ Hid (Inv i wr)) (fun vi _ => ((N : Int) - intOf vi).toNat)
  case atStart => exact ⟨0, Nat.zero_le _, rfl, H0⟩
  case round =>
    obtain ⟨i, hi, rfl, HI⟩ := hrel
    by_cases hlt : i < N
    · obtain ⟨b, off, rfl⟩ := HA.out i wr hlt HI.out
      have hcc : i < cap := by omega
      have HUi := run.hid (HU.out i wr hlt HI.out b off rfl)
      obtain ⟨hu1, hu2⟩ := HLE.out i hlt
      have HSi := run.hid (fun w' h => HS.out i w' hlt h)
      generalize unitT (L.drop i) = u at *
      clear HU HS HLE HA H0
      go_wp2_with fail
      refine HUi.out.mono ?_
      rintro e w1 ⟨rfl, hb1⟩
      have HI1 := run.hid (HB.out i wr w1 HI.out hb1)
      clear HUi hb1 HI
      go_wp2_with fail
      refine (HSi.out w1 HI1.out).mono ?_
      rintro e w2 ⟨rfl, hI2⟩
      have HI2 := run.hid hI2
      clear hI2 HSi HI1
      obtain ⟨j, hj⟩ : ∃ j, j = max u 1 := ⟨_, rfl⟩
      have hji : max ((u : Nat) : Int) 1 = ((j : Nat) : Int) := by omega
      have hj1 : 1 ≤ j := by omega
      have hj2 : i + j ≤ N := by omega
      rw [← hj] at HI2
      clear hj
      go_wp2
      go_roundw
      case rel => exact ⟨i + j, by omega, by go_num, HI2⟩
      case measure => simp [intOf]; omega
    · obtain rfl : i = N := by omega
      clear HU HS HLE HA H0
      go_wp2
      first | go_end0 | (refine bodyPost_ret (results_none rfl _ _ _) rfl ?_)
      exact ⟨rfl, HI.out⟩
end Go.Proofs.YtdgcfmfjgidbjaaGreat.cel
namespace Go.Proofs.YtdgcfmfjgidbjaaGreat.cel
open Go Go.RowKit Go.Proofs
set_option linter.unusedVariables false

def wholeF : Nat → List CV → Bool
  | _, [] => true
  | 0, _ :: _ => true
  | f + 1, c :: t => decide (0 < unitT (c :: t)) && wholeF f ((c :: t).drop (max (unitT (c :: t)) 1))
/-- is a row right? -/
def wholeT (L : List CV) : Bool := wholeF L.length L
theorem wholeF_any : ∀ (n m : Nat) (L : List CV), L.length ≤ n → L.length ≤ m → wholeF n L = wholeF m L
  | _, _, [], _, _ => by simp [wholeF]
  | n + 1, m + 1, c :: t, hn, hm => by
    simp only [wholeF]
    congr 1
    have : ((c :: t).drop (max (unitT (c :: t)) 1)).length ≤ t.length := by rw [List.length_drop, List.length_cons]; omega
    refine wholeF_any n m _ ?_ ?_ <;> simp only [List.length_cons] at hn hm <;> omega
  | 0, _, c :: t, hn, _ => by simp at hn
  | _, 0, c :: t, _, hm => by simp at hm
theorem wholeT_step {L : List CV} {i : Nat} (h : i < L.length) : wholeT (L.drop i) = (decide (0 < unitT (L.drop i)) && wholeT (L.drop (i + max (unitT (L.drop i)) 1))) := by
  have hd : L.drop i = L[i] :: L.drop (i + 1) := List.drop_eq_getElem_cons h
  rw [← List.drop_drop]
  generalize hR : L.drop i = R at *
  rw [hd]
  unfold wholeT
  show wholeF (L.drop (i + 1)).length.succ _ = _
  simp only [wholeF]
  congr 1
  refine wholeF_any _ _ _ ?_ (Nat.le_refl _)
  rw [List.length_drop, List.length_cons]
  omega
theorem wholeT_end (L : List CV) : wholeT (L.drop L.length) = true := by rw [List.drop_length]; rfl

set_option maxHeartbeats 1000000 in
theorem wholeStep_any (i n : Nat) (p : Nat) (b : Bool) (w : World) (hp : w.heap[p]? = some (.cells #[.bool b] 4 (0, 0))) :
    Calls Tryz.prog 69 #[.int .i64 i, .int .i64 n, .pointer (some ⟨p, 0, none⟩)] w fun e w' => e = .returned (.tuple #[]) ∧ w' = w.setCell ⟨p, 0, none⟩ (.bool (b && decide (0 < n))) := by
  have c0 := blk_cell hp 0
  change w.cell? _ = some (.bool b) at c0
  have f0 := blk_free hp 0
  clear hp
  cases b with
  | false =>
    go_enter Tryz.func69, Tryz.ntmps69
    go_wp2
    first | go_end0 | (refine bodyPost_ret (results_none rfl _ _ _) rfl ?_)
    exact ⟨rfl, rfl⟩
  | true =>
    by_cases h : 0 < n
    · have hd : decide (0 < n) = true := decide_eq_true h
      rw [hd]
      clear hd
      go_enter Tryz.func69, Tryz.ntmps69
      go_wp2
      first | go_end0 | (refine bodyPost_ret (results_none rfl _ _ _) rfl ?_)
      exact ⟨rfl, rfl⟩
    · have hd : decide (0 < n) = false := decide_eq_false h
      rw [hd]
      clear hd
      go_enter Tryz.func69, Tryz.ntmps69
      go_wp2
      first | go_end0 | (refine bodyPost_ret (results_none rfl _ _ _) rfl ?_)
      exact ⟨rfl, rfl⟩

set_option maxRecDepth 100000 in
set_option maxHeartbeats 2000000 in
theorem whole_any (a : Option Addr) (cap : Nat) (L : List CV) (w : World) (hR : Reads5 w (.slice a L.length cap) L) (hcap : L.length ≤ cap) (hN : L.length ≤ 140737488355328) (hL : ∀ c ∈ L, Fit c) :
    Calls Tryz.prog 46 #[.slice a L.length cap] w fun e w' => e = .returned (.bool (wholeT L)) ∧ Below w.heap.size w w' := by
  have hb0 := run.below_one w (.cells #[.bool true] 4)
  have hU := units_whole a cap L (.pointer (some ⟨w.heap.size, 0, none⟩)) (w.alloc (.cells #[.bool true] 4))
    (fun i X => Below w.heap.size w X ∧ ∃ b, X.heap[w.heap.size]? = some (.cells #[.bool b] 4 (0, 0)) ∧ wholeT L = (b && wholeT (L.drop i))) hcap hN hL
    ⟨hb0, true, heap_alloc_new _ _, by simp⟩ (fun i X h => hR.below h.1)
    (fun i X Y h hb => ⟨h.1.trans (hb.mono h.1.size), by obtain ⟨b, h1, h2⟩ := h.2; exact ⟨b, (hb.block _ (Array.getElem?_eq_some_iff.1 h1).1).trans h1, h2⟩⟩)
    (fun i X hi h => by
      obtain ⟨h1, b, h2, h3⟩ := h
      refine (wholeStep_any i (unitT (L.drop i)) w.heap.size b X h2).mono fun e Y he => ?_
      obtain ⟨he, rfl⟩ := he
      refine ⟨he, h1.setCell (p := ⟨w.heap.size, 0, none⟩) (Nat.le_refl _) _, _, blk_set h2, ?_⟩
      rw [h3, wholeT_step hi, Bool.and_assoc])
  have HU := run.hid hU
  have HE := run.hid (wholeT_end L)
  clear hU hR hL hb0
  generalize L.length = N at *
  generalize wholeT L = r at *
  go_enter Tryz.func46, Tryz.ntmps46
  go_wp2_with fail
  refine HU.out.mono ?_
  rintro e w1 ⟨rfl, hb1, b, h1, h2⟩
  rw [HE.out, Bool.and_true] at h2
  subst h2
  have c0 := blk_cell h1 0
  change w1.cell? _ = some (.bool _) at c0
  clear h1 HU HE
  go_wp2
  go_ret
  exact ⟨rfl, hb1⟩
end Go.Proofs.YtdgcfmfjgidbjaaGreat.cel
namespace Go.Proofs.YtdgcfmfjgidbjaaGreat.cel
open Go Go.RowKit Go.Proofs
set_option linter.unusedVariables false

/-- where a part of a row begins -/
def subA (a : Option Addr) (cap l size : Nat) : Option Addr := if cap = l then a else a.map (·.add (l * size))
section
variable {P : Program} {o : Oper} {ρ : Operand → Value} {w : World} {p q : Operand} {a : Option Addr} {len cap i size : Nat} {t e : TypeId} {it : TypeInfo}
theorem run_from (ho : o.op = .slice t p (some q) none none) (hx : ρ p = .slice a len cap) (hy : ρ q = .int .i64 (i : Nat)) (hi : i ≤ len) (ht : P.underlying t = some (.slice e)) (hs : P.info? e = some it) (hz : it.size = size) :
    (execOp ρ o).run P w = .ok (.value (.slice (subA a cap i size) (len - i) (cap - i))) w := by
  unfold execOp
  simp only [ho, hx]
  simp [Instr.sliceAt, Instr.slice, Instr.sliceBounds, Instr.sliceBound, run_underlying ht, asIntOf, go_sem, hy, sizeOf, typeInfo, hs, hz, subA]
  intro h
  omega
theorem run_upto (ho : o.op = .slice t p none (some q) none) (hx : ρ p = .slice a len cap) (hy : ρ q = .int .i64 (i : Nat)) (hi : i ≤ cap) (ht : P.underlying t = some (.slice e)) (hs : P.info? e = some it) (hz : it.size = size) :
    (execOp ρ o).run P w = .ok (.value (.slice a i cap)) w := by
  unfold execOp
  simp only [ho, hx]
  simp [Instr.sliceAt, Instr.slice, Instr.sliceBounds, Instr.sliceBound, run_underlying ht, asIntOf, go_sem, hy, sizeOf, typeInfo, hs]
  intro h
  omega
end
theorem reads5_sub {w : World} {a : Option Addr} {cap : Nat} {L : List CV} (h : Reads5 w (.slice a L.length cap) L) (hc : L.length ≤ cap) {l n : Nat} (hl : l + n ≤ L.length) : Reads5 w (.slice (subA a cap l 5) n (cap - l)) ((L.drop l).take n) := by
  have hlen : ((L.drop l).take n).length = n := by rw [List.length_take, List.length_drop]; omega
  refine ⟨_, _, by rw [hlen], fun i hi => ?_⟩
  rw [hlen] at hi
  obtain ⟨b, off, rfl, hb, c0, c1, c2, c3, c4⟩ := reads_cell h (i := l + i) (by omega)
  have hget : ((L.drop l).take n).getD i z0 = L.getD (l + i) z0 := by
    simp only [List.getD_eq_getElem?_getD]
    rw [List.getElem?_take_of_lt hi, List.getElem?_drop]
  rw [hget]
  have hsub : subA (some ⟨b, off, none⟩) cap l 5 = some ⟨b, off + l * 5, none⟩ := by
    unfold subA
    rw [if_neg (by omega)]
    simp only [Option.map_some, run.add_none]
  refine ⟨b, off + l * 5, hsub, hb, ?_⟩
  have e : off + (l + i) * 5 = off + l * 5 + i * 5 := by rw [Nat.add_mul]; omega
  rw [e] at c0 c1 c2 c3 c4
  exact ⟨c0, c1, c2, c3, c4⟩
end Go.Proofs.YtdgcfmfjgidbjaaGreat.cel
