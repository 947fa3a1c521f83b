/-
  The law ClusterSplit.
-/
import Derived.Test.YtinedhocmlcfpaaCluHelp
import Derived.Test.YtinedhocmlcfpaaCluAlive
namespace Go.Proofs.Ytinedhocmlcfpaa.clu
open Go.RowKit Go.Proofs
open Go.Proofs.Ytinedhocmlcfpaa.wid Go.Proofs.Ytinedhocmlcfpaa.utf
set_option linter.unusedVariables false

abbrev OwnC (W : World) (B : Nat) (v : Value) (X : List CV) : Prop := W.ownsRow B 36 2 v X.length (cellsI X)
theorem apart_lt {u v : Value} {a b c d : Nat} (hu : ∀ k, u.ownBlock = some k → a ≤ k ∧ k < b) (hv : ∀ k, v.ownBlock = some k → c ≤ k ∧ k < d) (h : b ≤ c ∨ d ≤ a) : u.ownBlock = none ∨ u.ownBlock ≠ v.ownBlock := by
  cases e : u.ownBlock with
  | none => exact .inl rfl
  | some k => right; intro h2; have h3 := hu k e; have h4 := hv k h2.symm; omega

/-- four lists in memory of their own -/
structure St (z0 z1 z2 z3 z4 z5 : Nat) (W : World) (u a b c : Value) (U A B C : List CV) : Prop where
  hu : OwnC W z0 u U
  ha : OwnC W z2 a A
  hb : OwnC W z3 b B
  hc : OwnC W z4 c C
  ul : ∀ k, u.ownBlock = some k → z0 ≤ k ∧ k < z1
  al : ∀ k, a.ownBlock = some k → z2 ≤ k ∧ k < z3
  bl : ∀ k, b.ownBlock = some k → z3 ≤ k ∧ k < z4
  cl : ∀ k, c.ownBlock = some k → z4 ≤ k ∧ k < z5
section
variable {z0 z1 z2 z3 z4 z5 : Nat} {W W' : World} {u a b c : Value} {U A B C : List CV}
theorem St.below (h : St z0 z1 z2 z3 z4 z5 W u a b c U A B C) (hb : Below W.heap.size W W') : St z0 z1 z2 z3 z4 z5 W' u a b c U A B C :=
  ⟨run.own_below h.hu hb, run.own_below h.ha hb, run.own_below h.hb hb, run.own_below h.hc hb, h.ul, h.al, h.bl, h.cl⟩
theorem St.onA {A' : List CV} (h : St z0 z1 z2 z3 z4 z5 W u a b c U A B C) (hg : W.grownBy W' a.ownBlock) (h1 : z1 ≤ z2) (h3 : z3 ≤ z4) (ha : OwnC W' z2 a A') : St z0 z1 z2 z3 z4 z5 W' u a b c U A' B C :=
  ⟨h.hu.kept hg (apart_lt h.ul h.al (.inl h1)), ha, h.hb.kept hg (apart_lt h.bl h.al (.inr (Nat.le_refl _))), h.hc.kept hg (apart_lt h.cl h.al (.inr h3)), h.ul, h.al, h.bl, h.cl⟩
theorem St.onC {C' : List CV} (h : St z0 z1 z2 z3 z4 z5 W u a b c U A B C) (hg : W.grownBy W' c.ownBlock) (h1 : z1 ≤ z4) (h3 : z3 ≤ z4) (hc : OwnC W' z4 c C') : St z0 z1 z2 z3 z4 z5 W' u a b c U A B C' :=
  ⟨h.hu.kept hg (apart_lt h.ul h.cl (.inl h1)), h.ha.kept hg (apart_lt h.al h.cl (.inl h3)), h.hb.kept hg (apart_lt h.bl h.cl (.inl (Nat.le_refl _))), hc, h.ul, h.al, h.bl, h.cl⟩
end

theorem own_reps {W : World} {B n : Nat} {v : Value} {x : Int} (h : W.ownsRow B 36 2 v n (cellsI (repsC n x))) : OwnC W B v (repsC n x) := by
  show W.ownsRow B _ 2 v (repsC n x).length _
  rw [repsC_length]; exact h
theorem own_grown {W : World} {B n : Nat} {v : Value} {x : Int} (h : W.ownsRow B 36 2 v ((repsC n x).length + 70) (cellsI (repsC n x) ++ cellsI (repsC 70 x))) : OwnC W B v (repsC (n + 70) x) := by
  show W.ownsRow B _ 2 v (repsC (n + 70) x).length _
  rw [repsC_length] at h ⊢
  rw [← cellsI_append, repsC_add] at h
  exact h

theorem split_up (fn : FuncId) (hs : ∀ (s : ByteArray) (w : World), s.size ≤ 1099511627776 → Calls Try.prog fn #[.string s] w fun e w' =>
    ∃ v, e = .returned v ∧ w'.ownsRow w.heap.size 36 2 v (told s).length (cells2 (told s)) ∧ Reads2 w' v (told s) ∧ Below w.heap.size w w') (s : ByteArray) (w : World) (h : s.size ≤ 1099511627776) :
    Calls Try.prog fn #[.string s] w fun e w' => ∃ v, e = .returned v ∧ OwnC w' w.heap.size v (upI (told s)) ∧ Below w.heap.size w w' :=
  (hs s w h).mono fun _ _ ⟨v, he, ho, _, hb⟩ => ⟨v, he, by rw [cells_up, ← upI_length] at ho; exact ho, hb⟩

set_option maxRecDepth 100000 in
set_option maxHeartbeats 8000000 in
theorem lawSplit_any (s t : ByteArray) (w : World) (hs : s.size ≤ 1048576) (ht : t.size ≤ 1048576) : Calls Try.prog 3 #[.string s, .string t] w fun e w' => e = .returned (.bool true) ∧ Below w.heap.size w w' := by
  have hl1 := told_length s
  have hl2 := told_length t
  rw [← upI_length] at hl1 hl2
  have HR1 := run.hid (fun w => split_up _ refSplit_use s w (by omega))
  have HR2 := run.hid (fun w => split_up _ refSplit_use t w (by omega))
  have HP1 := run.hid (fun w => split_up _ split_use s w (by omega))
  have HP2 := run.hid (fun w => split_up _ split_use t w (by omega))
  generalize upI (told s) = X at *
  generalize upI (told t) = Y at *
  go_enter Try.func3, Try.ntmps3
  go_wp2_with fail
  refine (HR1.out w).mono ?_
  rintro e w1 ⟨u, rfl, hu, hb1⟩
  go_wp2_with fail
  refine (HR2.out w1).mono ?_
  rintro e w2 ⟨m, rfl, hm, hb2⟩
  go_wp2_with fail
  refine (HP1.out w2).mono ?_
  rintro e w3 ⟨a, rfl, ha, hb3⟩
  go_wp2_with fail
  refine (HP1.out w3).mono ?_
  rintro e w4 ⟨b, rfl, hb, hb4⟩
  go_wp2_with fail
  refine (HP2.out w4).mono ?_
  rintro e w5 ⟨c, rfl, hc, hb5⟩
  have b35 := hb4.trans (hb5.mono hb4.size)
  have b25 := hb3.trans (b35.mono hb3.size)
  have b15 := hb2.trans (b25.mono hb2.size)
  have hB := hb1.trans (b15.mono hb1.size)
  have S := run.hid (St.mk (z1 := w1.heap.size) (z5 := w5.heap.size) (run.own_below hu b15) (run.own_below ha b35) (run.own_below hb hb5) hc hu.lt ha.lt hb.lt hc.lt)
  have M := run.hid (run.own_below hm b25)
  have z1 := hb1.size
  have z2 := hb2.size
  have z3 := hb3.size
  have z4 := hb4.size
  have z5 := hb5.size
  clear hu hm ha hb hc hb1 hb2 hb3 hb4 hb5 b35 b25 b15 HR1 HR2
  have hS1 := run.hid (refSameC_eq _ _ X w5 (readsI_own S.out.ha) (readsI_own S.out.hu) (by omega))
  go_wp2_with fail
  refine hS1.out.mono ?_
  rintro e w6 ⟨rfl, hb6⟩
  replace hB := hB.trans (hb6.mono hB.size)
  have S6 := run.hid (S.out.below hb6)
  have M6 := run.hid (run.own_below M.out hb6)
  have hS2 := run.hid (refSameC_eq _ _ X w6 (readsI_own S6.out.hb) (readsI_own S6.out.hu) (by omega))
  have z6 := hb6.size
  clear hS1 S M hb6
  go_wp2_with fail
  refine hS2.out.mono ?_
  rintro e w7 ⟨rfl, hb7⟩
  replace hB := hB.trans (hb7.mono hB.size)
  have S7 := run.hid (S6.out.below hb7)
  have hS3 := run.hid (refSameC_eq _ _ Y w7 (readsI_own S7.out.hc) (readsI_own (run.own_below M6.out hb7)) (by omega))
  have z7 := hb7.size
  clear hS2 S6 M6 hb7
  go_wp2_with fail
  refine hS3.out.mono ?_
  rintro e w8 ⟨rfl, hb8⟩
  replace hB := hB.trans (hb8.mono hB.size)
  have S8 := run.hid (S7.out.below hb8)
  have hK1 := run.hid (spoil_any _ _ X (-1) w8 S8.out.ha (by omega))
  have z8 := hb8.size
  clear hS3 S7 hb8
  go_wp2_with fail
  refine hK1.out.mono ?_
  rintro e w9 ⟨rfl, ho9, hg9⟩
  have S9 := run.hid (S8.out.onA hg9 (by omega) (by omega) (own_reps ho9))
  have hB9 := hB.grown hg9 hB.size (fun k hk => by have := S8.out.al k hk; omega)
  have z9 := hg9.size
  have hK2 := run.hid (spoil_any _ _ Y (-2) w9 S9.out.hc (by omega))
  clear hK1 ho9 hg9 S8 hB
  go_wp2_with fail
  refine hK2.out.mono ?_
  rintro e w10 ⟨rfl, ho10, hg10⟩
  have S10 := run.hid (S9.out.onC hg10 (by omega) (by omega) (own_reps ho10))
  have hB10 := hB9.grown hg10 hB9.size (fun k hk => by have := S9.out.cl k hk; omega)
  have z10 := hg10.size
  have hG1 := run.hid (grown_any _ _ _ (-1) w10 S10.out.ha (by rw [repsC_length]; omega) (by omega))
  clear hK2 ho10 hg10 S9 hB9
  go_wp2_with fail
  refine hG1.out.mono ?_
  rintro e w11 ⟨x, rfl, hg11⟩
  have S11 := run.hid (S10.out.onA hg11.grown (by omega) (by omega) hg11.old)
  have X11 := run.hid (own_grown hg11.new)
  have hB11 := hB10.grown hg11.grown hB10.size (fun k hk => by have := S10.out.al k hk; omega)
  have z11 := hg11.grown.size
  have hxl : Hid (∀ k, x.ownBlock = some k → k < w5.heap.size → k < w3.heap.size) := run.hid (fun k hk hlt => by
    rcases hg11.step with ⟨g, cp, h1, h2⟩ | h2
    · rw [h2] at hk
      simp [Value.ownBlock] at hk
      subst hk
      have := S10.out.al g (by rw [h1]; rfl)
      omega
    · have := h2 k hk; omega)
  have hG2 := run.hid (grown_any _ _ _ (-2) w11 S11.out.hc (by rw [repsC_length]; omega) (by omega))
  have hxc : Hid (x.ownBlock = none ∨ x.ownBlock ≠ c.ownBlock) := run.hid (by
    cases e : x.ownBlock with
    | none => exact .inl rfl
    | some k =>
      right
      intro h2
      have h3 := S11.out.cl k h2.symm
      have h4 := hxl.out k e (by omega)
      omega)
  clear hG1 hg11 S10 hB10
  go_wp2_with fail
  refine hG2.out.mono ?_
  rintro e w12 ⟨y, rfl, hg12⟩
  have S12 := run.hid (S11.out.onC hg12.grown (by omega) (by omega) hg12.old)
  have X12 := run.hid (X11.out.kept hg12.grown hxc.out)
  have Y12 := run.hid (own_grown hg12.new)
  have hB12 := hB11.grown hg12.grown hB11.size (fun k hk => by have := S11.out.cl k hk; omega)
  have z12 := hg12.grown.size
  have hF1 := run.hid (full_any _ X.length (-1) w12 (readsI_own S12.out.ha) (by omega))
  clear hG2 hg12 S11 X11 hB11 hxl hxc
  go_wp2_with fail
  refine hF1.out.mono ?_
  rintro e w13 ⟨rfl, hb13⟩
  have hB13 := hB12.trans (hb13.mono hB12.size)
  have hF2 := run.hid (full_any _ Y.length (-2) w13 ((readsI_own S12.out.hc).below hb13) (by omega))
  clear hF1 hB12
  go_wp2_with fail
  refine hF2.out.mono ?_
  rintro e w14 ⟨rfl, hb14⟩
  have hB14 := hB13.trans (hb14.mono hB13.size)
  have b1214 := hb13.trans (hb14.mono hb13.size)
  have hF3 := run.hid (full_any _ (X.length + 70) (-1) w14 ((readsI_own X12.out).below b1214) (by omega))
  clear hF2 hB13 hb13 hb14
  go_wp2_with fail
  refine hF3.out.mono ?_
  rintro e w15 ⟨rfl, hb15⟩
  have hB15 := hB14.trans (hb15.mono hB14.size)
  have b1215 := b1214.trans (hb15.mono b1214.size)
  have hF4 := run.hid (full_any _ (Y.length + 70) (-2) w15 ((readsI_own Y12.out).below b1215) (by omega))
  clear hF3 hB14 b1214 hb15
  go_wp2_with fail
  refine hF4.out.mono ?_
  rintro e w16 ⟨rfl, hb16⟩
  have hB16 := hB15.trans (hb16.mono hB15.size)
  have b1216 := b1215.trans (hb16.mono b1215.size)
  have hS4 := run.hid (refSameC_eq _ _ X w16 ((readsI_own S12.out.hb).below b1216) ((readsI_own S12.out.hu).below b1216) (by omega))
  clear hF4 hB15 b1215 hb16
  go_wp2_with fail
  refine hS4.out.mono ?_
  rintro e w17 ⟨rfl, hb17⟩
  have hB17 := hB16.trans (hb17.mono hB16.size)
  have b1217 := b1216.trans (hb17.mono b1216.size)
  clear hS4 hB16 b1216 hb17
  go_wp2_with fail
  refine (HP1.out w17).mono ?_
  rintro e w18 ⟨d, rfl, hd, hb18⟩
  have hB18 := hB17.trans (hb18.mono hB17.size)
  have b1218 := b1217.trans (hb18.mono b1217.size)
  have hS5 := run.hid (refSameC_eq _ _ X w18 (readsI_own hd) ((readsI_own S12.out.hu).below b1218) (by omega))
  clear hB17 b1217 hb18 hd
  go_wp2_with fail
  refine hS5.out.mono ?_
  rintro e w19 ⟨rfl, hb19⟩
  have hB19 := hB18.trans (hb19.mono hB18.size)
  go_wp2_with fail
  refine (alive_any w19).mono ?_
  rintro e w20 ⟨rfl, hb20⟩
  have hB20 := hB19.trans (hb20.mono hB19.size)
  go_wp2
  go_ret
  exact ⟨rfl, hB20⟩

end Go.Proofs.Ytinedhocmlcfpaa.clu
