/-
  One step of a script on two decoders: the walk.
-/
import Derived.Test.YtgjlhjnkcgdopaaUtfDuo
import Derived.Test.YtgjlhjnkcgdopaaUtfHelp
import Derived.Deep.RegionHeld3
import Derived.Deep.Cut
import Derived.Deep.DeepCutAuto
namespace Go.Proofs.Ytgjlhjnkcgdopaa.utf
open Go.RowKit Go.Proofs
set_option linter.unusedVariables false

def gone (n k : Nat) (l : List Nat) : List Nat := List.replicate k 0xee ++ l.drop k
theorem gone_zero (n : Nat) (l : List Nat) : gone n 0 l = l := by simp [gone]
theorem gone_next {n k : Nat} {l : List Nat} (hk : k < l.length) : (bv (gone n k l)).set k (.int .u8 0xee) = bv (gone n (k + 1) l) := by
  have hd : l.drop k = l[k] :: l.drop (k + 1) := List.drop_eq_getElem_cons hk
  unfold gone bv
  rw [hd, List.map_append, List.set_append_right _ _ (by simp)]
  simp only [List.length_map, List.length_replicate, Nat.sub_self, List.map_cons, List.set_cons_zero]
  rw [List.replicate_succ', List.append_assoc, List.map_append]
  rfl
theorem gone_get {n k i : Nat} {l : List Nat} (hk : k ≤ i) (hi : i < l.length) : (bv (gone n k l))[i]? = some (.int .u8 (l.getD i 0 : Nat)) := by
  unfold gone bv
  rw [List.map_append, List.getElem?_append_right (by simp; omega)]
  simp only [List.length_map, List.length_replicate, List.getElem?_map, List.getElem?_drop]
  rw [show k + (i - k) = i by omega, List.getElem?_eq_getElem hi]
  simp [List.getD_eq_getElem?_getD, hi]
theorem gone_len {n k : Nat} {l : List Nat} (hk : k ≤ l.length) : (gone n k l).length = l.length := by
  unfold gone; simp; omega

theorem full_shape {B n : Nat} {w : World} {v : Value} {xs : List Value} (h : w.ownsRow B 5 1 v (n + 2) xs) : ∃ g cap, v = .slice (some ⟨g, 0, none⟩) (n + 2) cap ∧ n + 2 ≤ cap ∧ cap ≤ 9223372036854775807 ∧ B ≤ g := by
  obtain ⟨_, h⟩ := h
  rcases h with ⟨_, h0⟩ | ⟨g, cap, cur, rfl, hb, _, h1, h2, _⟩
  · omega
  · exact ⟨g, cap, rfl, h1, h2, hb⟩
/-- the first of a row read alone -/
theorem full_reads {B n c g : Nat} {w : World} {l x : List Nat} (h : w.ownsRow B 5 1 (.slice (some ⟨g, 0, none⟩) n c) n (bv (l ++ x))) : run.Reads w (.slice (some ⟨g, 0, none⟩) l.length c) (bv l) := by
  refine ⟨some ⟨g, 0, none⟩, c, by rw [bv_length], fun _ => ⟨g, 0, rfl, (h.lt g rfl).2, fun i u hi => ?_⟩, fun e => by cases e⟩
  have hil : i < (bv l).length := by
    rcases Nat.lt_or_ge i (bv l).length with h1 | h1
    · exact h1
    · rw [List.getElem?_eq_none h1] at hi; cases hi
  have hl := h.1
  rw [← bv_append, List.length_append] at hl
  rw [Nat.zero_add, h.cellAt i (by omega), ← bv_append, List.getElem?_append_left hil]
  exact hi
theorem reads_cell {w : World} {a : Option Addr} {n c i : Nat} {l : List Nat} (h : run.Reads w (.slice a n c) (bv l)) (hi : i < l.length) : ∃ b off, a = some ⟨b, off, none⟩ ∧ b < w.heap.size ∧ w.cell? ⟨b, off + i, none⟩ = some (.int .u8 (l.getD i 0 : Nat)) := by
  obtain ⟨a', c', e, h1, -⟩ := h
  simp only [Value.slice.injEq] at e
  obtain ⟨rfl, -, -⟩ := e
  obtain ⟨b, off, ha, hlt, hc⟩ := h1 (by intro e; have := congrArg List.length e; rw [bv_length] at this; simp at this; rw [this] at hi; simp at hi)
  refine ⟨b, off, ha, hlt, hc i _ ?_⟩
  simp [bv, List.getD_eq_getElem?_getD, hi]

/-- the blocks that a step may write -/
def duoS (A P R : Nat) (t m : Value) (k : Nat) : Prop := k = A ∨ k = P ∨ k = R ∨ t.ownBlock = some k ∨ m.ownBlock = some k
theorem duoS_has {A P R : Nat} {t m : Value} {L M : List Tld} {k : Nat} (h : duoS A P R t m k) : duoHas A P R t m L M k := by
  unfold duoS at h
  rcases h with h1 | h1 | h1 | h1 | h1
  · exact .inl h1
  · exact .inr (.inl h1)
  · exact .inr (.inr (.inl h1))
  · exact .inr (.inr (.inr (.inl h1)))
  · exact .inr (.inr (.inr (.inr (.inl h1))))
/-- what a step leaves behind -/
structure Stepped (A P R : Nat) (t m : Value) (L M : List Tld) (B : Nat) (w : World) (e : Ending) (w' : World) (hp hr : List Nat) : Prop where
  ret : e = .returned (.bool true)
  ex : ∃ t' m' L' M', Duo A P R t' m' hp hr L' M' B w' ∧ Chg (duoS A P R t m) w w' ∧ (∀ k, t'.ownBlock = some k → t.ownBlock = some k ∨ w.heap.size ≤ k) ∧ (∀ k, m'.ownBlock = some k → m.ownBlock = some k ∨ w.heap.size ≤ k) ∧
    (∀ q ∈ L', q ∈ L ∨ ∀ k, q.1.ownBlock = some k → w.heap.size ≤ k) ∧ (∀ q ∈ M', q ∈ M ∨ ∀ k, q.1.ownBlock = some k → w.heap.size ≤ k) ∧ L'.map (·.2) = M'.map (·.2) ∧ L'.length ≤ L.length + 1 ∧ (∀ q ∈ L', q ∈ L ∨ q.2.length ≤ 268435456)

theorem info_slices : (Try.prog.info? 22).map (fun i => (i.zero, i.size, i.bytes)) = some (some (.slice none 0 0), 1, 24) := by kernel_rfl

theorem two_cells {X X' : World} {A n P : Nat} {a b : Value} (h : X.cell? ⟨A, 0, none⟩ = some a ∧ X.cell? ⟨n, 1, none⟩ = some b) (hg : X.grownBy X' (some P)) (h1 : A ≠ P) (h2 : n ≠ P) : X'.cell? ⟨A, 0, none⟩ = some a ∧ X'.cell? ⟨n, 1, none⟩ = some b :=
  ⟨hg.cell h.1 (by simp only [ne_eq, Option.some.injEq]; exact h1), hg.cell h.2 (by simp only [ne_eq, Option.some.injEq]; exact h2)⟩
theorem two_cells1 {X X' : World} {A n P : Nat} {a b : Value} (h : X.cell? ⟨A, 1, none⟩ = some a ∧ X.cell? ⟨n, 1, none⟩ = some b) (hg : X.grownBy X' (some P)) (h1 : A ≠ P) (h2 : n ≠ P) : X'.cell? ⟨A, 1, none⟩ = some a ∧ X'.cell? ⟨n, 1, none⟩ = some b :=
  ⟨hg.cell h.1 (by simp only [ne_eq, Option.some.injEq]; exact h1), hg.cell h.2 (by simp only [ne_eq, Option.some.injEq]; exact h2)⟩

/-- how many lists stand told, and that they are alike -/
def Alike2 (L M : List Tld) : Prop := L.map (·.2) = M.map (·.2)
theorem Alike2.len {L M : List Tld} (h : Alike2 L M) : M.length = L.length := by
  have := congrArg List.length h
  simpa using this.symm
theorem Alike2.snoc {L M : List Tld} {a b : Value} {xs : List Int} (h : Alike2 L M) : Alike2 (L ++ [(a, xs)]) (M ++ [(b, xs)]) := by
  unfold Alike2 at *
  simp [h]

set_option maxRecDepth 100000 in
set_option maxHeartbeats 4000000 in
theorem step_feed {A P R : Nat} {t m : Value} {hp : List Nat} {L M : List Tld} {B : Nat} {w0 w : World} (pa : Option Addr) (pc : Nat) (l : List Nat) (h : Duo A P R t m hp hp L M B w) (hb0 : Below w0.heap.size w0 w) (hw0 : w0.heap.size ≤ B)
    (hr : run.Reads w0 (.slice pa l.length pc) (bv l)) (hby : ∀ c ∈ l, c < 256) (hl : l.length ≤ 134217728) (hL : L.length ≤ 134217728) (hA : Alike2 L M) :
    Calls Try.prog 22 #[.pointer (some ⟨A, 0, none⟩), .agg #[.int .i64 1, .slice pa l.length pc]] w fun e w' => ∃ hp', Stepped A P R t m L M B w e w' hp' hp' := by
  obtain ⟨i0, hi, hz0, hz1, hz2⟩ := info_parts info_byte
  obtain ⟨ir, hir, hrz0, hrz1, hrz2⟩ := info_parts info_slices
  have hMl : M.length ≤ 134217728 := by rw [hA.len]; exact hL
  have HA := run.hid hA
  clear hA
  have HLT := run.hid (fun k hk => h.lt (k := k) hk)
  have hb1 := run.below_one w (.cells #[.int .i64 1, .slice pa l.length pc] 49)
  have hn1 := run.heap_new w (.cells #[.int .i64 1, .slice pa l.length pc] 49)
  have HD1 := run.hid (h.below hb1)
  have HR1 := run.hid ((hr.below hb0).below hb1)
  have HB1 := run.hid hb1
  have HB0 := run.hid hb0
  have HR0 := run.hid hr
  have HSlo : Hid (∀ k, duoS A P R t m k → w0.heap.size ≤ k) := fun k hk => Nat.le_trans hw0 (h.lt (k := k) (by
    unfold duoS at hk
    rcases hk with h1 | h1 | h1 | h1 | h1
    · exact .inl h1
    · exact .inr (.inl h1)
    · exact .inr (.inr (.inl h1))
    · exact .inr (.inr (.inr (.inl h1)))
    · exact .inr (.inr (.inr (.inr (.inl h1)))))).2
  clear hb1 h hr hb0
  go_enter Try.func22, Try.ntmps22
  go_upto_region 1 with fail
  generalize w.alloc (.cells #[.int .i64 1, .slice pa l.length pc] 49) = w1 at *
  have HWlt := HLT
  generalize hn : w.heap.size = n at *
  have HN := run.hid hn
  clear hn
  have k0 : w1.cell? ⟨n, 0, none⟩ = some (.int .i64 1) := by simp [World.cell?, hn1]
  have k1 : w1.cell? ⟨n, 1, none⟩ = some (.slice pa l.length pc) := by simp [World.cell?, hn1]
  have hnlt := lt_of_block hn1
  have hz1' := HB1.out.size
  have HD1b := HD1
  have HRN := run.hid (HR1.out.n)
  rw [bv_length] at HRN
  have hnil := run.hid (World.ownsRow_nil w1 w1.heap.size 5 1)
  go_wp2_with (at_builtin; refine run.wpList_append_any _ rfl _ (.tmp 17) 47 rfl w1.heap.size 5 i0 (.int .u8 0) 1 1 Try.underlying47 hi hz0 hz1 hz2 rfl (by decide) _ 0 [] rfl hnil.out _ l.length (bv l) rfl HRN.out (bv_one _) (by unfold maxLen; omega) (by omega) (Nat.le_refl _) ?_)
  intro v2 w2 hown2 hgrow2 _ hstep2
  try simp only [List.nil_append, Nat.zero_add] at hown2
  have hb2 : Below w1.heap.size w1 w2 := run.below_append (Below.refl _ _) hnil.out hgrow2 (Nat.le_refl _)
  have hz2' := hb2.size
  clear hgrow2 hstep2 hnil HRN
  have k2 := (hb2.cell (p := ⟨n, 1, none⟩) hnlt).trans k1
  obtain ⟨a2, c2, rfl⟩ := run.own_value hown2
  go_wp2_with (at_builtin; refine run.wpList_append_any _ rfl _ (.tmp 20) 47 rfl w1.heap.size 5 i0 (.int .u8 0) 1 1 Try.underlying47 hi hz0 hz1 hz2 rfl (by decide) _ l.length (bv l) rfl (hown2.alloc _) _ 2 [.int .u8 165, .int .u8 166] rfl (run.readsN_new w2 [.int .u8 165, .int .u8 166] 2 1 _ rfl) (by intro u hu; simp at hu; rcases hu with rfl | rfl <;> rfl) (by unfold maxLen; omega) (by omega) (by simp; omega) ?_)
  intro v3 w3 hown3 hgrow3 _ hstep3
  have hb3 : Below w1.heap.size w1 w3 := run.below_append (hb2.alloc hz2' _) (hown2.alloc _) hgrow3 (by simp; omega)
  have hz3 := hb3.size
  have hown3' : w3.ownsRow w1.heap.size 5 1 v3 (l ++ [165, 166]).length (bv (l ++ [165, 166])) := by
    rw [← bv_append, List.length_append]
    exact hown3
  clear hown2 hgrow3 hstep3 hown3 k2
  obtain ⟨gF, cF, rfl, hcF, hcF2, hgF⟩ := full_shape (n := l.length) (by simpa using hown3')
  have hlen2 : (l ++ [165, 166]).length = l.length + 2 := by simp
  rw [hlen2] at hown3'
  have OF3 := run.hid hown3'
  have hgF3 := (OF3.out.lt gF rfl).2
  have HD3 := run.hid (HD1.out.below hb3)
  have HRF3 := run.hid (full_reads OF3.out)
  have hbw3 := HB1.out.trans (hb3.mono (by have := HB1.out.size; have := HN.out; omega))
  rw [← HN.out] at hbw3
  have C3 : Hid (Chg (duoS A P R t m) w w3) := chg_below hbw3
  have k3 := (hb3.cell (p := ⟨n, 1, none⟩) hnlt).trans k1
  have hA3 := (box_cells4 HD3.out.box).1
  have hn1' := HN.out
  have hAn : A < n := (HLT.out A (.inl rfl)).1
  have hPn : P < n := (HLT.out P (.inr (.inl rfl))).1
  have hRn : R < n := (HLT.out R (.inr (.inr (.inl rfl)))).1
  have hAP : A ≠ P := by obtain ⟨c, hc⟩ := dec_type HD3.out.dec; exact ne_type HD3.out.box hc (by decide)
  have hAR : A ≠ R := by obtain ⟨c, hc⟩ := ref_type HD3.out.ref; exact ne_type HD3.out.box hc (by decide)
  have HFD := run.hid (fun (X : World) (hX : Below w3.heap.size w3 X) => show Calls Try.prog 26 #[.pointer (some ⟨P, 0, none⟩), .slice (some ⟨gF, 0, none⟩) l.length cF] X (fun e w' => ∃ v, e = .returned v ∧ w'.ownsRow w3.heap.size 21 1 v (feed (hp ++ l)).1.length (rv (feed (hp ++ l)).1) ∧ Duo A P R t m (feed (hp ++ l)).2 hp L M B w' ∧ X.grownBy w' (some P) ∧ w3.grownBy w' (some P)) from
    (feed_any P hp _ l X (HD3.out.below hX).dec (HRF3.out.below hX) (by omega) hby).mono fun e w' ⟨v, he, h1, h2, h3⟩ => ⟨v, he, run.own_mono h1 hX.size, (HD3.out.below hX).fed h3 h2, h3, run.grown_trans ⟨hX.os, hX.tape, hX.output, hX.size, fun k hk _ => hX.block k hk⟩ h3 (.inl rfl)⟩)
  have hfl := (feed_bytes _ (hp ++ l) (Nat.le_refl _)).2.1
  have hpl : hp.length ≤ 3 := by obtain ⟨_, _, _, _, h3, _⟩ := HD3.out.dec; exact h3
  rw [List.length_append] at hfl
  generalize hf : feed (hp ++ l) = f at *
  have HF := run.hid hf
  clear hf hown3'
  obtain ⟨xs, H⟩ := f
  dsimp only at HFD hfl
  have hRR := run.hid (fun (X : World) (hX : Below w0.heap.size w0 X) => HR0.out.below hX)
  generalize hNl : l.length = N at *
  have HNL := run.hid hNl
  clear hNl
  have hN0 : (0 : Int) ≤ (N : Int) := by omega
  have hNc : (N : Int) ≤ (cF : Int) := by omega
  go_upto_region 6 with fail
  go_region_held3 (fun X => X.cell? ⟨A, 0, none⟩ = some (.pointer (some ⟨P, 0, none⟩)) ∧ X.cell? ⟨n, 1, none⟩ = some (.slice pa N pc))
    (first
      | exact ⟨by assumption, by assumption⟩
      | exact two_cells (by assumption) hgX hAP (by omega)
      | exact two_cells ⟨hA3, k3⟩ hgX hAP (by omega)
      | go_keep)
    (first
      | (go_at_call 26; refine (HFD.out _ (by first | exact Below.refl _ _ | exact (Below.refl _ _).drew)).mono ?_; rintro e w4 ⟨va, rfl, howna, hd4, hgX, hg4⟩))
  have hs34 := hg4.size
  obtain ⟨aa, ca, rfl⟩ := run.own_value howna
  have HD4 := run.hid hd4
  have hA4lo := run.hid (fun k hk => (howna.lt k hk).1)
  have hA4lt : ∀ k, (Value.slice aa xs.length ca).ownBlock = some k → k < w4.heap.size := fun k hk => (howna.lt k hk).2
  have OA4 := run.hid howna
  have hFP : (Value.slice (some ⟨gF, 0, none⟩) (N + 2) cF).ownBlock ≠ some P := by simp [Value.ownBlock]; omega
  have OF4 := run.hid (OF3.out.kept hg4 (.inr hFP))
  have C4 := run.hid (C3.out.trans (chg_grown (S := duoS A P R t m) hg4 (fun k hk _ => by simp only [Option.some.injEq] at hk; exact .inr (.inl hk.symm))) (fun k _ h => h))
  have HB4 := run.hid (C4.out.to_below HB0.out HSlo.out HB0.out.size)
  have k4 := hg4.cell k3 (by simp only [ne_eq, Option.some.injEq]; omega)
  have hA4 := (box_cells4 HD4.out.box).2.1
  have HRF := run.hid (fun (X : World) (hX : Below w4.heap.size w4 X) => show Calls Try.prog 33 #[.pointer (some ⟨R, 0, none⟩), .slice pa N pc] X (fun e w' => ∃ v, e = .returned v ∧ w'.ownsRow w4.heap.size 21 1 v xs.length (rv xs) ∧ Duo A P R t m H H L M B w' ∧ X.grownBy w' (some R) ∧ w4.grownBy w' (some R)) from
    (refFeed_any R hp _ l X (HD4.out.below hX).ref (hRR.out X (HB4.out.trans (hX.mono HB4.out.size))) (by have := HNL.out; omega) hby).mono fun e w' ⟨v, he, h1, h2, h3⟩ => by
      rw [HF.out] at h1 h2
      exact ⟨v, he, run.own_mono h1 hX.size, (HD4.out.below hX).rfed h3 h2, h3, run.grown_trans ⟨hX.os, hX.tape, hX.output, hX.size, fun k hk _ => hX.block k hk⟩ h3 (.inl rfl)⟩)
  clear hgX hg4 hd4 howna hFP OF3 C3 HFD HRF3 hA3 k3 HD3
  go_upto_region 7 with fail
  go_region_held3 (fun X => X.cell? ⟨A, 1, none⟩ = some (.pointer (some ⟨R, 0, none⟩)) ∧ X.cell? ⟨n, 1, none⟩ = some (.slice pa N pc))
    (first
      | exact ⟨by assumption, by assumption⟩
      | exact two_cells1 (by assumption) hgX hAR (by omega)
      | exact two_cells1 ⟨hA4, k4⟩ hgX hAR (by omega)
      | go_keep)
    (first
      | (go_at_call 33; refine (HRF.out _ (by first | exact Below.refl _ _ | exact (Below.refl _ _).drew)).mono ?_; rintro e w5 ⟨vb, rfl, hownb, hd5, hgX, hg5⟩))
  have hs45 := hg5.size
  obtain ⟨ab, cb, rfl⟩ := run.own_value hownb
  have HD5 := run.hid hd5
  have hB5lo := run.hid (fun k hk => (hownb.lt k hk).1)
  have OB5 := run.hid hownb
  have hFR : (Value.slice (some ⟨gF, 0, none⟩) (N + 2) cF).ownBlock ≠ some R := by simp [Value.ownBlock]; omega
  have OF5 := run.hid (OF4.out.kept hg5 (.inr hFR))
  have hvaR : (Value.slice aa xs.length ca).ownBlock = none ∨ (Value.slice aa xs.length ca).ownBlock ≠ some R := by
    cases e : (Value.slice aa xs.length ca).ownBlock with
    | none => exact .inl rfl
    | some k => have := (OA4.out.lt k e).1; exact .inr (by simp only [ne_eq, Option.some.injEq]; omega)
  have OA5 := run.hid (OA4.out.kept hg5 hvaR)
  have C5 := run.hid (C4.out.trans (chg_grown (S := duoS A P R t m) hg5 (fun k hk _ => by simp only [Option.some.injEq] at hk; exact .inr (.inr (.inl hk.symm)))) (fun k _ h => h))
  have HB5 := run.hid (C5.out.to_below HB0.out HSlo.out HB0.out.size)
  have k5 := hg5.cell k4 (by simp only [ne_eq, Option.some.injEq]; omega)
  clear hgX hg5 hd5 hownb hFR OF4 C4 HRF hA4 k4 HD4 hvaR OA4
  have hgl2 : Hid (l ++ [165, 166] = gone N 0 (l ++ [165, 166])) := (gone_zero N _).symm
  have hX5 : w5.ownsRow w1.heap.size 5 1 (.slice (some ⟨gF, 0, none⟩) (N + 2) cF) (N + 2) (bv (gone N 0 (l ++ [165, 166]))) := by rw [← hgl2.out]; exact OF5.out
  have hlen2' : Hid ((l ++ [165, 166]).length = N + 2) := by show _ = _; simp [HNL.out]
  have HGET := run.hid (fun i (hi : i < N) => show (l ++ [165, 166]).getD i 0 = l.getD i 0 from by simp only [List.getD_eq_getElem?_getD]; rw [List.getElem?_append_left (by have := HNL.out; omega)])
  have HX5 := run.hid hX5
  have hw15 : w1.heap.size ≤ w5.heap.size := by omega
  clear OF5 hX5 hgl2
  go_wp2
  go_loopw [8] (fun vi wr => ∃ i : Nat, i ≤ N ∧ vi = .int .i64 i ∧ Hid (wr.ownsRow w1.heap.size 5 1 (.slice (some ⟨gF, 0, none⟩) (N + 2) cF) (N + 2) (bv (gone N i (l ++ [165, 166])))) ∧ w5.grownBy wr (some gF)) (fun vi _ => (N - intOf vi).toNat)
  case atStart => exact ⟨0, by omega, rfl, HX5, World.grownBy.refl _ _⟩
  case round =>
    clear HX5
    obtain ⟨i, hiN, rfl, HX, hgr⟩ := hrel
    have kr := hgr.cell k5 (by simp only [ne_eq, Option.some.injEq]; omega)
    have hzr := hgr.size
    have HBr := run.hid (HB5.out.grown hgr HB5.out.size (fun k hk => by simp only [Option.some.injEq] at hk; have := HB0.out.size; have := HB1.out.size; have := HN.out; omega))
    by_cases hil : i < N
    · have hrd := hRR.out wr HBr.out
      obtain ⟨b, off, rfl, hblt, hcb⟩ := reads_cell hrd (i := i) (by rw [HNL.out]; exact hil)
      have hcf := HX.out.cellAt i (by omega)
      rw [gone_get (Nat.le_refl _) (by rw [hlen2'.out]; omega), HGET.out i hil] at hcf
      have hff := HX.out.frozenAt i
      have hst := (HX.out.stored i (.int .u8 238)).1
      rw [gone_next (by rw [hlen2'.out]; omega)] at hst
      have HST := run.hid hst
      have hgr2 : w5.grownBy (wr.setCell ⟨gF, i, none⟩ (.int .u8 238)) (some gF) := run.grown_trans hgr (r' := some gF) ⟨rfl, rfl, rfl, by simp [World.setCell], fun j hj hne => Below.heap_setCell _ _ _ _ (by intro e; exact hne (by rw [e]))⟩ (.inl rfl)
      have HG2 := run.hid hgr2
      clear hst hgr2 hrd HX hgr
      generalize l.getD i 0 = c at *
      go_upto_region 11 with fail
      go_quiet (fail)
      go_wp2
      go_roundw
      case rel => exact ⟨i + 1, by omega, by go_num, HST, ⟨HG2.out.os, HG2.out.tape, HG2.out.output, HG2.out.size, HG2.out.block⟩⟩
      case measure => simp [intOf]; omega
    · obtain rfl : i = N := by omega
      have HDr := run.hid (HD5.out.grown hgr (fun k hk => by have := (HLT.out k hk).1; have := HN.out; omega))
      have hva : (Value.slice aa xs.length ca).ownBlock = none ∨ (Value.slice aa xs.length ca).ownBlock ≠ some gF := by
        cases e : (Value.slice aa xs.length ca).ownBlock with
        | none => exact .inl rfl
        | some k => have := (OA5.out.lt k e).1; exact .inr (by simp only [ne_eq, Option.some.injEq]; omega)
      have hvb : (Value.slice ab xs.length cb).ownBlock = none ∨ (Value.slice ab xs.length cb).ownBlock ≠ some gF := by
        cases e : (Value.slice ab xs.length cb).ownBlock with
        | none => exact .inl rfl
        | some k => have := (OB5.out.lt k e).1; exact .inr (by simp only [ne_eq, Option.some.injEq]; omega)
      have OAr := run.hid (OA5.out.kept hgr hva)
      have OBr := run.hid (OB5.out.kept hgr hvb)
      have Cr := run.hid (C5.out.trans (chg_grown (S := fun k => k = gF) hgr (fun k hk h2 => by simp only [Option.some.injEq] at hk; exact hk.symm)) (fun k h1 h2 => by have := HN.out; have := HB1.out.size; have h3 : k = gF := h2; omega))
      have HFa := run.hid (fun q (hq : q ∈ L) => far_lt (u := q.1) (v := .slice aa xs.length ca) (n := n) (fun k hk => by have := (HLT.out k (.inr (.inr (.inr (.inr (.inr (.inl ⟨q, hq, hk⟩))))))).1; have := HN.out; omega) (fun k hk => by have := (OA5.out.lt k hk).1; omega))
      have HFb := run.hid (fun q (hq : q ∈ M) => far_lt (u := q.1) (v := .slice aa xs.length ca) (n := n) (fun k hk => by have := (HLT.out k (.inr (.inr (.inr (.inr (.inr (.inr ⟨q, hq, hk⟩))))))).1; have := HN.out; omega) (fun k hk => by have := (OA5.out.lt k hk).1; omega))
      have HFc := run.hid (fun q (hq : q ∈ L) => far_lt (u := q.1) (v := .slice ab xs.length cb) (n := n) (fun k hk => by have := (HLT.out k (.inr (.inr (.inr (.inr (.inr (.inl ⟨q, hq, hk⟩))))))).1; have := HN.out; omega) (fun k hk => by have := (OB5.out.lt k hk).1; omega))
      have HFd := run.hid (fun q (hq : q ∈ M) => far_lt (u := q.1) (v := .slice ab xs.length cb) (n := n) (fun k hk => by have := (HLT.out k (.inr (.inr (.inr (.inr (.inr (.inr ⟨q, hq, hk⟩))))))).1; have := HN.out; omega) (fun k hk => by have := (OB5.out.lt k hk).1; omega))
      have HFe := run.hid (far_lt (u := .slice aa xs.length ca) (v := .slice ab xs.length cb) (n := w4.heap.size) hA4lt (fun k hk => (OB5.out.lt k hk).1))
      clear hva hvb hgr OA5 OB5 HD5 C5
      have hBn : B ≤ n := by have h1 := (HLT.out A (.inl rfl)).2; omega
      have hbx := HDr.out.box
      obtain ⟨a0, a1', a2', a3, f2, f3⟩ := box_cells4 hbx
      have OTr := run.hid ((HDr.out.told).alloc (.cells #[.slice aa xs.length ca] 22))
      go_wp2_with (at_builtin; refine run.wpList_append_any _ rfl _ (.tmp 65) 43 rfl B 22 ir (.slice none 0 0) 1 24 Try.underlying43 hir hrz0 hrz1 hrz2 rfl (by decide) _ L.length _ rfl OTr.out _ 1 [.slice aa xs.length ca] rfl (run.readsN_new wr [.slice aa xs.length ca] 1 1 _ rfl) (by intro u hu; simp at hu; subst hu; rfl) (by unfold maxLen; omega) (by omega) (by simp; omega) ?_)
      intro vt w6 hown6 hgrow6 _ hstep6
      obtain ⟨at6, ct6, rfl⟩ := run.own_value hown6
      have hBw : B ≤ w3.heap.size := by omega
      have D6 := run.hid (HDr.out.below (run.below_one wr (.cells #[.slice aa xs.length ca] 22)))
      have hbx6 := D6.out.box_told hgrow6
      obtain ⟨b0, b1, b2, b3, g2, g3⟩ := box_cells4 hbx6
      have D7 := run.hid (D6.out.tell hown6 hgrow6 hstep6 (run.own_mono (OAr.out.alloc _) hBw) HFa.out HFb.out)
      have C7 := run.hid (((chg_below (S := duoS A P R t m) (run.below_one wr (.cells #[.slice aa xs.length ca] 22))).trans (chg_grown (S := duoS A P R t m) hgrow6 (fun k hk _ => .inr (.inr (.inr (.inl hk))))) (fun k _ h => h)).trans (chg_cell (S := duoS A P R t m) (d := A) (i := 2) (u := .slice at6 (L.length + 1) ct6) (.inl rfl)) (fun k _ h => h))
      have hs67 := hgrow6.size
      have HT7 : Hid (∀ k, (Value.slice at6 (L.length + 1) ct6).ownBlock = some k → t.ownBlock = some k ∨ n ≤ k) := fun k hk => by
        rcases hstep6 with ⟨g, cap, h1, h2⟩ | h
        · left; rw [h1]; rw [h2] at hk; exact hk
        · have := h k hk; simp at this; right; omega
      have hw7 : w6.heap.size ≤ (w6.setCell ⟨A, 2, none⟩ (.slice at6 (L.length + 1) ct6)).heap.size := by simp [World.setCell]
      clear a0 a1' a2' a3 f2 f3 hbx hown6 hgrow6 hstep6 OTr hbx6 D6
      go_upto_region 15 with fail
      clear b0 b1 b2 b3 g2 g3
      generalize w6.setCell ⟨A, 2, none⟩ (.slice at6 (L.length + 1) ct6) = w7 at *
      have hbx := D7.out.box
      obtain ⟨a0, a1', a2', a3, f2, f3⟩ := box_cells4 hbx
      have hs1 : w1.heap.size ≤ w7.heap.size := by simp at hs67; omega
      have hs7 : B ≤ w7.heap.size := by omega
      have OTr := run.hid ((D7.out.want).alloc (.cells #[.slice ab xs.length cb] 22))
      have OBw := run.hid (own_keep OBr.out (fun k hk => C7.out.block k (OBr.out.lt k hk).2 (fun h => by have h2 := (OBr.out.lt k hk).1; have h3 := (HLT.out k (duoS_has h)).1; have := HN.out; omega)))
      go_wp2_with (at_builtin; refine run.wpList_append_any _ rfl _ (.tmp 75) 43 rfl B 22 ir (.slice none 0 0) 1 24 Try.underlying43 hir hrz0 hrz1 hrz2 rfl (by decide) _ M.length _ rfl OTr.out _ 1 [.slice ab xs.length cb] rfl (run.readsN_new w7 [.slice ab xs.length cb] 1 1 _ rfl) (by intro u hu; simp at hu; subst hu; rfl) (by unfold maxLen; omega) (by omega) (by simp; omega) ?_)
      intro vm w8 hown8 hgrow8 _ hstep8
      obtain ⟨am8, cm8, rfl⟩ := run.own_value hown8
      have D8 := run.hid (D7.out.below (run.below_one w7 (.cells #[.slice ab xs.length cb] 22)))
      have hbx8 := D8.out.box_want hgrow8
      obtain ⟨b0, b1, b2, b3, g2, g3⟩ := box_cells4 hbx8
      have HFc2 : Hid (∀ q ∈ L ++ [(Value.slice aa xs.length ca, xs)], Far q.1 (.slice ab xs.length cb)) := fun q hq => by
        rcases List.mem_append.1 hq with hq | hq
        · exact HFc.out q hq
        · rw [List.mem_singleton] at hq; subst hq; exact HFe.out
      have D9 := run.hid (D8.out.wants hown8 hgrow8 hstep8 (run.own_mono (OBw.out.alloc _) (by omega)) HFc2.out HFd.out)
      have C9 := run.hid (((C7.out.trans (chg_below (S := duoS A P R t m) (run.below_one w7 (.cells #[.slice ab xs.length cb] 22))) (fun k _ h => h)).trans (chg_grown (S := duoS A P R t m) hgrow8 (fun k hk _ => .inr (.inr (.inr (.inr hk))))) (fun k _ h => h)).trans (chg_cell (S := duoS A P R t m) (d := A) (i := 3) (u := .slice am8 (M.length + 1) cm8) (.inl rfl)) (fun k _ h => h))
      have HM7 : Hid (∀ k, (Value.slice am8 (M.length + 1) cm8).ownBlock = some k → m.ownBlock = some k ∨ n ≤ k) := fun k hk => by
        rcases hstep8 with ⟨g, cap, h1, h2⟩ | h
        · left; rw [h1]; rw [h2] at hk; exact hk
        · have := h k hk; simp at this; right; omega
      clear a0 a1' a2' a3 f2 f3 hbx hown8 hgrow8 hstep8 OTr hbx8 D8 D7 C7
      go_upto_region 16 with fail
      clear b0 b1 b2 b3 g2 g3
      generalize w8.setCell ⟨A, 3, none⟩ (.slice am8 (M.length + 1) cm8) = w9 at *
      have HBw := run.hid (C9.out.to_below HBr.out (fun k hk => HSlo.out k hk) (Nat.le_trans HB0.out.size (by have := HB1.out.size; have := HN.out; omega)))
      have hnS : ¬ duoS A P R t m n := fun h => by have := (HLT.out n (duoS_has h)).1; have := HN.out; omega
      have hgS : ¬ duoS A P R t m gF := fun h => by have := (HLT.out gF (duoS_has h)).1; have := HN.out; omega
      have k9 : w9.cell? ⟨n, 1, none⟩ = some (.slice pa i pc) := (World.cell?_of_block (a := ⟨n, 1, none⟩) (C9.out.block n (run.lt_of_cell kr) hnS)).trans kr
      have OX9 := run.hid (own_keep HX.out (fun k hk => C9.out.block k (HX.out.lt k hk).2 (by simp only [Value.ownBlock, Option.some.injEq] at hk; rw [← hk]; exact hgS)))
      have HS := run.hid (refSame_eq _ _ xs w9 (run.reads_own (D9.out.rowsL _ (List.mem_append_right _ (List.mem_singleton.2 rfl)))) (run.reads_own (D9.out.rowsM _ (List.mem_append_right _ (List.mem_singleton.2 rfl)))) (by omega))
      have CW := run.hid (Cr.out.trans C9.out (fun k _ h => h))
      clear hnS hgS Cr C9 HX kr OAr OBr OBw HDr HFa HFb HFc HFd HFe HFc2 HB5 HBr
      go_wp2_with fail
      refine HS.out.mono ?_
      rintro e w10 ⟨rfl, hb10⟩
      have OX10 := run.own_below OX9.out hb10
      have k10 := (hb10.cell (p := ⟨n, 1, none⟩) (run.lt_of_cell k9)).trans k9
      have x1 := OX10.cellAt i (by omega)
      have x2 := OX10.cellAt (i + 1) (by omega)
      have e1 : (bv (gone i i (l ++ [165, 166])))[i]? = some (.int .u8 165) := by
        rw [gone_get (Nat.le_refl _) (by rw [hlen2'.out]; omega)]
        simp only [List.getD_eq_getElem?_getD]
        rw [List.getElem?_append_right (by have := HNL.out; omega), HNL.out]
        simp
      have e2 : (bv (gone i i (l ++ [165, 166])))[i + 1]? = some (.int .u8 166) := by
        rw [gone_get (by omega) (by rw [hlen2'.out]; omega)]
        simp only [List.getD_eq_getElem?_getD]
        rw [List.getElem?_append_right (by have := HNL.out; omega), HNL.out]
        simp
      rw [e1] at x1
      rw [e2] at x2
      have DX := run.hid (D9.out.below hb10)
      have CX := run.hid (CW.out.trans (chg_below (S := duoS A P R t m) hb10) (fun k _ h => h))
      clear e1 e2 OX10 OX9 k9 HS D9 CW hb10
      go_wp2
      go_ret
      refine ⟨H, rfl, _, _, _, _, DX.out, CX.out, fun k hk => (HT7.out k hk).imp id (fun h => by have := HN.out; omega), fun k hk => (HM7.out k hk).imp id (fun h => by have := HN.out; omega), fun q hq => ?_, fun q hq => ?_, HA.out.snoc, by simp, fun q hq => ?_⟩
      · rcases List.mem_append.1 hq with hq | hq
        · exact .inl hq
        · rw [List.mem_singleton] at hq
          subst hq
          exact .inr fun k hk => by have := hA4lo.out k hk; have := HN.out; omega
      · rcases List.mem_append.1 hq with hq | hq
        · exact .inl hq
        · rw [List.mem_singleton] at hq
          subst hq
          exact .inr fun k hk => by have := hB5lo.out k hk; have := HN.out; omega
      · rcases List.mem_append.1 hq with hq | hq
        · exact .inl hq
        · rw [List.mem_singleton] at hq
          subst hq
          exact .inr (by show xs.length ≤ _; omega)
set_option maxRecDepth 100000 in
set_option maxHeartbeats 4000000 in
theorem step_end {A P R : Nat} {t m : Value} {hp : List Nat} {L M : List Tld} {B : Nat} {w : World} (pa : Option Addr) (pn pc : Nat) (h : Duo A P R t m hp hp L M B w) (hL : L.length ≤ 134217728) (hA : Alike2 L M) :
    Calls Try.prog 22 #[.pointer (some ⟨A, 0, none⟩), .agg #[.int .i64 3, .slice pa pn pc]] w fun e w' => ∃ hp', Stepped A P R t m L M B w e w' hp' hp' := by
  obtain ⟨ir, hir, hrz0, hrz1, hrz2⟩ := info_parts info_slices
  have hMl : M.length ≤ 134217728 := by rw [hA.len]; exact hL
  have HA := run.hid hA
  clear hA
  have HLT := run.hid (fun k hk => h.lt (k := k) hk)
  have hb1 := run.below_one w (.cells #[.int .i64 3, .slice pa pn pc] 49)
  have hn1 := run.heap_new w (.cells #[.int .i64 3, .slice pa pn pc] 49)
  have HD1 := run.hid (h.below hb1)
  have HB1 := run.hid hb1
  clear hb1 h
  go_enter Try.func22, Try.ntmps22
  go_upto_region 1 with fail
  generalize w.alloc (.cells #[.int .i64 3, .slice pa pn pc] 49) = w1 at *
  generalize hn : w.heap.size = n at *
  have HN := run.hid hn
  clear hn
  have k0 : w1.cell? ⟨n, 0, none⟩ = some (.int .i64 3) := by simp [World.cell?, hn1]
  have hnlt := lt_of_block hn1
  have hAn : A < n := by have := (HLT.out A (.inl rfl)).1; have := HN.out; omega
  have hC1 := HB1.out
  rw [← HN.out] at hC1
  have C1 := run.hid (chg_below (S := duoS A P R t m) hC1)
  clear hC1
  obtain ⟨a0, a1', a2', a3, f2, f3⟩ := box_cells4 HD1.out.box
  have HE := run.hid (end_any P hp w1 HD1.out.dec)
  go_wp2_with fail
  refine HE.out.mono ?_
  rintro e w4 ⟨va, rfl, howna, hd4, hg4⟩
  have hel : (endOf hp).length ≤ 1 := by unfold endOf; split <;> simp
  have hs34 := hg4.size
  obtain ⟨aa, ca, rfl⟩ := run.own_value howna
  have HD4 := run.hid (HD1.out.fed hg4 hd4)
  have C4 := run.hid (C1.out.trans (chg_grown (S := duoS A P R t m) hg4 (fun k hk _ => by simp only [Option.some.injEq] at hk; exact .inr (.inl hk.symm))) (fun k _ h => h))
  generalize hxs : endOf hp = xs at *
  have HXS := run.hid hxs
  clear hxs a0 a1' a2' a3 f2 f3 hd4 HE
  have OA4 := run.hid howna
  have hA4lo := run.hid (fun k hk => (howna.lt k hk).1)
  have hA4lt : ∀ k, (Value.slice aa xs.length ca).ownBlock = some k → k < w4.heap.size := fun k hk => (howna.lt k hk).2
  clear hg4 howna
  obtain ⟨a0, a1', a2', a3, f2, f3⟩ := box_cells4 HD4.out.box
  have HE := run.hid (refEnd_any R hp w4 HD4.out.ref)
  go_wp2_with fail
  refine HE.out.mono ?_
  rintro e w5 ⟨vb, rfl, hownb, hd5, hg5⟩
  rw [HXS.out] at hownb
  have hs45 := hg5.size
  obtain ⟨ab, cb, rfl⟩ := run.own_value (n := xs.length) (by rw [HXS.out] at *; exact hownb)
  have HDr := run.hid (HD4.out.rfed hg5 hd5)
  have hRlt : R < n := by have := (HLT.out R (.inr (.inr (.inl rfl)))).1; have := HN.out; omega
  have hvaR : (Value.slice aa xs.length ca).ownBlock = none ∨ (Value.slice aa xs.length ca).ownBlock ≠ some R := by
    cases e : (Value.slice aa xs.length ca).ownBlock with
    | none => exact .inl rfl
    | some k => have := hA4lo.out k e; exact .inr (by simp only [ne_eq, Option.some.injEq]; omega)
  have OAr := run.hid (OA4.out.kept hg5 hvaR)
  have OBr := run.hid hownb
  have hB5lo := run.hid (fun k hk => (hownb.lt k hk).1)
  have Cr := run.hid (C4.out.trans (chg_grown (S := duoS A P R t m) hg5 (fun k hk _ => by simp only [Option.some.injEq] at hk; exact .inr (.inr (.inl hk.symm)))) (fun k _ h => h))
  have HFa := run.hid (fun q (hq : q ∈ L) => far_lt (u := q.1) (v := .slice aa xs.length ca) (n := n) (fun k hk => by have := (HLT.out k (.inr (.inr (.inr (.inr (.inr (.inl ⟨q, hq, hk⟩))))))).1; have := HN.out; omega) (fun k hk => by have := hA4lo.out k hk; omega))
  have HFb := run.hid (fun q (hq : q ∈ M) => far_lt (u := q.1) (v := .slice aa xs.length ca) (n := n) (fun k hk => by have := (HLT.out k (.inr (.inr (.inr (.inr (.inr (.inr ⟨q, hq, hk⟩))))))).1; have := HN.out; omega) (fun k hk => by have := hA4lo.out k hk; omega))
  have HFc := run.hid (fun q (hq : q ∈ L) => far_lt (u := q.1) (v := .slice ab xs.length cb) (n := n) (fun k hk => by have := (HLT.out k (.inr (.inr (.inr (.inr (.inr (.inl ⟨q, hq, hk⟩))))))).1; have := HN.out; omega) (fun k hk => by have := hB5lo.out k hk; omega))
  have HFd := run.hid (fun q (hq : q ∈ M) => far_lt (u := q.1) (v := .slice ab xs.length cb) (n := n) (fun k hk => by have := (HLT.out k (.inr (.inr (.inr (.inr (.inr (.inr ⟨q, hq, hk⟩))))))).1; have := HN.out; omega) (fun k hk => by have := hB5lo.out k hk; omega))
  have HFe := run.hid (far_lt (u := .slice aa xs.length ca) (v := .slice ab xs.length cb) (n := w4.heap.size) hA4lt hB5lo.out)
  have hBn : B ≤ n := by have h1 := (HLT.out A (.inl rfl)).2; omega
  clear a0 a1' a2' a3 f2 f3 hvaR hownb hg5 hd5 HD4 OA4 C4 HE
  have hbx := HDr.out.box
  obtain ⟨a0, a1', a2', a3, f2, f3⟩ := box_cells4 hbx
  have OTr := run.hid ((HDr.out.told).alloc (.cells #[.slice aa xs.length ca] 22))
  go_wp2_with (at_builtin; refine run.wpList_append_any _ rfl _ (.tmp 132) 43 rfl B 22 ir (.slice none 0 0) 1 24 Try.underlying43 hir hrz0 hrz1 hrz2 rfl (by decide) _ L.length _ rfl OTr.out _ 1 [.slice aa xs.length ca] rfl (run.readsN_new w5 [.slice aa xs.length ca] 1 1 _ rfl) (by intro u hu; simp at hu; subst hu; rfl) (by unfold maxLen; omega) (by omega) (by simp; omega) ?_)
  intro vt w6 hown6 hgrow6 _ hstep6
  obtain ⟨at6, ct6, rfl⟩ := run.own_value hown6
  have hBw : B ≤ w1.heap.size := by omega
  have D6 := run.hid (HDr.out.below (run.below_one w5 (.cells #[.slice aa xs.length ca] 22)))
  have hbx6 := D6.out.box_told hgrow6
  obtain ⟨b0, b1, b2, b3, g2, g3⟩ := box_cells4 hbx6
  have D7 := run.hid (D6.out.tell hown6 hgrow6 hstep6 (run.own_mono (OAr.out.alloc _) hBw) HFa.out HFb.out)
  have C7 := run.hid (((chg_below (S := duoS A P R t m) (run.below_one w5 (.cells #[.slice aa xs.length ca] 22))).trans (chg_grown (S := duoS A P R t m) hgrow6 (fun k hk _ => .inr (.inr (.inr (.inl hk))))) (fun k _ h => h)).trans (chg_cell (S := duoS A P R t m) (d := A) (i := 2) (u := .slice at6 (L.length + 1) ct6) (.inl rfl)) (fun k _ h => h))
  have hs67 := hgrow6.size
  have HT7 : Hid (∀ k, (Value.slice at6 (L.length + 1) ct6).ownBlock = some k → t.ownBlock = some k ∨ n ≤ k) := fun k hk => by
    rcases hstep6 with ⟨g, cap, h1, h2⟩ | h
    · left; rw [h1]; rw [h2] at hk; exact hk
    · have := h k hk; simp at this; right; omega
  have hw7 : w6.heap.size ≤ (w6.setCell ⟨A, 2, none⟩ (.slice at6 (L.length + 1) ct6)).heap.size := by simp [World.setCell]
  clear a0 a1' a2' a3 f2 f3 hbx hown6 hgrow6 hstep6 OTr hbx6 D6
  go_upto_region 23 with fail
  clear b0 b1 b2 b3 g2 g3
  generalize w6.setCell ⟨A, 2, none⟩ (.slice at6 (L.length + 1) ct6) = w7 at *
  have hbx := D7.out.box
  obtain ⟨a0, a1', a2', a3, f2, f3⟩ := box_cells4 hbx
  have hs1 : w1.heap.size ≤ w7.heap.size := by simp at hs67; omega
  have hs7 : B ≤ w7.heap.size := by omega
  have OTr := run.hid ((D7.out.want).alloc (.cells #[.slice ab xs.length cb] 22))
  have OBw := run.hid (own_keep OBr.out (fun k hk => C7.out.block k (OBr.out.lt k hk).2 (fun h => by have h2 := (OBr.out.lt k hk).1; have h3 := (HLT.out k (duoS_has h)).1; have := HN.out; omega)))
  go_wp2_with (at_builtin; refine run.wpList_append_any _ rfl _ (.tmp 142) 43 rfl B 22 ir (.slice none 0 0) 1 24 Try.underlying43 hir hrz0 hrz1 hrz2 rfl (by decide) _ M.length _ rfl OTr.out _ 1 [.slice ab xs.length cb] rfl (run.readsN_new w7 [.slice ab xs.length cb] 1 1 _ rfl) (by intro u hu; simp at hu; subst hu; rfl) (by unfold maxLen; omega) (by omega) (by simp; omega) ?_)
  intro vm w8 hown8 hgrow8 _ hstep8
  obtain ⟨am8, cm8, rfl⟩ := run.own_value hown8
  have D8 := run.hid (D7.out.below (run.below_one w7 (.cells #[.slice ab xs.length cb] 22)))
  have hbx8 := D8.out.box_want hgrow8
  obtain ⟨b0, b1, b2, b3, g2, g3⟩ := box_cells4 hbx8
  have HFc2 : Hid (∀ q ∈ L ++ [(Value.slice aa xs.length ca, xs)], Far q.1 (.slice ab xs.length cb)) := fun q hq => by
    rcases List.mem_append.1 hq with hq | hq
    · exact HFc.out q hq
    · rw [List.mem_singleton] at hq; subst hq; exact HFe.out
  have D9 := run.hid (D8.out.wants hown8 hgrow8 hstep8 (run.own_mono (OBw.out.alloc _) (by omega)) HFc2.out HFd.out)
  have C9 := run.hid (((C7.out.trans (chg_below (S := duoS A P R t m) (run.below_one w7 (.cells #[.slice ab xs.length cb] 22))) (fun k _ h => h)).trans (chg_grown (S := duoS A P R t m) hgrow8 (fun k hk _ => .inr (.inr (.inr (.inr hk))))) (fun k _ h => h)).trans (chg_cell (S := duoS A P R t m) (d := A) (i := 3) (u := .slice am8 (M.length + 1) cm8) (.inl rfl)) (fun k _ h => h))
  have HM7 : Hid (∀ k, (Value.slice am8 (M.length + 1) cm8).ownBlock = some k → m.ownBlock = some k ∨ n ≤ k) := fun k hk => by
    rcases hstep8 with ⟨g, cap, h1, h2⟩ | h
    · left; rw [h1]; rw [h2] at hk; exact hk
    · have := h k hk; simp at this; right; omega
  clear a0 a1' a2' a3 f2 f3 hbx hown8 hgrow8 hstep8 OTr hbx8 D8 D7 C7
  go_upto_region 24 with fail
  clear b0 b1 b2 b3 g2 g3
  generalize w8.setCell ⟨A, 3, none⟩ (.slice am8 (M.length + 1) cm8) = w9 at *
  have HS := run.hid (refSame_eq _ _ xs w9 (run.reads_own (D9.out.rowsL _ (List.mem_append_right _ (List.mem_singleton.2 rfl)))) (run.reads_own (D9.out.rowsM _ (List.mem_append_right _ (List.mem_singleton.2 rfl)))) (by omega))
  have CW := run.hid (Cr.out.trans C9.out (fun k _ h => h))
  clear Cr C9 OAr OBr OBw HDr HFa HFb HFc HFd HFe HFc2
  go_wp2_with fail
  refine HS.out.mono ?_
  rintro e w10 ⟨rfl, hb10⟩
  have DX := run.hid (D9.out.below hb10)
  have CX := run.hid (CW.out.trans (chg_below (S := duoS A P R t m) hb10) (fun k _ h => h))
  clear HS D9 CW hb10
  go_wp2
  go_ret
  refine ⟨[], rfl, _, _, _, _, DX.out, CX.out, fun k hk => (HT7.out k hk).imp id (fun h => by have := HN.out; omega), fun k hk => (HM7.out k hk).imp id (fun h => by have := HN.out; omega), fun q hq => ?_, fun q hq => ?_, HA.out.snoc, by simp, fun q hq => ?_⟩
  · rcases List.mem_append.1 hq with hq | hq
    · exact .inl hq
    · rw [List.mem_singleton] at hq
      subst hq
      exact .inr fun k hk => by have := hA4lo.out k hk; have := HN.out; omega
  · rcases List.mem_append.1 hq with hq | hq
    · exact .inl hq
    · rw [List.mem_singleton] at hq
      subst hq
      exact .inr fun k hk => by have := hB5lo.out k hk; have := HN.out; omega
  · rcases List.mem_append.1 hq with hq | hq
    · exact .inl hq
    · rw [List.mem_singleton] at hq
      subst hq
      exact .inr (by show xs.length ≤ _; omega)

set_option maxRecDepth 100000 in
set_option maxHeartbeats 4000000 in
/-- a step that asks, or does nothing -/
theorem step_asks {A P R : Nat} {t m : Value} {hp : List Nat} {L M : List Tld} {B : Nat} {w : World} (d : Int) (pa : Option Addr) (pn pc : Nat) (h : Duo A P R t m hp hp L M B w) (hd1 : d ≠ 1) (hd3 : d ≠ 3) (hA : Alike2 L M) :
    Calls Try.prog 22 #[.pointer (some ⟨A, 0, none⟩), .agg #[.int .i64 d, .slice pa pn pc]] w fun e w' => ∃ hp', Stepped A P R t m L M B w e w' hp' hp' := by
  have HA := run.hid hA
  clear hA
  have hb1 := run.below_one w (.cells #[.int .i64 d, .slice pa pn pc] 49)
  have hn1 := run.heap_new w (.cells #[.int .i64 d, .slice pa pn pc] 49)
  have HD1 := run.hid (h.below hb1)
  have HB1 := run.hid hb1
  have HF := run.hid (fun (X : World) (hX : Below w.heap.size w X) => show ∃ hp', Stepped A P R t m L M B w (.returned (.bool true)) X hp' hp' from
    ⟨hp, rfl, t, m, L, M, h.below hX, chg_below hX, fun k hk => .inl hk, fun k hk => .inl hk, fun q hq => .inl hq, fun q hq => .inl hq, HA.out, Nat.le_succ _, fun q hq => .inl hq⟩)
  clear hb1 h
  go_enter Try.func22, Try.ntmps22
  go_upto_region 1 with fail
  generalize w.alloc (.cells #[.int .i64 d, .slice pa pn pc] 49) = w1 at *
  generalize hn : w.heap.size = n at *
  have HN := run.hid hn
  clear hn
  have k0 : w1.cell? ⟨n, 0, none⟩ = some (.int .i64 d) := by simp [World.cell?, hn1]
  have hnlt := lt_of_block hn1
  have g1 : (d == 1) = false := by rw [beq_eq_false_iff_ne]; exact hd1
  have g3 : (d == 3) = false := by rw [beq_eq_false_iff_ne]; exact hd3
  have HFF := run.hid (fun X hX => HF.out X hX)
  by_cases hd2 : d = 2
  · subst hd2
    obtain ⟨a0, a1', a2', a3, f2, f3⟩ := box_cells4 HD1.out.box
    have HH := run.hid (fun k => held_any P hp (w1.drewN k) (HD1.out.dec.kept rfl))
    have HR := run.hid (fun k => refHeld_any R hp (w1.drewN k) (HD1.out.ref.kept rfl))
    clear HD1 hn1
    go_upto_region 18 with fail
    go_quiet (first | ((go_at_call 23; exact Calls.quiet_of_same (HH.out _))) | ((go_at_call 24; exact Calls.quiet_of_same (HR.out _))))
    go_wp2
    go_ret
    exact HF.out _ (below_drewN HB1.out _)
  · have g2 : (d == 2) = false := by rw [beq_eq_false_iff_ne]; exact hd2
    clear HD1 hn1
    go_wp2
    go_ret
    exact HF.out _ HB1.out

/-- ONE STEP, ON BOTH -/
theorem step_any {A P R : Nat} {t m : Value} {hp : List Nat} {L M : List Tld} {B : Nat} {w0 w : World} (d : Int) (pa : Option Addr) (pc : Nat) (l : List Nat) (h : Duo A P R t m hp hp L M B w) (hb0 : Below w0.heap.size w0 w) (hw0 : w0.heap.size ≤ B)
    (hr : run.Reads w0 (.slice pa l.length pc) (bv l)) (hby : ∀ c ∈ l, c < 256) (hl : l.length ≤ 134217728) (hL : L.length ≤ 134217728) (hA : Alike2 L M) :
    Calls Try.prog 22 #[.pointer (some ⟨A, 0, none⟩), .agg #[.int .i64 d, .slice pa l.length pc]] w fun e w' => ∃ hp', Stepped A P R t m L M B w e w' hp' hp' := by
  by_cases h1 : d = 1
  · subst h1; exact step_feed pa pc l h hb0 hw0 hr hby hl hL hA
  by_cases h3 : d = 3
  · subst h3; exact step_end pa _ pc h hL hA
  · exact step_asks d pa _ pc h h1 h3 hA
end Go.Proofs.Ytgjlhjnkcgdopaa.utf
