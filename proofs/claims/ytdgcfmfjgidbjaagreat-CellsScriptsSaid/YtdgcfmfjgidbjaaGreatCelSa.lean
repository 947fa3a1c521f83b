/-
  A script as it is handed in: its steps, its bound, how it comes in.
-/
import Derived.Test.YtdgcfmfjgidbjaaGreatCelN
import Derived.Deep.RegionHeld3
namespace Go.Proofs.YtdgcfmfjgidbjaaGreat.cel
open Go Go.RowKit Go.Proofs
open Go.Proofs.YtdgcfmfjgidbjaaGreat.wrp (TV t0 flow)
set_option linter.unusedVariables false
theorem lent_len2 (L : List CV) : (lentT L).length = L.length + 2 := by unfold lentT; simp
theorem reads5_lent2 {w : World} {a : Option Addr} {cap : Nat} {L : List CV} (h : Reads5 w (.slice a (L.length + 2) cap) (lentT L)) : Reads5 w (.slice a L.length cap) L := by
  refine ⟨a, cap, rfl, fun i hi => ?_⟩
  rw [← lent_len2] at h
  obtain ⟨b, off, rfl, hb, h0, h1, h2, h3, h4⟩ := reads_cell h (i := i) (by rw [lent_len2]; omega)
  have e : (lentT L).getD i z0 = L.getD i z0 := by
    unfold lentT
    simp only [List.getD_eq_getElem?_getD]
    rw [List.getElem?_append_left hi]
  rw [e] at h0 h1 h2 h3 h4
  exact ⟨b, off, rfl, hb, h0, h1, h2, h3, h4⟩
/-- a step of a script -/
structure St where
  d : Int
  x : Int
  y : Int
  t : ByteArray
  s : SV
  r : RT
  a : Option Addr
  row : List CV
  cap : Nat
  by0 : Int
def St.cells (q : St) : Array Value := #[.int .i64 q.d, .int .i64 q.x, .int .i64 q.y, .string q.t, .int .i32 q.s.fg, .int .i32 q.s.bg, .int .u8 q.s.att, .int .i64 q.r.x, .int .i64 q.r.y, .int .i64 q.r.w, .int .i64 q.r.h, .slice q.a q.row.length q.cap, .int .i64 q.by0]
/-- a step whose row lies in a world -/
structure St.ok (q : St) (w : World) : Prop where
  r : q.r.wf
  t : q.t.size ≤ 68719476736
  reads : Reads5 w (.slice q.a q.row.length q.cap) q.row
  none : q.a = none → q.cap = 0
  le : q.row.length ≤ q.cap
  size : q.row.length * 32 ≤ 140737488351232
  fit : ∀ c ∈ q.row, Fit c
theorem St.ok.below {q : St} {w w' : World} (h : q.ok w) (hb : Below w.heap.size w w') : q.ok w' := ⟨h.r, h.t, h.reads.below hb, h.none, h.le, h.size, h.fit⟩
/-- what a step lets in -/
def St.lets (q : St) (W : Nat) (k : Nat) : Prop := (q.d = 1 ∨ q.d = 2 ∨ q.d = 3 ∨ q.d = 4) ∧ inD q.r q.y (decide (q.d = 2 ∨ q.d = 4)) W k
theorem Nice.mono {W H : Nat} {inR inR' : Nat → Prop} {f0 : Nat → CV} {L : List CV} (h : Nice W H inR f0 L) (hi : ∀ k, inR k → inR' k) : Nice W H inR' f0 L := by
  refine ⟨h.len, h.sf, fun k hk hkR => ?_⟩
  rcases h.chg k hk (fun h2 => hkR (hi k h2)) with h1 | ⟨h1, h2, h3, h4⟩
  · exact .inl h1
  · exact .inr ⟨h1, h2, hi _ h3, h4⟩

end Go.Proofs.YtdgcfmfjgidbjaaGreat.cel
namespace Go.Proofs.YtdgcfmfjgidbjaaGreat.cel
open Go Go.RowKit Go.Proofs
set_option linter.unusedVariables false
theorem info_step : (Tryz.prog.info? 37).map (fun i => (i.zero, i.size, i.bytes)) = some (some (.agg #[.int .i64 0, .int .i64 0, .int .i64 0, .string ⟨#[]⟩, .int .i32 0, .int .i32 0, .int .u8 0, .int .i64 0, .int .i64 0, .int .i64 0, .int .i64 0, .slice none 0 0, .int .i64 0]), 13, 120) := by kernel_rfl
def q0 : St := ⟨0, 0, 0, ⟨#[]⟩, s0, ⟨0, 0, 0, 0⟩, none, [], 0, 0⟩
/-- a step as it lies in memory -/
def Cell13 (w : World) (b o : Nat) (q : St) : Prop :=
  w.cell? ⟨b, o, none⟩ = some (.int .i64 q.d) ∧ w.cell? ⟨b, o + 1, none⟩ = some (.int .i64 q.x) ∧ w.cell? ⟨b, o + 2, none⟩ = some (.int .i64 q.y) ∧ w.cell? ⟨b, o + 3, none⟩ = some (.string q.t) ∧
  w.cell? ⟨b, o + 4, none⟩ = some (.int .i32 q.s.fg) ∧ w.cell? ⟨b, o + 5, none⟩ = some (.int .i32 q.s.bg) ∧ w.cell? ⟨b, o + 6, none⟩ = some (.int .u8 q.s.att) ∧
  w.cell? ⟨b, o + 7, none⟩ = some (.int .i64 q.r.x) ∧ w.cell? ⟨b, o + 8, none⟩ = some (.int .i64 q.r.y) ∧ w.cell? ⟨b, o + 9, none⟩ = some (.int .i64 q.r.w) ∧ w.cell? ⟨b, o + 10, none⟩ = some (.int .i64 q.r.h) ∧
  w.cell? ⟨b, o + 11, none⟩ = some (.slice q.a q.row.length q.cap) ∧ w.cell? ⟨b, o + 12, none⟩ = some (.int .i64 q.by0)
theorem Cell13.of {w w' : World} {b o : Nat} {q : St} (h : Cell13 w b o q) (hb : w'.heap[b]? = w.heap[b]?) : Cell13 w' b o q := by
  have e : ∀ k, w'.cell? ⟨b, k, none⟩ = w.cell? ⟨b, k, none⟩ := fun k => World.cell?_of_block (a := ⟨b, k, none⟩) hb
  unfold Cell13 at *
  simp only [e]
  exact h
/-- a step as it is handed in -/
structure St.fine (q : St) (w : World) : Prop where
  d : w64 q.d
  x : w64 q.x
  y : w64 q.y
  by0 : w64 q.by0
  r : q.r.wf
  s : q.s.wf
  t : q.t.size ≤ 140737488351232
  reads : Reads5 w (.slice q.a q.row.length q.cap) q.row
  none : q.a = none → q.cap = 0
  le : q.row.length ≤ q.cap
  size : q.cap * 32 ≤ 140737488351232
  fine : ∀ c ∈ q.row, c.fine
theorem St.fine.below {q : St} {w w' : World} (h : q.fine w) (hb : Below w.heap.size w w') : q.fine w' := ⟨h.d, h.x, h.y, h.by0, h.r, h.s, h.t, h.reads.below hb, h.none, h.le, h.size, h.fine⟩
/-- a script -/
def StepsAt (w : World) (a : Option Addr) (SL : List St) : Prop := ∀ i, i < SL.length → ∃ b off, a = some ⟨b, off, none⟩ ∧ b < w.heap.size ∧ Cell13 w b (off + i * 13) (SL.getD i q0) ∧ (SL.getD i q0).fine w
def beyondT : List St → Nat → Bool
  | [], _ => false
  | q :: l, n => if 134217728 < n + 1 + q.t.size then true else if (longT q.row (n + 1 + q.t.size)).2 = true then true else beyondT l (longT q.row (n + 1 + q.t.size)).1
theorem below_drewN {B : Nat} {a w : World} (h : Below B a w) (q : Nat) : Below B a (w.drewN q) := ⟨h.os, h.tape, h.output, h.size, h.block⟩
theorem beyondT_at {L : List St} {i n : Nat} (h : i < L.length) : beyondT (L.drop i) n = if 134217728 < n + 1 + (L.getD i q0).t.size then true else if (longT (L.getD i q0).row (n + 1 + (L.getD i q0).t.size)).2 = true then true else beyondT (L.drop (i + 1)) (longT (L.getD i q0).row (n + 1 + (L.getD i q0).t.size)).1 := by
  rw [List.drop_eq_getElem_cons h]
  simp [beyondT, List.getD_eq_getElem?_getD, h]
theorem beyondT_fits : ∀ (L : List St) (n : Nat), beyondT L n = false → n ≤ 134217728 → ∀ q ∈ L, q.t.size ≤ 134217728 ∧ q.row.length ≤ 134217728 ∧ ∀ c ∈ q.row, c.text.size ≤ 134217728
  | [], _, _, _ => by simp
  | q :: l, n, h, hn => by
    unfold beyondT at h
    by_cases h1 : 134217728 < n + 1 + q.t.size
    · rw [if_pos h1] at h; cases h
    · rw [if_neg h1] at h
      by_cases h2 : (longT q.row (n + 1 + q.t.size)).2 = true
      · rw [if_pos h2] at h; cases h
      · rw [if_neg h2] at h
        obtain ⟨h3, h4, h5, h6⟩ := longT_fits q.row (n + 1 + q.t.size) (by simpa using h2) (by omega)
        intro p hp
        rcases List.mem_cons.1 hp with rfl | hp
        · exact ⟨by omega, by omega, h4⟩
        · exact beyondT_fits l _ h h5 p hp
theorem St.fine.ok {q : St} {w : World} (h : q.fine w) (h1 : q.t.size ≤ 134217728 ∧ q.row.length ≤ 134217728 ∧ ∀ c ∈ q.row, c.text.size ≤ 134217728) : q.ok w :=
  ⟨h.r, by omega, h.reads, h.none, h.le, by have := h.size; have := h.le; omega, fun c hc => ⟨by have := h1.2.2 c hc; omega, (h.fine c hc).2.1⟩⟩

set_option maxRecDepth 100000 in
set_option maxHeartbeats 4000000 in
theorem beyond_any (a : Option Addr) (cap : Nat) (SL : List St) (w : World) (hS : StepsAt w a SL) (hN : SL.length ≤ 140737488355328) :
    Calls Tryz.prog 4 #[.slice a SL.length cap] w fun e w' => e = .returned (.bool (beyondT SL 0)) ∧ Below w.heap.size w w' := by
  obtain ⟨it, hinf, -, hsz, -⟩ := info_parts info_step
  have HST := run.hid hS
  have HAT := run.hid (fun i m (hi : i < SL.length) => @beyondT_at SL i m hi)
  have HE := run.hid (fun m => show beyondT (SL.drop SL.length) m = false from by rw [List.drop_length]; rfl)
  obtain ⟨r, hr⟩ : ∃ r, r = beyondT SL 0 := ⟨_, rfl⟩
  rw [← hr]
  have H0 := run.hid (show r = beyondT (SL.drop 0) 0 from hr)
  clear hS hr
  generalize hNN : SL.length = N at *
  have HNN := run.hid hNN
  clear hNN
  go_enter Tryz.func4, Tryz.ntmps4
  go_wp2
  go_loopw [4, 3] (fun vi vn wr => ∃ i m : Nat, i ≤ N ∧ m ≤ 134217728 ∧ vi = .int .i64 i ∧ vn = .int .i64 m ∧ Hid (r = beyondT (SL.drop i) m) ∧ Below w.heap.size w wr) (fun vi _ _ => ((N : Int) - intOf vi).toNat)
  case atStart => exact ⟨0, 0, Nat.zero_le _, by omega, rfl, rfl, H0, Below.refl _ _⟩
  case round =>
    obtain ⟨i, m, hi, hm, rfl, rfl, HI, hbel⟩ := hrel
    by_cases hlt : i < N
    · obtain ⟨b, off, rfl, hb, h13, hfine⟩ := HST.out i (by rw [HNN.out]; exact hlt)
      have HSi := run.hid (HI.out.trans (HAT.out i m hlt))
      generalize SL.getD i q0 = q at *
      obtain ⟨d, x, y, t, s, rr, qa, row, qc, by0⟩ := q
      obtain ⟨-, -, -, c3, -, -, -, -, -, -, -, c11, -⟩ := h13.of (hbel.block b hb)
      dsimp only at c3 c11 HSi
      have ht := hfine.t
      dsimp only at ht
      have hle := hfine.le
      have hsz2 := hfine.size
      dsimp only at hle hsz2
      have HLG := run.hid (fun (k : Nat) (hk : k ≤ 134217728) => long_any qa qc row k wr (hfine.reads.below (hbel.mono (Nat.le_refl _))) (by omega) (fun c hc => (hfine.fine c hc).1) hk)
      have HLF := run.hid (fun (k : Nat) (hk : k ≤ 134217728) (h : (longT row k).2 = false) => (longT_fits row k h hk).2.2.1)
      clear h13 hfine HST HAT HE H0 HI
      have ht2 : (t.size : Int) ≤ 140737488351232 := by omega
      by_cases hbig : 134217728 < m + 1 + t.size
      · have hbig2 : (134217728 : Int) < (m : Int) + 1 + (t.size : Int) := by omega
        have HF : Hid (r = true) := by show r = _; rw [HSi.out, if_pos hbig]
        clear HSi hbig HLG HLF
        go_wp2
        go_ret
        exact ⟨by rw [HF.out]; try rfl, hbel⟩
      · have hbig2 : (m : Int) + 1 + (t.size : Int) ≤ 134217728 := by omega
        have hSi := HSi.out
        rw [if_neg hbig] at hSi
        have hl := HLG.out (m + 1 + t.size) (by omega)
        have hf := HLF.out (m + 1 + t.size) (by omega)
        rw [show ((m + 1 + t.size : Nat) : Int) = (m : Int) + 1 + (t.size : Int) by omega] at hl
        generalize longT row (m + 1 + t.size) = lt at *
        obtain ⟨k, bo⟩ := lt
        dsimp only at hl hf hSi
        have HL := run.hid hl
        cases bo with
        | true =>
          have HF : Hid (r = true) := by show r = _; rw [hSi, if_pos rfl]
          clear HSi hSi hl hf HLG HLF
          go_wp2_with fail
          refine HL.out.mono ?_
          rintro e w2 ⟨rfl, hb2⟩
          have hbel2 := hbel.trans (hb2.mono hbel.size)
          go_wp2
          go_ret
          exact ⟨by rw [HF.out]; try rfl, hbel2⟩
        | false =>
          have hk := hf rfl
          have HF : Hid (r = beyondT (SL.drop (i + 1)) k) := by show r = _; rw [hSi, if_neg (by simp)]
          clear HSi hSi hl hf HLG HLF
          go_wp2_with fail
          refine HL.out.mono ?_
          rintro e w2 ⟨rfl, hb2⟩
          have hbel2 := hbel.trans (hb2.mono hbel.size)
          go_wp2
          go_roundw
          case rel => exact ⟨i + 1, k, by omega, hk, by go_num, by go_num, HF, hbel2⟩
          case measure => simp [intOf]; omega
    · obtain rfl : i = N := by omega
      have HF : Hid (r = false) := by show r = _; rw [HI.out, HE.out]
      clear HST HAT HE H0 HI
      go_wp2
      go_ret
      exact ⟨by rw [HF.out]; try rfl, hbel⟩
end Go.Proofs.YtdgcfmfjgidbjaaGreat.cel
namespace Go.Proofs.YtdgcfmfjgidbjaaGreat.cel
open Go Go.RowKit Go.Proofs
set_option linter.unusedVariables false
theorem StepsAt.below {w w' : World} {a : Option Addr} {SL : List St} (h : StepsAt w a SL) (hb : Below w.heap.size w w') : StepsAt w' a SL := by
  intro i hi
  obtain ⟨b, off, rfl, hlt, h1, h2⟩ := h i hi
  exact ⟨b, off, rfl, Nat.lt_of_lt_of_le hlt hb.size, h1.of (hb.block b hlt), h2.below hb⟩
/-- what lies ahead of a buffer stays, whatever is done to that -/
theorem Reads5.grown2 {w w' : World} {a : Option Addr} {cap g n : Nat} {L : List CV} (hn : n = L.length) (h : Reads5 w (.slice a n cap) L) (hg : w.grownBy w' (some g)) (hne : ∀ b off, a = some ⟨b, off, none⟩ → b ≠ g) : Reads5 w' (.slice a n cap) L := by
  subst hn
  exact h.grown hg hne
theorem own_slice {X : World} {B n : Nat} {v : Value} {xs : List Value} (h : X.ownsRow B 59 5 v n xs) : ∃ a c, v = .slice a n c ∧ n ≤ c := by
  rcases h.2 with ⟨rfl, h0⟩ | ⟨g3, c3, cur, rfl, -, -, h1, -⟩
  · subst h0; exact ⟨none, 0, rfl, Nat.le_refl _⟩
  · exact ⟨_, _, rfl, h1⟩
end Go.Proofs.YtdgcfmfjgidbjaaGreat.cel
namespace Go.Proofs.YtdgcfmfjgidbjaaGreat.cel
open Go.ChangeShapes Go.WideShapes Go.ChangeAt Go.RowKit Go.Proofs
set_option linter.unusedVariables false
section
variable {H : Type} {enc : TypeId × Value → H} {w : World} {base : Nat} {held : Bool}
set_option maxRecDepth 100000 in
theorem step_within {fuel : Nat} {cs : List Value} {x : DataW H × List MemPlace} (hw : Within Tryz.prog 37 x.1) (h : DataW.trod enc Tryz.prog w base (fun _ => true) held fuel 37 cs = some x) : ∃ q : St, cs = q.cells.toList ∧ q.fine w := by
  obtain ⟨hl, n, hf⟩ := fields_within Tryz.underlying37 hw h
  rw [show Tryz.prog.cellsOf 37 = 13 by kernel_rfl] at hl
  match cs, hl with
  | [c0, c1, c2, c3, c4, c5, c6, c7, c8, c9, c10, c11, c12], _ =>
    obtain ⟨y0, h0, g0⟩ := hf 0 _ rfl
    obtain ⟨y1, h1, g1⟩ := hf 1 _ rfl
    obtain ⟨y2, h2, g2⟩ := hf 2 _ rfl
    obtain ⟨y3, h3, g3⟩ := hf 3 _ rfl
    obtain ⟨y4, h4, g4⟩ := hf 4 _ rfl
    obtain ⟨y5, h5, g5⟩ := hf 5 _ rfl
    obtain ⟨y6, h6, g6⟩ := hf 6 _ rfl
    obtain ⟨y7, h7, g7⟩ := hf 7 _ rfl
    obtain ⟨n0, e0, -, w0⟩ := DataW.trod_int Tryz.underlying3 h0
    obtain ⟨n1, e1, -, w1⟩ := DataW.trod_int Tryz.underlying3 h1
    obtain ⟨n2, e2, -, w2⟩ := DataW.trod_int Tryz.underlying3 h2
    obtain ⟨s3, e3, w3⟩ := string_within Tryz.underlying9 g3 h3
    obtain ⟨s, e4, w4⟩ := trod_sty h4
    obtain ⟨r, e5, w5⟩ := trod_rect h5
    obtain ⟨a, cap, L, e6, r6, z6, l6, m6, k6⟩ := row_within g6 h6
    obtain ⟨n7, e7, -, w7⟩ := DataW.trod_int Tryz.underlying3 h7
    change [c0] = _ at e0
    change [c1] = _ at e1
    change [c2] = _ at e2
    change [c3] = _ at e3
    change [c4, c5, c6] = _ at e4
    change [c7, c8, c9, c10] = _ at e5
    change [c11] = _ at e6
    change [c12] = _ at e7
    simp only [List.cons.injEq, and_true] at e0 e1 e2 e3 e4 e5 e6 e7
    obtain ⟨rfl, rfl, rfl⟩ := e4
    obtain ⟨rfl, rfl, rfl, rfl⟩ := e5
    subst e0 e1 e2 e3 e6 e7
    exact ⟨⟨n0, n1, n2, s3, s, r, a, L, cap, n7⟩, rfl, ⟨wf_i64 w0, wf_i64 w1, wf_i64 w2, wf_i64 w7, w5, w4.1, w3, r6, z6, l6, m6, k6⟩⟩
set_option maxRecDepth 100000 in
theorem script_within {fuel : Nat} {cs : List Value} {x : DataW H × List MemPlace} (hw : Within Tryz.prog 22 x.1) (h : DataW.trod enc Tryz.prog w base (fun _ => true) held fuel 22 cs = some x) :
    ∃ (a : Option Addr) (cap : Nat) (SL : List St), cs = [.slice a SL.length cap] ∧ StepsAt w a SL ∧ SL.length ≤ 140737488355328 := by
  rcases slice_within Tryz.underlying22 hw h with rfl | ⟨a, len, cap, n, rfl, -, hl, hm, hby, hi⟩
  · exact ⟨none, 0, [], rfl, fun i hi => by simp at hi, by simp⟩
  · have hc13 : Tryz.prog.cellsOf 37 = 13 := by kernel_rfl
    rw [hc13] at hi
    have hcell : ∀ i, i < cap → ∃ q : St, q.fine w ∧ ∀ j, j < 13 → w.cell? ((a.add (i * 13)).add j) = q.cells.toList[j]? := by
      intro i hic
      obtain ⟨cs', y, h1, h2, h3⟩ := hi i hic
      obtain ⟨q, rfl, hok⟩ := step_within h3 h2
      obtain ⟨-, -, hc⟩ := World.cells?_some h1
      exact ⟨q, hok, fun j hj => hc j hj⟩
    haveI : Inhabited St := ⟨q0⟩
    obtain ⟨f, hf⟩ := Go.Deep.choose_lt (α := St) hcell
    have hls : ((List.range len).map f).length = len := by simp
    have hb : Tryz.prog.bytesOf 37 = 120 := by kernel_rfl
    rw [hb] at hby
    have hr : reachBytes = 140737488351232 := rfl
    refine ⟨some a, cap, (List.range len).map f, by rw [hls], fun i hi' => ?_, by rw [hls]; omega⟩
    rw [hls] at hi'
    obtain ⟨hfine, hg⟩ := hf i (by omega)
    obtain ⟨b, off, spot⟩ := a
    have z0 := (hf 0 (by omega)).2 0 (by omega)
    have hspot : spot = none := by simpa [Addr.add] using World.cell?_spot (z0.trans rfl)
    subst hspot
    simp only [run.add_none] at hg
    have k0 := hg 0 (by omega)
    have hget : ((List.range len).map f).getD i q0 = f i := by simp [List.getD_eq_getElem?_getD, hi']
    rw [hget]
    exact ⟨b, off, rfl, run.lt_of_cell (k0.trans rfl), ⟨hg 0 (by omega), hg 1 (by omega), hg 2 (by omega), hg 3 (by omega), hg 4 (by omega), hg 5 (by omega), hg 6 (by omega), hg 7 (by omega), hg 8 (by omega), hg 9 (by omega), hg 10 (by omega), hg 11 (by omega), hg 12 (by omega)⟩, hfine⟩
set_option maxRecDepth 100000 in
theorem open_scene {v : Value} {d : DataW H} {p : List MemPlace} (hw : Within Tryz.prog 24 d) (hv : Value.okWide Tryz.prog w .any base 24 v) (h : DataW.Trod enc Tryz.prog w 0 (fun _ => true) true 24 v d p) :
    ∃ (W0 H0 : Int) (a : Option Addr) (cap : Nat) (SL : List St), v = .agg #[.int .i64 W0, .int .i64 H0, .slice a SL.length cap] ∧ StepsAt w a SL ∧ SL.length ≤ 140737488355328 := by
  obtain ⟨cs, rfl, -⟩ := okWide_struct Tryz.underlying24 hv
  obtain ⟨fuel, hf⟩ := h
  obtain ⟨hl, n, hf⟩ := fields_within Tryz.underlying24 hw hf
  rw [show Tryz.prog.cellsOf 24 = 3 by kernel_rfl] at hl
  change cs.toList.length = 3 at hl
  change ∀ (i : Nat) (f : Field), _ → ∃ y, DataW.trod enc Tryz.prog w 0 (fun _ => true) true n f.type ((cs.toList.drop f.offset).take _) = some y ∧ _ at hf
  obtain ⟨l, hll⟩ : ∃ l, l = cs.toList := ⟨_, rfl⟩
  rw [← hll] at hl hf
  match l, hl with
  | [c0, c1, c2], _ =>
    obtain ⟨y0, h0, g0⟩ := hf 0 _ rfl
    obtain ⟨y1, h1, g1⟩ := hf 1 _ rfl
    obtain ⟨y2, h2, g2⟩ := hf 2 _ rfl
    obtain ⟨n0, e0, -, w0⟩ := DataW.trod_int Tryz.underlying3 h0
    obtain ⟨n1, e1, -, w1⟩ := DataW.trod_int Tryz.underlying3 h1
    obtain ⟨a, cap, SL, e2, r2, l2⟩ := script_within g2 h2
    change [c0] = _ at e0
    change [c1] = _ at e1
    change [c2] = _ at e2
    simp only [List.cons.injEq, and_true] at e0 e1 e2
    subst e0 e1 e2
    refine ⟨n0, n1, a, cap, SL, ?_, r2, l2⟩
    congr 1
    exact Array.toList_inj.1 hll.symm
end
end Go.Proofs.YtdgcfmfjgidbjaaGreat.cel
