/-
  The editor's methods, for use: an editor whose blocks lie behind B.
-/
import Derived.Test.YtgfjaegjkklcpaaEdGood
namespace Go.Proofs.Ytgfjaegjkklcpaa.ed
open Go Go.RowKit Go.Proofs
set_option linter.unusedVariables false
def EdL (B b : Nat) (s : Sta) (w : World) : Prop := ∃ S g lb, EdS S b g lb s w ∧ ∀ k, S k → k < w.heap.size ∧ B ≤ k
theorem edL_after {B : Nat} {S : Nat → Prop} {b g lb : Nat} {s s' : Sta} {w w' : World} (h : EdS S b g lb s w) (hS : ∀ k, S k → k < w.heap.size ∧ B ≤ k) (hB : B ≤ w.heap.size) (ha : After S b g lb s' w w') : EdL B b s' w' ∧ Below B w w' := by
  obtain ⟨lb', hE, hlb, hk⟩ := ha
  have hsz := hk.size
  have hlt : lb' < w'.heap.size := by
    obtain ⟨sv, hEd, -⟩ := hE.ed
    obtain ⟨n, cap, f, u, A, hG, -⟩ := hEd.gap
    exact (Array.getElem?_eq_some_iff.1 hG.hl).1
  refine ⟨⟨_, g, lb', hE, fun k hk' => ?_⟩, hk.below hB (fun k _ ho => (hS k (h.own k ho)).2)⟩
  rcases hk' with h1 | rfl
  · have := hS k h1; omega
  · rcases hlb with rfl | h1
    · exact ⟨hlt, (hS _ h.sl).2⟩
    · exact ⟨hlt, by omega⟩
theorem EdL.below {B b : Nat} {s : Sta} {w w' : World} (h : EdL B b s w) (hb : Below w.heap.size w w') : EdL B b s w' := by
  obtain ⟨S, g, lb, hE, hS⟩ := h
  exact ⟨S, g, lb, EdS.below hE hb, fun k hk => by have := hS k hk; have := hb.size; omega⟩
theorem new_l (t : ByteArray) (w : World) (ht : t.size ≤ 68719476736) : Calls Try.prog 9 #[.string t] w fun e w' => ∃ b, e = .returned (.pointer (some ⟨b, 0, none⟩)) ∧ EdL w.heap.size b (newE t) w' ∧ Below w.heap.size w w' := by
  have hlen : (newT t).length ≤ 65536 := (held_new t).len
  have HN := new_any t w ht
  unfold NewIs at HN
  have he : newE t = ⟨newT t, (newT t).length, -1, [], 0⟩ := rfl
  rw [he]
  clear he
  generalize newT t = F at *
  refine HN.mono ?_
  rintro e w' ⟨b, g, lb, cap, A, rfl, hbx, hG, hc, hg, hl, hgb, hlb, hbel⟩
  have hblt := (Array.getElem?_eq_some_iff.1 hbx).1
  refine ⟨b, rfl, ⟨Own b g lb, g, lb, ⟨⟨.slice none 0 0, ⟨hbx, ⟨_, _, _, _, A, hG, hc, by omega, ?_⟩, by omega, by omega⟩, ⟨none, 0, rfl, Nat.le_refl _, .inl ⟨rfl, rfl⟩⟩⟩, .inl rfl, .inr (.inl rfl), .inr (.inr rfl)⟩, ?_⟩, hbel⟩
  · show F.length + (F.length - F.length) = F.length
    omega
  · rintro k (rfl | rfl | rfl) <;> omega
theorem ins_l {B b : Nat} {s : Sta} {w : World} (h : EdL B b s w) (ok : EdOk s) (hB : B ≤ w.heap.size) (t : ByteArray) (ht : t.size ≤ 1073741824) :
    Calls Try.prog 10 #[.pointer (some ⟨b, 0, none⟩), .string t] w fun e w' => e = .returned (.bool (insT s t).1) ∧ EdL B b (insT s t).2 w' ∧ Below B w w' := by
  obtain ⟨S, g, lb, hE, hS⟩ := h
  have h1 := ok.ln
  have h2 := ok.dn
  refine (insert_any hE t ht (fun k hk => (hS k hk).1) ok.h.len ok.h.size ok.h.ca ok.an.2 ok.dn (by omega)).mono ?_
  rintro e w' ⟨rfl, ha⟩
  exact ⟨rfl, edL_after hE hS hB ha⟩
theorem del_l {B b : Nat} {s : Sta} {w : World} (h : EdL B b s w) (ok : EdOk s) (hB : B ≤ w.heap.size) (way : Int) :
    Calls Try.prog 29 #[.pointer (some ⟨b, 0, none⟩), .int .i64 way] w fun e w' => e = .returned (.bool (delT s way).1) ∧ EdL B b (delT s way).2 w' ∧ Below B w w' := by
  obtain ⟨S, g, lb, hE, hS⟩ := h
  have h1 := ok.ln
  have h2 := ok.dn
  refine (delete_any hE way (fun k hk => (hS k hk).1) ok.h.lin ok.h.size ok.h.ca ok.an.2 ok.dn (by omega)).mono ?_
  rintro e w' ⟨rfl, ha⟩
  exact ⟨rfl, edL_after hE hS hB ha⟩
theorem go_l {B b : Nat} {s : Sta} {w : World} (h : EdL B b s w) (ok : EdOk s) (hB : B ≤ w.heap.size) (way : Int) (m : Bool) :
    Calls Try.prog 28 #[.pointer (some ⟨b, 0, none⟩), .int .i64 way, .bool m] w fun e w' => e = .returned (.bool (goT s way m).1) ∧ EdL B b (goT s way m).2 w' ∧ Below B w w' := by
  obtain ⟨S, g, lb, hE, hS⟩ := h
  have h1 := ok.h.len
  refine (go_any hE way m ok.h.ca (by omega)).mono ?_
  rintro e w' ⟨rfl, ha⟩
  exact ⟨rfl, edL_after hE hS hB ha⟩
theorem undo_l {B b : Nat} {s : Sta} {w : World} (h : EdL B b s w) (ok : EdOk s) (hB : B ≤ w.heap.size) :
    Calls Try.prog 11 #[.pointer (some ⟨b, 0, none⟩)] w fun e w' => e = .returned (.bool (undoT s).1) ∧ EdL B b (undoT s).2 w' ∧ Below B w w' := by
  obtain ⟨S, g, lb, hE, hS⟩ := h
  obtain ⟨F, ca, an, L, dn⟩ := s
  have h2 := ok.dn
  have h3 := ok.ln
  dsimp only at h2 h3
  cases dn with
  | zero =>
    refine (undo_none hE).mono ?_
    rintro e w' ⟨rfl, ha⟩
    exact ⟨rfl, edL_after hE hS hB ha⟩
  | succ n =>
    have hx : L[n]? = some L[n] := List.getElem?_eq_getElem (by omega)
    have hs := ok.st n _ hx
    have e : undoT ⟨F, ca, an, L, n + 1⟩ = (true, ⟨(L[n]).bef, (L[n]).ahead, -1, L, n⟩) := by
      unfold undoT
      dsimp only
      rw [hx]
    rw [e]
    have l1 := hs.1.len
    have l2 := hs.2.len
    refine (undo_any hE _ hx (ok.back n _ rfl hx) (by omega) (by omega) (by omega)).mono ?_
    rintro e w' ⟨rfl, ha⟩
    exact ⟨rfl, edL_after hE hS hB ha⟩
theorem redo_l {B b : Nat} {s : Sta} {w : World} (h : EdL B b s w) (ok : EdOk s) (hB : B ≤ w.heap.size) :
    Calls Try.prog 25 #[.pointer (some ⟨b, 0, none⟩)] w fun e w' => e = .returned (.bool (redoT s).1) ∧ EdL B b (redoT s).2 w' ∧ Below B w w' := by
  obtain ⟨S, g, lb, hE, hS⟩ := h
  obtain ⟨F, ca, an, L, dn⟩ := s
  have h2 := ok.dn
  have h3 := ok.ln
  dsimp only at h2 h3
  rcases Nat.lt_or_ge dn L.length with hlt | hge
  · have hx : L[dn]? = some L[dn] := List.getElem?_eq_getElem hlt
    have hs := ok.st dn _ hx
    have e : redoT ⟨F, ca, an, L, dn⟩ = (true, ⟨(L[dn]).aft, (L[dn]).after, -1, L, dn + 1⟩) := by
      unfold redoT
      dsimp only
      rw [hx]
    rw [e]
    have l1 := hs.1.len
    have l2 := hs.2.len
    refine (redo_any hE _ hx (ok.fore _ hx) (by omega) (by omega) (by omega)).mono ?_
    rintro e w' ⟨rfl, ha⟩
    exact ⟨rfl, edL_after hE hS hB ha⟩
  · obtain rfl : dn = L.length := by omega
    have e : redoT ⟨F, ca, an, L, L.length⟩ = (false, ⟨F, ca, an, L, L.length⟩) := by
      unfold redoT
      dsimp only
      rw [List.getElem?_eq_none (Nat.le_refl _)]
    rw [e]
    refine (redo_none hE).mono ?_
    rintro e w' ⟨rfl, ha⟩
    exact ⟨rfl, edL_after hE hS hB ha⟩
theorem text_l {B b : Nat} {s : Sta} {w : World} (h : EdL B b s w) (ok : EdOk s) :
    Calls Try.prog 12 #[.pointer (some ⟨b, 0, none⟩)] w fun e w' => e = .returned (.string (textB s.F)) ∧ Below w.heap.size w w' := by
  obtain ⟨S, g, lb, ⟨⟨sv, hE, -⟩, -, -, -⟩, -⟩ := h
  have h1 := ok.h.len
  have h2 := ok.h.size
  exact textOf_any hE (by unfold sizeL at h2; omega) (by omega)
theorem caret_l {B b : Nat} {s : Sta} {w : World} (h : EdL B b s w) : Calls Try.prog 13 #[.pointer (some ⟨b, 0, none⟩)] w fun e w' => e = .returned (.int .i64 (s.ca : Nat)) ∧ Below w.heap.size w w' := by
  obtain ⟨S, g, lb, ⟨⟨sv, hE, -⟩, -, -, -⟩, -⟩ := h
  exact (caret_any hE).mono fun e w' h => ⟨h.1, h.2.below⟩
theorem marked_l {B b : Nat} {s : Sta} {w : World} (h : EdL B b s w) : Calls Try.prog 26 #[.pointer (some ⟨b, 0, none⟩)] w fun e w' => e = .returned (.tuple #[.int .i64 ((mkT s.an s.ca).1 : Nat), .int .i64 ((mkT s.an s.ca).2 : Nat)]) ∧ Below w.heap.size w w' := by
  obtain ⟨S, g, lb, ⟨⟨sv, hE, -⟩, -, -, -⟩, -⟩ := h
  exact (marked_any hE).mono fun e w' h => ⟨h.1, h.2.below⟩
end Go.Proofs.Ytgfjaegjkklcpaa.ed
