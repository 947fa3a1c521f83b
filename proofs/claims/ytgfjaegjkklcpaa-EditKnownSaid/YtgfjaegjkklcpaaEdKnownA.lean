/-
  For the chapter's examples: letters made, editors beside each other, for use.
-/
import Derived.Test.YtgfjaegjkklcpaaEdMany
import Derived.Test.YtgfjaegjkklcpaaEdGapM
import Derived.Test.YtgfjaegjkklcpaaEdLinePlain
import Derived.Deep.OwnRows
namespace Go.Proofs.Ytgfjaegjkklcpaa.ed
open Go Go.RowKit Go.Proofs
set_option linter.unusedVariables false
theorem own_of_rowIs {w : World} {B g n : Nat} {t : TypeId} {f : Nat → Value} (h : w.rowIs g t n f) (hB : B ≤ g) (hn : n ≤ maxLen) : w.ownsRow B t 1 (.slice (some ⟨g, 0, none⟩) n n) n ((List.range n).map f) := by
  obtain ⟨c, hb, hs, hc⟩ := h
  refine ⟨by simp, .inr ⟨g, n, c, rfl, hB, hb, Nat.le_refl _, hn, by omega, ?_⟩⟩
  apply List.ext_getElem?
  intro i
  rw [Nat.mul_one, List.take_of_length_le (by simp; omega)]
  rcases Nat.lt_or_ge i n with hi | hi
  · rw [Array.getElem?_toList, hc i hi]; simp [hi]
  · rw [List.getElem?_eq_none (by simp; omega), List.getElem?_eq_none (by simp; omega)]
theorem info_u8 : (Try.prog.info? 5).map (fun i => (i.zero, i.size, i.bytes)) = some (some (.int .u8 0), 1, 1) := by kernel_rfl
def lets (i : Nat) : Nat → Value := fun j => .int .u8 (if j < i then 120 else 0)
set_option maxRecDepth 100000 in
set_option maxHeartbeats 2000000 in
theorem make20_any (n : Nat) (hn : n ≤ 65536) (w : World) : Calls Try.prog 36 #[.int .i64 (n : Nat)] w fun e w' => ∃ v, e = .returned v ∧ w'.ownsRow w.heap.size 5 1 v n (utf.bv (List.replicate n 120)) ∧ Below w.heap.size w w' := by
  have hmk := run_make_row' (P := Try.prog) 68 5 (.int .u8 0) 1 Try.underlying68 info_u8 rfl .i64 .i64 n (by omega) (by omega) w
  have HR := run.hid (World.rowIs_made w (.int .u8 0) n 5)
  have HB := run.hid (run.below_one w (.cells (madeCells #[.int .u8 0] n) 5))
  have HFI := run.hid (fun (X : World) (r : Nat) (h : X.rowIs r 5 n (lets n)) (hr : w.heap.size ≤ r) => show X.ownsRow w.heap.size 5 1 (.slice (some ⟨r, 0, none⟩) n n) n (utf.bv (List.replicate n 120)) from by
    have := own_of_rowIs h hr (by unfold maxLen; omega)
    have e : (List.range n).map (lets n) = utf.bv (List.replicate n 120) := by
      unfold utf.bv
      rw [List.map_replicate]
      apply List.ext_getElem?
      intro i
      by_cases hi : i < n
      · rw [List.getElem?_map, List.getElem?_range hi, List.getElem?_replicate, if_pos hi]
        show some (lets n i) = _
        unfold lets
        rw [if_pos hi]
        rfl
      · rw [List.getElem?_eq_none (by simp; omega), List.getElem?_eq_none (by simp; omega)]
    rw [e] at this
    exact this)
  go_enter Try.func36, Try.ntmps36
  go_upto_region 2 with fail
  clear hmk
  generalize w.alloc (.cells (madeCells #[.int .u8 0] n) 5) = w1 at *
  generalize hr : w.heap.size = r at *
  go_wp2
  go_loopw [9] (fun vi wr => ∃ i : Nat, i ≤ n ∧ vi = .int .i64 i ∧ wr.rowIs r 5 n (lets i) ∧ Below r w wr) (fun vi _ => ((n : Int) - intOf vi).toNat)
  case atStart => exact ⟨0, Nat.zero_le _, rfl, HR.out.congr (fun j _ => by unfold lets; simp), HB.out⟩
  case round =>
    obtain ⟨i, hi, rfl, hrow, hbel⟩ := hrel
    by_cases hlt : i < n
    · have x0 := hrow.cell hlt
      have f0 := hrow.frozen i
      have HN := run.hid (show (wr.setCell ⟨r, i, none⟩ (.int .u8 120)).rowIs r 5 n (lets (i + 1)) from (hrow.set i _).congr fun j _ => by
        by_cases e : j = i
        · subst e; rw [if_pos rfl]; unfold lets; rw [if_pos (by omega)]
        · rw [if_neg e]; unfold lets
          by_cases h1 : j < i
          · rw [if_pos h1, if_pos (by omega)]
          · rw [if_neg h1, if_neg (by omega)])
      have HBL := run.hid (hbel.setCell (p := ⟨r, i, none⟩) (Nat.le_refl _) (.int .u8 120))
      clear hrow hbel HR HB HFI
      go_wp2
      go_roundw
      case rel => exact ⟨i + 1, by omega, by go_num, HN.out, HBL.out⟩
      case measure => simp [intOf]; omega
    · obtain rfl : i = n := by omega
      have HF := run.hid (And.intro (HFI.out wr r hrow (by omega)) hbel)
      clear hrow hbel HR HB HFI
      go_wp2
      go_ret
      exact ⟨_, rfl, by rw [hr]; exact HF.out.1, by rw [hr]; exact HF.out.2⟩
/-! THE METHODS, OF ONE EDITOR AMONG SEVERAL -/
section
variable {B : Nat} {l : List (Nat × Sta)} {w : World} {i b : Nat} {s : Sta}
theorem Eds.go (h : Eds B l w) (hB : B ≤ w.heap.size) (hi : l[i]? = some (b, s)) (ok : EdOk s) (way : Int) (m : Bool) : Calls Try.prog 28 #[.pointer (some ⟨b, 0, none⟩), .int .i64 way, .bool m] w fun e w' => e = .returned (.bool (goT s way m).1) ∧ Eds B (l.set i (b, (goT s way m).2)) w' ∧ Below B w w' :=
  h.call hB hi fun S g lb hE hl => go_any hE way m ok.h.ca (by have := ok.h.len; omega)
theorem Eds.ins (h : Eds B l w) (hB : B ≤ w.heap.size) (hi : l[i]? = some (b, s)) (ok : EdOk s) (t : ByteArray) (ht : t.size ≤ 1073741824) : Calls Try.prog 10 #[.pointer (some ⟨b, 0, none⟩), .string t] w fun e w' => e = .returned (.bool (insT s t).1) ∧ Eds B (l.set i (b, (insT s t).2)) w' ∧ Below B w w' :=
  h.call hB hi fun S g lb hE hl => insert_any hE t ht hl ok.h.len ok.h.size ok.h.ca ok.an.2 ok.dn (by have := ok.ln; have := ok.dn; omega)
theorem Eds.del (h : Eds B l w) (hB : B ≤ w.heap.size) (hi : l[i]? = some (b, s)) (ok : EdOk s) (way : Int) : Calls Try.prog 29 #[.pointer (some ⟨b, 0, none⟩), .int .i64 way] w fun e w' => e = .returned (.bool (delT s way).1) ∧ Eds B (l.set i (b, (delT s way).2)) w' ∧ Below B w w' :=
  h.call hB hi fun S g lb hE hl => delete_any hE way hl ok.h.lin ok.h.size ok.h.ca ok.an.2 ok.dn (by have := ok.ln; have := ok.dn; omega)
theorem undo_s {S : Nat → Prop} {g lb : Nat} (hE : EdS S b g lb s w) (ok : EdOk s) : Calls Try.prog 11 #[.pointer (some ⟨b, 0, none⟩)] w fun e w' => e = .returned (.bool (undoT s).1) ∧ After S b g lb (undoT s).2 w w' := by
  obtain ⟨F, ca, an, L, dn⟩ := s
  have h2 := ok.dn
  have h3 := ok.ln
  dsimp only at h2 h3
  cases dn with
  | zero => exact undo_none hE
  | succ n =>
    have hx : L[n]? = some L[n] := List.getElem?_eq_getElem (by omega)
    have hs := ok.st n _ hx
    have e : undoT ⟨F, ca, an, L, n + 1⟩ = (true, ⟨(L[n]).bef, (L[n]).ahead, -1, L, n⟩) := by
      unfold undoT
      dsimp only
      rw [hx]
    rw [e]
    have l1 := hs.1.len
    have l2 := hs.2.len
    exact undo_any hE _ hx (ok.back n _ rfl hx) (by omega) (by omega) (by omega)
theorem redo_s {S : Nat → Prop} {g lb : Nat} (hE : EdS S b g lb s w) (ok : EdOk s) : Calls Try.prog 25 #[.pointer (some ⟨b, 0, none⟩)] w fun e w' => e = .returned (.bool (redoT s).1) ∧ After S b g lb (redoT s).2 w w' := by
  obtain ⟨F, ca, an, L, dn⟩ := s
  have h2 := ok.dn
  have h3 := ok.ln
  dsimp only at h2 h3
  rcases Nat.lt_or_ge dn L.length with hlt | hge
  · have hx : L[dn]? = some L[dn] := List.getElem?_eq_getElem hlt
    have hs := ok.st dn _ hx
    have e : redoT ⟨F, ca, an, L, dn⟩ = (true, ⟨(L[dn]).aft, (L[dn]).after, -1, L, dn + 1⟩) := by
      unfold redoT
      dsimp only
      rw [hx]
    rw [e]
    have l1 := hs.1.len
    have l2 := hs.2.len
    exact redo_any hE _ hx (ok.fore _ hx) (by omega) (by omega) (by omega)
  · obtain rfl : dn = L.length := by omega
    have e : redoT ⟨F, ca, an, L, L.length⟩ = (false, ⟨F, ca, an, L, L.length⟩) := by
      unfold redoT
      dsimp only
      rw [List.getElem?_eq_none (Nat.le_refl _)]
    rw [e]
    exact redo_none hE
theorem Eds.undo (h : Eds B l w) (hB : B ≤ w.heap.size) (hi : l[i]? = some (b, s)) (ok : EdOk s) : Calls Try.prog 11 #[.pointer (some ⟨b, 0, none⟩)] w fun e w' => e = .returned (.bool (undoT s).1) ∧ Eds B (l.set i (b, (undoT s).2)) w' ∧ Below B w w' :=
  h.call hB hi fun S g lb hE hl => undo_s hE ok
theorem Eds.redo (h : Eds B l w) (hB : B ≤ w.heap.size) (hi : l[i]? = some (b, s)) (ok : EdOk s) : Calls Try.prog 25 #[.pointer (some ⟨b, 0, none⟩)] w fun e w' => e = .returned (.bool (redoT s).1) ∧ Eds B (l.set i (b, (redoT s).2)) w' ∧ Below B w w' :=
  h.call hB hi fun S g lb hE hl => redo_s hE ok
/-- editors that nothing has been done to, beside what else is turned -/
theorem Eds.fresh (h : Eds B l w) (hL : ∀ (i : Nat) (q : Nat × Sta), l[i]? = some q → q.2.L = []) {X : World} (hk : Kept (fun k => k < B ∨ w.heap.size ≤ k) w X) : Eds B l X := by
  obtain ⟨S, es, h, rfl⟩ := h
  have hsz := hk.size
  refine ⟨S, es, ⟨fun i e he => ?_, h.far, fun k hk' => by have := h.lt k hk'; omega⟩, rfl⟩
  obtain ⟨⟨sv, hE, hS⟩, sb, sg, sl⟩ := h.ed i e he
  have hLe : e.s.L = [] := hL i (e.b, e.s) (by rw [List.getElem?_map, he]; rfl)
  have b1 := h.lt _ sb
  have b2 := h.lt _ sg
  have b3 := h.lt _ sl
  refine ⟨⟨sv, hE.kept hk (by omega) (by omega) (by omega), ?_⟩, sb, sg, sl⟩
  obtain ⟨a, cap, e1, e2, e3⟩ := hS
  refine ⟨a, cap, e1, e2, ?_⟩
  rcases e3 with e3 | ⟨k, off, e4, e5, e6, -⟩
  · exact .inl e3
  · exact .inr ⟨k, off, e4, by omega, e6, fun j x hj => by rw [hLe] at hj; simp at hj⟩
end
end Go.Proofs.Ytgfjaegjkklcpaa.ed
