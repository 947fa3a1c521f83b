/-
  An editor in memory (Ed), and its turn: clusters put in the place of others.
-/
import Derived.Test.YtgfjaegjkklcpaaEdNew
namespace Go.Proofs.Ytgfjaegjkklcpaa.ed
open Go Go.RowKit Go.Proofs
set_option linter.unusedVariables false
/-- an editor's line and carets: its box b, its gap g, the gap's row lb -/
structure Ed (b g lb : Nat) (F : List TV) (ca an : Int) (sv : Value) (dn : Int) (w : World) : Prop where
  box : w.heap[b]? = some (.cells #[.pointer (some ⟨g, 0, none⟩), .int .i64 ca, .int .i64 an, sv, .int .i64 dn] 80 (0, 0))
  gap : ∃ n cap f u A, edC.G g lb n cap f u A w ∧ HasC (n * 2) (f * 2) (u * 2) A (cellsT F) ∧ n ≤ 1099511627776 ∧ f + (n - u) = F.length
  bg : b ≠ g
  bl : b ≠ lb
theorem Ed.kept {b g lb : Nat} {F : List TV} {ca an : Int} {sv : Value} {dn : Int} {S : Nat → Prop} {w w' : World} (h : Ed b g lb F ca an sv dn w) (hk : Kept S w w') (h1 : ¬ S b) (h2 : ¬ S g) (h3 : ¬ S lb) : Ed b g lb F ca an sv dn w' := by
  obtain ⟨n, cap, f, u, A, hG, hr⟩ := h.gap
  exact ⟨(hk.block b (Array.getElem?_eq_some_iff.1 h.box).1 h1).trans h.box, ⟨n, cap, f, u, A, hG.kept hk h2 h3, hr⟩, h.bg, h.bl⟩
set_option maxHeartbeats 1000000 in
theorem caret_any {b g lb : Nat} {F : List TV} {ca an : Int} {sv : Value} {dn : Int} {w : World} (h : Ed b g lb F ca an sv dn w) :
    Calls Try.prog 13 #[.pointer (some ⟨b, 0, none⟩)] w fun e w' => e = .returned (.int .i64 ca) ∧ Same w w' := by
  have c1 := blk_cell h.box 1
  change w.cell? _ = some (.int .i64 ca) at c1
  clear h
  go_enter Try.func13, Try.ntmps13
  go_wp2
  go_ret
  exact ⟨rfl, Same.refl _⟩
theorem caret_nil (w : World) : Calls Try.prog 13 #[.pointer none] w fun e w' => e = .returned (.int .i64 0) ∧ Same w w' := by
  go_enter Try.func13, Try.ntmps13
  go_wp2
  go_ret
  exact ⟨rfl, Same.refl _⟩
set_option maxRecDepth 100000 in
set_option maxHeartbeats 2000000 in
theorem textOf_any {b g lb : Nat} {F : List TV} {ca an : Int} {sv : Value} {dn : Int} {w : World} (h : Ed b g lb F ca an sv dn w) (hT : (textL F).length ≤ 1099511627776) (hF : F.length ≤ 1099511627776) :
    Calls Try.prog 12 #[.pointer (some ⟨b, 0, none⟩)] w fun e w' => e = .returned (.string ⟨(textL F).toArray⟩) ∧ Below w.heap.size w w' := by
  have c0 := blk_cell h.box 0
  change w.cell? _ = some (.pointer (some ⟨g, 0, none⟩)) at c0
  obtain ⟨n, cap, f, u, A, hG, hc, hn, hl⟩ := h.gap
  have HALL := run.hid (edC.all_any hG hc (cellsT_one F) hn)
  rw [hl] at HALL
  have HTX := run.hid (fun (X : World) (a : Option Addr) (cap : Nat) (hS : Src 2 X a F.length cap (cellsT F)) => text_any a cap F X hS hT hF)
  have HTK := run.hid (show F.take F.length = F from List.take_of_length_le (Nat.le_refl _))
  clear h hG hc hl
  generalize hN : F.length = N at *
  have HN := run.hid hN
  clear hN
  go_enter Try.func12, Try.ntmps12
  go_wp2_with fail
  refine HALL.out.mono ?_
  rintro e w1 ⟨v, rfl, hown, hb1⟩
  obtain ⟨a, c, rfl⟩ := run.own_value hown
  have hsr := src_own hown HN.out (Nat.le_refl N)
  rw [HTK.out] at hsr
  have HT := run.hid (HTX.out w1 a c hsr)
  clear HALL HTX hown hsr
  go_wp2_with fail
  refine HT.out.mono ?_
  rintro e w2 ⟨rfl, hb2⟩
  have HF := run.hid (hb1.trans (hb2.mono hb1.size))
  go_wp2
  go_ret
  exact ⟨rfl, HF.out⟩
theorem textOf_nil (w : World) : Calls Try.prog 12 #[.pointer none] w fun e w' => e = .returned (.string ⟨#[]⟩) ∧ Same w w' := by
  go_enter Try.func12, Try.ntmps12
  go_wp2
  go_ret
  exact ⟨rfl, Same.refl _⟩
end Go.Proofs.Ytgfjaegjkklcpaa.ed
