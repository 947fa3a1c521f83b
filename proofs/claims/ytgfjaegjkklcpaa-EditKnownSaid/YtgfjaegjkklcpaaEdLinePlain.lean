/-
  For the law EditLine: views are no wider than they may be.
-/
import Derived.Test.YtgfjaegjkklcpaaEdView
import Derived.Test.YtgfjaegjkklcpaaEdPlay
import Derived.Test.YtgfjaegjkklcpaaCluWidth
namespace Go.Proofs.Ytgfjaegjkklcpaa.ed
open Go Go.RowKit Go.Proofs
set_option linter.unusedVariables false
def sumW (Y : List TV) : Nat := (Y.map (·.2)).sum
theorem lin_width {Y : List TV} (h : wrp.Lin Y) {s : ByteArray} (hs : utf.bs s = wrp.bytesT Y) : clu.width s = sumW Y := by
  obtain ⟨Y0, rfl, h1, h2, h3⟩ := h
  have hr := wrp.lin_runes (Z0 := []) (s := s) h3 (fun _ h => (by cases h)) (by rw [hs]; simp [wrp.bytesT, clu.seen])
  rw [List.flatten_nil, List.append_nil] at hr
  unfold clu.width
  rw [hr, clu.cl_chn h1]
  unfold clu.wsum sumW clu.seen
  rw [List.map_map]
  rfl
theorem fore_sum (F : List TV) : ∀ f s left, s + f ≤ F.length → sumW ((F.drop s).take (foreT F f s left - s)) ≤ left
  | 0, s, left, _ => by
    show sumW ((F.drop s).take (s - s)) ≤ left
    rw [Nat.sub_self, List.take_zero]
    exact Nat.zero_le _
  | f + 1, s, left, h => by
    unfold foreT
    split
    · rw [Nat.sub_self, List.take_zero]
      exact Nat.zero_le _
    · rename_i hw
      have ih := fore_sum F f (s + 1) (left - wd F s) (by omega)
      have hle := (foreT_le F f (s + 1) (left - wd F s)).1
      rw [show foreT F f (s + 1) (left - wd F s) - s = foreT F f (s + 1) (left - wd F s) - (s + 1) + 1 by omega]
      rw [List.drop_eq_getElem_cons (show s < F.length by omega), List.take_succ_cons]
      have e : sumW (F[s] :: (F.drop (s + 1)).take (foreT F f (s + 1) (left - wd F s) - (s + 1))) = wd F s + sumW ((F.drop (s + 1)).take (foreT F f (s + 1) (left - wd F s) - (s + 1))) := by
        unfold sumW
        rw [List.map_cons, List.sum_cons]
        congr 1
        unfold wd
        simp [List.getD_eq_getElem?_getD, show s < F.length by omega]
      rw [e]
      omega
/-- what a View tells is no wider than it may be -/
theorem view_fits {F : List TV} (h : wrp.Lin F) {ca : Nat} (hc : ca ≤ F.length) (x : Int) : ∃ n : Nat, min (max x 0) 4096 = (n : Int) ∧ clu.width (viewT F ca x).1 ≤ n ∧ ((viewT F ca x).2 < n ∨ n = 0 ∧ (viewT F ca x).2 = 0) := by
  unfold viewT
  split
  · refine ⟨0, by omega, ?_, .inr ⟨rfl, rfl⟩⟩
    have e : clu.width (⟨#[]⟩ : ByteArray) = 0 := by decide +kernel
    rw [e]
    exact Nat.le_refl _
  · refine ⟨(min x 4096).toNat, by omega, ?_, .inl ?_⟩
    · have hb := (backT_le F (min x 4096).toNat ca 0).1
      have hY := (h.drop (backT F (min x 4096).toNat ca 0).1).take (foreT F (F.length - (backT F (min x 4096).toNat ca 0).1) (backT F (min x 4096).toNat ca 0).1 (min x 4096).toNat - (backT F (min x 4096).toNat ca 0).1)
      show clu.width (textB _) ≤ _
      rw [lin_width hY (bs_textB _)]
      exact fore_sum F _ _ _ (by omega)
    · have hb := (backT_le F (min x 4096).toNat ca 0).2 (Nat.zero_le _)
      show (backT F (min x 4096).toNat ca 0).2 < _
      omega
theorem view_l {B b : Nat} {s : Sta} {w : World} (h : EdL B b s w) (ok : EdOk s) (x : Int) :
    Calls Try.prog 27 #[.pointer (some ⟨b, 0, none⟩), .int .i64 x] w fun e w' => e = .returned (.tuple #[.string (viewT s.F s.ca x).1, .int .i64 ((viewT s.F s.ca x).2 : Nat)]) ∧ Below w.heap.size w w' := by
  obtain ⟨S, g, lb, ⟨⟨sv, hE, -⟩, -, -, -⟩, -⟩ := h
  exact viewW_any hE x ok.h.ca ok.h.len ok.h.size (lin_wd ok.h.lin)
theorem mk_ca (an : Int) (ca : Nat) : ca = (mkT an ca).1 ∨ ca = (mkT an ca).2 := by
  unfold mkT
  split
  · exact .inl rfl
  · dsimp only
    omega
theorem new_self {F : List TV} {ca : Nat} (h : Held F ca) : newT (textB F) = F := by
  have hl : lineT (textB F) = F := h.lin.line (bs_textB F)
  unfold newT
  rw [hl]
  have := cutL_at F 0 F.length (Nat.le_refl _) (fun j _ => by have := textL_le F j; have h2 := h.size; unfold sizeL at h2 ⊢; omega) (.inl rfl)
  rw [this, List.take_of_length_le (Nat.le_refl _)]
theorem view_size {F : List TV} (hs : sizeL F ≤ 65536) (ca : Nat) (x : Int) : (viewT F ca x).1.size ≤ 65536 := by
  unfold viewT
  split
  · show (0 : Nat) ≤ 65536; omega
  · show (textL ((F.drop _).take _)).length ≤ 65536
    have h1 : ∀ a m, (textL ((F.drop a).take m)).length ≤ (textL F).length := by
      intro a m
      have h2 := textL_le (F.drop a) m
      have h3 : textL F = textL (F.take a) ++ textL (F.drop a) := by unfold textL; rw [← List.flatMap_append, List.take_append_drop]
      have h4 := congrArg List.length h3
      rw [List.length_append] at h4
      omega
    have := h1 (backT F (min x 4096).toNat ca 0).1 (foreT F (F.length - (backT F (min x 4096).toNat ca 0).1) (backT F (min x 4096).toNat ca 0).1 (min x 4096).toNat - (backT F (min x 4096).toNat ca 0).1)
    unfold sizeL at hs
    omega
end Go.Proofs.Ytgfjaegjkklcpaa.ed
