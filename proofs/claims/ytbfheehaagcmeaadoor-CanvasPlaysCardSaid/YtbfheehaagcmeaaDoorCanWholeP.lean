/-
  The plain law of CanvasWhole: a row's characters stand alone, one wide.
-/
import Derived.Test.YtbfheehaagcmeaaDoorCanRoundP
import Derived.Test.YtbfheehaagcmeaaDoorCanTellA
import Derived.Test.YtbfheehaagcmeaaDoorCanCircs
namespace Go.Proofs.YtbfheehaagcmeaaDoor.can
open Go.RowKit Go.Proofs
set_option linter.unusedVariables false

theorem glyph_facts : ∀ c : Nat, c < 256 → wid.kind (glyphC c) = 9 ∧ utf.bs (Utf8.encode (glyphC c)) = utf.put (glyphC c) ∧ utf.fix (glyphC c) = glyphC c := by
  have h : ∀ c ∈ List.range 256, wid.kind (glyphC c) = 9 ∧ utf.bs (Utf8.encode (glyphC c)) = utf.put (glyphC c) ∧ utf.fix (glyphC c) = glyphC c := by decide +kernel
  exact fun c hc => h c (by simpa using hc)
theorem cellByte_lt (S : Int → Int → Bool) (x y : Nat) : cellByte S x y < 256 := by
  show partB S x y 8 < 256
  simp only [partB_succ, show partB S x y 0 = 0 from rfl]
  have e : ∀ (p : Bool) (k : Nat), (if p = true then bitv k else 0) ≤ bitv k := fun p k => by split <;> omega
  have h0 := e (S ((2 * x + 0 / 4 : Nat) : Int) ((4 * y + 0 % 4 : Nat) : Int)) 0
  have h1 := e (S ((2 * x + 1 / 4 : Nat) : Int) ((4 * y + 1 % 4 : Nat) : Int)) 1
  have h2 := e (S ((2 * x + 2 / 4 : Nat) : Int) ((4 * y + 2 % 4 : Nat) : Int)) 2
  have h3 := e (S ((2 * x + 3 / 4 : Nat) : Int) ((4 * y + 3 % 4 : Nat) : Int)) 3
  have h4 := e (S ((2 * x + 4 / 4 : Nat) : Int) ((4 * y + 4 % 4 : Nat) : Int)) 4
  have h5 := e (S ((2 * x + 5 / 4 : Nat) : Int) ((4 * y + 5 % 4 : Nat) : Int)) 5
  have h6 := e (S ((2 * x + 6 / 4 : Nat) : Int) ((4 * y + 6 % 4 : Nat) : Int)) 6
  have h7 := e (S ((2 * x + 7 / 4 : Nat) : Int) ((4 * y + 7 % 4 : Nat) : Int)) 7
  have b0 : bitv 0 = 1 := rfl
  have b1 : bitv 1 = 2 := rfl
  have b2 : bitv 2 = 4 := rfl
  have b3 : bitv 3 = 64 := rfl
  have b4 : bitv 4 = 8 := rfl
  have b5 : bitv 5 = 16 := rfl
  have b6 : bitv 6 = 32 := rfl
  have b7 : bitv 7 = 128 := rfl
  omega
def glyphs (S : Int → Int → Bool) (W y : Nat) : List Int := (List.range W).map fun x => glyphC (cellByte S x y)
theorem glyphs_length (S : Int → Int → Bool) (W y : Nat) : (glyphs S W y).length = W := by simp [glyphs]
theorem glyphs_get (S : Int → Int → Bool) (W y : Nat) {x : Nat} (hx : x < W) : (glyphs S W y).getD x 0 = glyphC (cellByte S x y) := by simp [glyphs, List.getD_eq_getElem?_getD, hx]
theorem glyphs_all (S : Int → Int → Bool) (W y : Nat) : ∀ c ∈ glyphs S W y, wid.kind c = 9 ∧ utf.bs (Utf8.encode c) = utf.put c ∧ utf.fix c = c := by
  intro c hc
  obtain ⟨x, -, rfl⟩ := List.mem_map.1 hc
  exact glyph_facts _ (cellByte_lt S x y)
theorem bs_foldG : ∀ (l : List Int) (s : ByteArray), (∀ c ∈ l, utf.bs (Utf8.encode c) = utf.put c) → utf.bs (l.foldl (fun r n => r ++ Utf8.encode n) s) = utf.bs s ++ utf.text l
  | [], s, _ => by simp [utf.text]
  | c :: t, s, h => by
    rw [List.foldl_cons, bs_foldG t _ (fun x hx => h x (List.mem_cons_of_mem _ hx)), bs_app, h c (by simp), utf.text_cons, List.append_assoc]
theorem row_runes (S : Int → Int → Bool) (W y : Nat) : utf.runes (utf.bs (rowS S W y)) = glyphs S W y := by
  have e : utf.bs (rowS S W y) = utf.text (glyphs S W y) := by
    show utf.bs ((glyphs S W y).foldl (fun r n => r ++ Utf8.encode n) ByteArray.empty) = _
    rw [bs_foldG _ _ (fun c hc => (glyphs_all S W y c hc).2.1)]
    rfl
  rw [e, utf.runes_text]
  conv => rhs; rw [← List.map_id (glyphs S W y)]
  exact List.map_congr_left fun c hc => (glyphs_all S W y c hc).2.2
theorem row_width (S : Int → Int → Bool) (W y : Nat) : clu.width (rowS S W y) = W := by
  unfold clu.width
  rw [row_runes, lone_wsum _ (fun c hc => (glyphs_all S W y c hc).1), glyphs_length]
theorem row_size (S : Int → Int → Bool) (W y : Nat) : (rowS S W y).size ≤ 4 * W := by
  have := runesBytes_size_le (glyphs S W y)
  rw [glyphs_length] at this
  show (runesBytes (glyphs S W y)).size ≤ _
  omega
theorem plots_keep (S : Int → Int → Bool) (l : List (Int × Int)) {a b : Int} (h : S a b = true) : plots S l a b = true := by rw [plots_eq, h, Bool.true_or]
theorem plot_keep (S : Int → Int → Bool) (x y : Int) {a b : Int} (h : S a b = true) : plot S x y a b = true := by unfold plot; rw [h, Bool.true_or]
theorem plot_here (S : Int → Int → Bool) (x y : Int) : plot S x y x y = true := by unfold plot; simp
end Go.Proofs.YtbfheehaagcmeaaDoor.can
