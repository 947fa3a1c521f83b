/-
  strings.Builder and strings.Repeat at this program; a builder that stands while other memory is made.
-/
import Derived.Test.YtmjmmoecplndmaaShelf
namespace Go.Proofs.Ytmjmmoecplndmaa.wrp
open Go.RowKit Go.Proofs
set_option linter.unusedVariables false

abbrev Built (B b : Nat) (l : List UInt8) (w : World) : Prop := Lib.IsBuilderF 65 5 B b (Lib.byteCells l) w

theorem built_new (w : World) (B : Nat) (hB : B ≤ w.heap.size) : Built B w.heap.size [] (w.alloc (.cells #[.pointer none, .slice none 0 0] 65)) :=
  Lib.IsBuilderF.of (.inl ⟨hB, .slice none 0 0, heap_alloc_new w _, World.ownsRow_nil _ _ _ _, by simp [Value.ownBlock]⟩)

theorem write_any (B b : Nat) (l : List UInt8) (s : ByteArray) (w : World) (h : Built B b l w) (hlen : l.length + s.size ≤ 140737488355328) (hB : B ≤ w.heap.size) :
    Calls Try.prog 28 #[.pointer (some ⟨b, 0, none⟩), .string s] w fun e w' => e = .returned (.tuple #[.int .i64 s.size, .nilIface]) ∧ Built B b (l ++ s.data.toList) w' ∧ Below B w w' :=
  (Any.Builder_WriteString_k { Try.lays105 with } Try.Builder_Extra_105 B b (Lib.byteCells l) s w h (by rw [Lib.byteCells_length]; exact hlen) hB).mono fun e w' ⟨he, h1, h2, _⟩ =>
    ⟨he, .inr (by rw [Lib.byteCells_append]; exact h1), h2⟩

theorem builtAt_below {T e : TypeId} {B b : Nat} {p : Value} {bs : List Value} {W W' : World} (h : Lib.BuilderAtF T e B b p bs W) (hb : Below W.heap.size W W') : Lib.BuilderAtF T e B b p bs W' := by
  have hlt := h.lt
  obtain ⟨hB, v, hv, hown, hne⟩ := h
  refine ⟨hB, v, (hb.block b hlt).trans hv, ?_, hne⟩
  exact hown.kept (row := none) ⟨hb.os, hb.tape, hb.output, hb.size, fun k hk _ => hb.block k hk⟩ (Classical.em _)
/-- a builder stands where nothing that was there turns -/
theorem built_below {B b : Nat} {l : List UInt8} {W W' : World} (h : Built B b l W) (hb : Below W.heap.size W W') : Built B b l W' := by
  rcases h with h | h
  · exact .inl (builtAt_below h hb)
  · exact .inr (builtAt_below h hb)
theorem write_kept (B b : Nat) (l : List UInt8) (s : ByteArray) (w : World) (h : Built B b l w) (hlen : l.length + s.size ≤ 140737488355328) (hB : B ≤ w.heap.size) :
    Calls Try.prog 28 #[.pointer (some ⟨b, 0, none⟩), .string s] w fun e w' => e = .returned (.tuple #[.int .i64 s.size, .nilIface]) ∧ Built B b (l ++ s.data.toList) w' ∧ Below B w w' ∧ Lib.OthersKept 5 (some b) w w' :=
  (Any.Builder_WriteString_k { Try.lays105 with } Try.Builder_Extra_105 B b (Lib.byteCells l) s w h (by rw [Lib.byteCells_length]; exact hlen) hB).mono fun e w' ⟨he, h1, h2, h3⟩ =>
    ⟨he, .inr (by rw [Lib.byteCells_append]; exact h1), h2, h3⟩
/-- two cells of a block of another type than bytes stand while a builder is written -/
theorem kept_two {b k : Nat} {w w' : World} {x y : Value} {t : TypeId} (h : Lib.OthersKept 5 (some b) w w') (hk : w.heap[k]? = some (.cells #[x, y] t (0, 0))) (hne : k ≠ b) (ht : t ≠ 5) : w'.cell? ⟨k, 0, none⟩ = some x ∧ w'.cell? ⟨k, 1, none⟩ = some y := by
  have h2 := h k _ hk (fun e => hne (by simpa using e)) (fun c fz e => by simp only [Obj.cells.injEq] at e; exact ht e.2.1)
  constructor <;> simp [World.cell?, h2]

theorem string_any (B b : Nat) (l : List UInt8) (w : World) (h : Built B b l w) (hB : B ≤ w.heap.size) :
    Calls Try.prog 29 #[.pointer (some ⟨b, 0, none⟩)] w fun e w' => e = .returned (.string ⟨l.toArray⟩) ∧ Built B b l w' ∧ Below B w w' :=
  (Any.Builder_String_any_k { Try.lays105 with } Try.Builder_Extra_105 B b l w h hB).mono fun e w' ⟨he, h1, h2, _⟩ => ⟨he, h1, h2⟩

def blanksL (n : Nat) : List UInt8 := List.replicate n 32
theorem repeat_any (n : Nat) (w : World) (hn : n ≤ 140737488355328) :
    Calls Try.prog 13 #[.string ⟨#[32]⟩, .int .i64 n] w fun e w' => e = .returned (.string ⟨(blanksL n).toArray⟩) ∧ Below w.heap.size w w' :=
  (Any.strings_Repeat Try.lays105 Try.Builder_Extra_105 ⟨#[32]⟩ n w (by omega) (by simpa [ByteArray.size] using hn)).mono fun e w' ⟨he, h⟩ => by
    have e1 := Lib.repeatL_replicate 32 1 n
    rw [Nat.mul_one] at e1
    exact ⟨by rw [he]; unfold blanksL; rw [← e1]; rfl, h⟩

end Go.Proofs.Ytmjmmoecplndmaa.wrp
