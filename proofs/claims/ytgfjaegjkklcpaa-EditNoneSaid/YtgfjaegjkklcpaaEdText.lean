/-
  The editor's text: the texts of clusters, one behind the other.
-/
import Derived.Test.YtgfjaegjkklcpaaEdBuild
import Derived.Deep.DeepCutAuto
import Derived.WalkKit
namespace Go.Proofs.Ytgfjaegjkklcpaa.ed
open Go Go.RowKit Go.Proofs
set_option linter.unusedVariables false
/-- a cluster: its text, its width -/
abbrev TV := ByteArray × Nat
def tv0 : TV := (⟨#[]⟩, 0)
def cellsT (F : List TV) : List Value := F.flatMap fun q => [.string q.1, .int .i64 (q.2 : Nat)]
theorem cellsT_length (F : List TV) : (cellsT F).length = F.length * 2 := by
  induction F with
  | nil => rfl
  | cons q F ih => unfold cellsT at *; rw [List.flatMap_cons, List.length_append, ih, List.length_cons]; simp; omega
theorem cellsT_one (F : List TV) : ∀ v ∈ cellsT F, v.oneCell' = true := by
  intro v hv
  unfold cellsT at hv
  rw [List.mem_flatMap] at hv
  obtain ⟨q, -, hq⟩ := hv
  simp only [List.mem_cons, List.not_mem_nil, or_false] at hq
  rcases hq with rfl | rfl <;> rfl
theorem cellsT_at : ∀ (F : List TV) (i : Nat), i < F.length → (cellsT F)[i * 2]? = some (.string (F.getD i tv0).1) ∧ (cellsT F)[i * 2 + 1]? = some (.int .i64 ((F.getD i tv0).2 : Nat))
  | q :: F, 0, _ => ⟨rfl, rfl⟩
  | q :: F, i + 1, h => by
    have ih := cellsT_at F i (by simpa using h)
    have e : cellsT (q :: F) = [.string q.1, .int .i64 (q.2 : Nat)] ++ cellsT F := rfl
    rw [e, List.getElem?_append_right (by simp; omega), List.getElem?_append_right (by simp; omega)]
    rw [show (i + 1) * 2 - [Value.string q.1, .int .i64 (q.2 : Nat)].length = i * 2 by simp; omega, show (i + 1) * 2 + 1 - [Value.string q.1, .int .i64 (q.2 : Nat)].length = i * 2 + 1 by simp; omega]
    simpa using ih
/-- the bytes of clusters -/
def textL (F : List TV) : List UInt8 := F.flatMap fun q => q.1.data.toList
theorem textL_snoc {F : List TV} {i : Nat} (h : i < F.length) : textL (F.take (i + 1)) = textL (F.take i) ++ (F.getD i tv0).1.data.toList := by
  unfold textL
  rw [List.take_succ_eq_append_getElem h, List.flatMap_append]
  simp [List.getD_eq_getElem?_getD, h]
theorem textL_le (F : List TV) (i : Nat) : (textL (F.take i)).length ≤ (textL F).length := by
  have h : textL F = textL (F.take i) ++ textL (F.drop i) := by unfold textL; rw [← List.flatMap_append, List.take_append_drop]
  rw [h, List.length_append]; omega
set_option maxRecDepth 100000 in
set_option maxHeartbeats 4000000 in
theorem text_any (a : Option Addr) (c : Nat) (F : List TV) (w : World) (hS : Src 2 w a F.length c (cellsT F)) (hN : (textL F).length ≤ 1099511627776) (hF : F.length ≤ 1099511627776) :
    Calls Try.prog 44 #[.slice a F.length c] w fun e w' => e = .returned (.string ⟨(textL F).toArray⟩) ∧ Below w.heap.size w w' := by
  obtain ⟨it, hinf, -, hsz, -⟩ := info_parts (show (Try.prog.info? 73).map (fun i => (i.zero, i.size, i.bytes)) = some (some (.agg #[.string ⟨#[]⟩, .int .i64 0]), 2, 24) from by kernel_rfl)
  have HAT := run.hid (fun i (hi : i < F.length) => show ∃ b off, a = some ⟨b, off, none⟩ ∧ b < w.heap.size ∧ w.cell? ⟨b, off + i * 2, none⟩ = some (.string (F.getD i tv0).1) ∧ w.cell? ⟨b, off + i * 2 + 1, none⟩ = some (.int .i64 ((F.getD i tv0).2 : Nat)) from by
    rcases hS.at' with ⟨-, h0, -⟩ | ⟨b, off, e, hlt, hc⟩
    · omega
    · obtain ⟨h1, h2⟩ := cellsT_at F i hi
      exact ⟨b, off, e, hlt, hc _ _ h1, hc _ _ h2⟩)
  have HSN := run.hid (fun i (hi : i < F.length) => @textL_snoc F i hi)
  have HLE := run.hid (fun i => textL_le F i)
  have HAL := run.hid (show textL (F.take F.length) = textL F by rw [List.take_of_length_le (Nat.le_refl _)])
  obtain ⟨L, hL⟩ : ∃ L, L = textL F := ⟨_, rfl⟩
  rw [← hL] at hN HAL HLE ⊢
  have hb0 := run.below_one w (.cells #[.pointer none, .slice none 0 0] 101)
  have HB0 := run.hid (And.intro (built_new w w.heap.size (Nat.le_refl _)) hb0)
  clear hS hL hb0
  generalize hNN : F.length = N at *
  clear hNN
  go_enter Try.func44, Try.ntmps44
  go_upto_region 2 with fail
  generalize w.alloc (.cells #[.pointer none, .slice none 0 0] 101) = w1 at *
  go_wp2
  go_loopw [8] (fun vi wr => ∃ i : Nat, i ≤ N ∧ vi = .int .i64 i ∧ Built w.heap.size w.heap.size (textL (F.take i)) wr ∧ Below w.heap.size w wr) (fun vi _ => ((N : Int) - intOf vi).toNat)
  case atStart => exact ⟨0, Nat.zero_le _, rfl, HB0.out.1, HB0.out.2⟩
  case round =>
    obtain ⟨i, hi, rfl, hbu, hbel⟩ := hrel
    by_cases hlt : i < N
    · obtain ⟨b, off, rfl, hb, h0, h1⟩ := HAT.out i hlt
      have x0 := (hbel.cell (p := ⟨b, off + i * 2, none⟩) hb).trans h0
      have x1 := (hbel.cell (p := ⟨b, off + i * 2 + 1, none⟩) hb).trans h1
      have hsn := HSN.out i hlt
      have hle := HLE.out (i + 1)
      rw [hsn, List.length_append] at hle
      generalize F.getD i tv0 = q at *
      obtain ⟨qt, qw⟩ := q
      dsimp only at x0 x1 hsn hle
      have hqs : qt.data.toList.length = qt.size := rfl
      have hs := hbel.size
      have hb2 := run.below_one wr (.cells #[.string qt, .int .i64 (qw : Nat)] 73)
      have HWR := run.hid (write_any qt (built_below hbu hb2) (by omega) (by rw [World.size_alloc]; omega))
      have HBL := run.hid (hbel.trans (hb2.mono hs))
      have HS := run.hid hsn
      clear HAT HSN HLE HAL HB0 h0 h1 hbu hbel hb2 hsn hle hqs
      go_wp2_with fail
      refine HWR.out.mono ?_
      rintro e w5 ⟨rfl, hbu, hbw, -⟩
      have HF := run.hid (And.intro hbu (HBL.out.trans hbw))
      clear HWR HBL hbu hbw x0 x1
      go_wp2
      go_roundw
      case rel => exact ⟨i + 1, by omega, by go_num, by rw [HS.out]; exact HF.out.1, HF.out.2⟩
      case measure => simp [intOf]; omega
    · obtain rfl : i = N := by omega
      have HST := run.hid (string_any hbu hbel.size)
      rw [HAL.out] at HST
      have HBL := run.hid hbel
      clear HAT HSN HLE HAL HB0 hbu hbel
      go_wp2_with fail
      refine HST.out.mono ?_
      rintro e w5 ⟨rfl, -, hbw⟩
      have HF := run.hid (HBL.out.trans hbw)
      go_wp2
      go_ret
      exact ⟨rfl, HF.out⟩
end Go.Proofs.Ytgfjaegjkklcpaa.ed
