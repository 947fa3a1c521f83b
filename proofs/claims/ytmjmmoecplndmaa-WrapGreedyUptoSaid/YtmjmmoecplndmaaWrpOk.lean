/-
  Plain facts of the layer wrap: how great clusters are.
-/
import Derived.Test.YtmjmmoecplndmaaWrpFit
namespace Go.Proofs.Ytmjmmoecplndmaa.wrp
open Go.Proofs.Ytmjmmoecplndmaa.wid Go.Proofs.Ytmjmmoecplndmaa.utf Go.Proofs.Ytmjmmoecplndmaa.clu
set_option linter.unusedVariables false

def Ok (X : List TV) : Prop := ∀ q ∈ X, q.1.size ≤ 64 ∧ q.2 ≤ 2
theorem Ok.wide : ∀ {X : List TV}, Ok X → wideT X ≤ 2 * X.length
  | [], _ => Nat.le_refl _
  | q :: t, h => by
    have h1 := (h q (by simp)).2
    have h2 := Ok.wide (X := t) (fun q hq => h q (by simp [hq]))
    have e : wideT (q :: t) = q.2 + wideT t := by simp [wideT]
    rw [e, List.length_cons]; omega
theorem Ok.cat : ∀ {X : List TV}, Ok X → (catL X).length ≤ 64 * X.length
  | [], _ => Nat.le_refl _
  | q :: t, h => by
    have h1 := (h q (by simp)).1
    have h2 := Ok.cat (X := t) (fun q hq => h q (by simp [hq]))
    have e : catL (q :: t) = q.1.data.toList ++ catL t := by simp [catL]
    have e2 : q.1.data.toList.length = q.1.size := rfl
    rw [e, List.length_append, List.length_cons, e2]; omega
theorem Ok.sub {X Y : List TV} (h : Ok X) (hs : ∀ q ∈ Y, q ∈ X) : Ok Y := fun q hq => h q (hs q hq)
theorem Ok.take {X : List TV} (h : Ok X) (k : Nat) : Ok (X.take k) := h.sub fun q hq => List.mem_of_mem_take hq
theorem Ok.drop {X : List TV} (h : Ok X) (k : Nat) : Ok (X.drop k) := h.sub fun q hq => List.mem_of_mem_drop hq
theorem told_ok (s : ByteArray) : Ok (told s) := by
  intro q hq
  unfold told clu.seen at hq
  obtain ⟨p, hp, rfl⟩ := List.mem_map.1 hq
  obtain ⟨h1, h2, -⟩ := cl_piece _ _ (Nat.le_refl _) p hp
  have := (text_length p).2
  refine ⟨?_, wide_le _⟩
  rw [str_size]
  omega
theorem flow_ok (s : ByteArray) : Ok (flow s) := (told_ok _).sub fun q hq => (List.mem_filter.1 hq).1
theorem line_ok (s : ByteArray) : Ok (lineT s) := by
  intro q hq
  obtain ⟨p, hp, rfl⟩ := List.mem_map.1 hq
  unfold nlsp
  split
  · exact ⟨by decide, by decide⟩
  · exact flow_ok s p hp
theorem line_len (s : ByteArray) : (lineT s).length ≤ 4 * s.size := by
  unfold lineT; rw [List.length_map]; exact flow_len s
theorem fitT_wide : ∀ (X : List TV) (n : Nat), wideT (X.take (fitT X n)) ≤ n
  | [], n => by simp [wideT]
  | q :: t, n => by
    rw [fitT_cons]
    split
    · rename_i h
      have h2 := fitT_wide t (n - q.2)
      have e : wideT ((q :: t).take (fitT t (n - q.2) + 1)) = q.2 + wideT (t.take (fitT t (n - q.2))) := by rw [List.take_succ_cons]; simp [wideT]
      rw [e]; omega
    · simp [wideT]

end Go.Proofs.Ytmjmmoecplndmaa.wrp
