/-
  The walks of the layer utf: the bytes of a number, of numbers.
-/
import Derived.Test.YtgpgbbbcodnieaaUtfRunes
import Derived.Deep.Cut
namespace Go.Proofs.Ytgpgbbbcodnieaa.utf
open Go.RowKit Go.Proofs
set_option linter.unusedVariables false

def bv (l : List Nat) : List Value := l.map fun b : Nat => Value.int .u8 b
theorem bv_length (l : List Nat) : (bv l).length = l.length := by simp [bv]
theorem bv_append (a b : List Nat) : bv a ++ bv b = bv (a ++ b) := by simp [bv]

def Put (B : Nat) (w : World) (l : List Nat) (e : Ending) (w' : World) : Prop :=
  ∃ v, e = .returned v ∧ w'.ownsRow B 5 1 v l.length (bv l) ∧ Below B w w'

theorem and63 (x : Int) (h0 : 0 ≤ x) (h1 : x < 2147483648) : bits .and .i32 x 63 = x % 64 := bits_mask .i32 31 (by decide) wraps_i32 6 (by decide) x h0 h1
theorem tail6 (x : Int) (h0 : 0 ≤ x) (h1 : x < 2147483648) : bits .or .u8 128 (bits .and .i32 x 63 % 256) = ((0x80 + x.toNat % 64 : Nat) : Int) := by
  rw [and63 x h0 h1, show x % 64 % 256 = x % 64 by omega, u8_or128 (x % 64) (by omega) (by omega)]; omega
theorem or_head (x m : Nat) (k : Nat) (hm : m % 2 ^ k = 0) (hx : x < 2 ^ k) (h1 : x < 256) (h2 : m < 256) : bits .or .u8 (x : Int) (m : Int) = ((m + x : Nat) : Int) := by
  rw [u8_or_nat x m h1 h2, Nat.or_comm, nat_join k m x hm hx]
theorem xor63 : bits .xor .u8 (if IntKind.u8.signed = true then -1 else IntKind.u8.max) 63 = 192 := by decide
theorem xor31 : bits .xor .u8 (if IntKind.u8.signed = true then -1 else IntKind.u8.max) 31 = 224 := by decide
theorem xor15 : bits .xor .u8 (if IntKind.u8.signed = true then -1 else IntKind.u8.max) 15 = 240 := by decide
theorem head2 (x : Int) (h0 : 0 ≤ x) (h1 : x < 32) : bits .or .u8 x (bits .xor .u8 (if IntKind.u8.signed = true then -1 else IntKind.u8.max) 63) = ((0xC0 + x.toNat : Nat) : Int) := by
  have := or_head x.toNat 192 5 (by decide) (by omega) (by omega) (by omega)
  rw [xor63]; rw [Int.toNat_of_nonneg h0] at this; exact this
theorem head3 (x : Int) (h0 : 0 ≤ x) (h1 : x < 16) : bits .or .u8 x (bits .xor .u8 (if IntKind.u8.signed = true then -1 else IntKind.u8.max) 31) = ((0xE0 + x.toNat : Nat) : Int) := by
  have := or_head x.toNat 224 4 (by decide) (by omega) (by omega) (by omega)
  rw [xor31]; rw [Int.toNat_of_nonneg h0] at this; exact this
theorem head4 (x : Int) (h0 : 0 ≤ x) (h1 : x < 8) : bits .or .u8 x (bits .xor .u8 (if IntKind.u8.signed = true then -1 else IntKind.u8.max) 15) = ((0xF0 + x.toNat : Nat) : Int) := by
  have := or_head x.toNat 240 3 (by decide) (by omega) (by omega) (by omega)
  rw [xor15]; rw [Int.toNat_of_nonneg h0] at this; exact this

theorem news_row (w : World) (xs ys : List Value) (t : TypeId) : ∀ j u, xs[j]? = some u → (w.alloc (.cells (xs ++ ys).toArray t)).cell? ((⟨w.heap.size, 0, none⟩ : Addr).add j) = some u := by
  intro j u hj
  have hlt : j < xs.length := by
    rcases Nat.lt_or_ge j xs.length with h | h
    · exact h
    · simp [List.getElem?_eq_none h] at hj
  have hc : (w.alloc (.cells (xs ++ ys).toArray t)).cell? ⟨w.heap.size, j, none⟩ = some u := by
    simp only [World.cell?]; rw [run.heap_new]
    simp only [Option.isSome_none, Bool.false_eq_true, if_false, List.getElem?_toArray]
    rw [List.getElem?_append_left hlt]; exact hj
  unfold Addr.add
  split
  · rename_i h0; subst h0; exact hc
  · simpa using hc
theorem bv_one (l : List Nat) : ∀ u ∈ bv l, u.oneCell' = true := by
  intro u hu
  simp only [bv, List.mem_map] at hu
  obtain ⟨b, _, rfl⟩ := hu
  rfl
theorem put_end {B : Nat} {w w1 w' : World} {v v' : Value} {l m : List Nat} (hb : Below B w w1) (hB : B ≤ w1.heap.size) (hown : w1.ownsRow B 5 1 v l.length (bv l)) (hown' : w'.ownsRow B 5 1 v' (l.length + m.length) (bv l ++ bv m)) (hg : w1.grownBy w' v.ownBlock) :
    Put B w (l ++ m) (.returned v') w' :=
  ⟨v', rfl, by rw [List.length_append, ← bv_append]; exact hown', run.below_append hb hown hg hB⟩

theorem enc1 {n : Int} (h0 : 0 ≤ n) (h : n < 0x80) : enc n.toNat = [n.toNat] := by unfold enc; rw [if_pos (by omega)]
theorem enc2 {n : Int} (h0 : 0x80 ≤ n) (h : n < 0x800) : enc n.toNat = [0xC0 + (n / 64).toNat, 0x80 + n.toNat % 64] := by unfold enc; rw [if_neg (by omega), if_pos (by omega)]; simp; omega
theorem enc3 {n : Int} (h0 : 0x800 ≤ n) (h : n < 0x10000) : enc n.toNat = [0xE0 + (n / 64 / 64).toNat, 0x80 + (n / 64).toNat % 64, 0x80 + n.toNat % 64] := by unfold enc; rw [if_neg (by omega), if_neg (by omega), if_pos (by omega)]; simp; omega
theorem enc4 {n : Int} (h0 : 0x10000 ≤ n) : enc n.toNat = [0xF0 + (n / 64 / 64 / 64).toNat, 0x80 + (n / 64 / 64).toNat % 64, 0x80 + (n / 64).toNat % 64, 0x80 + n.toNat % 64] := by unfold enc; rw [if_neg (by omega), if_neg (by omega), if_neg (by omega)]; simp; omega
theorem bad_neg {r : Int} (h : r < 0) : put r = enc 0xfffd := by
  have : isChar r = false := by unfold isChar; rw [decide_eq_false (by omega)]; rfl
  unfold put fix; rw [this]; rfl
theorem bad_sur {r : Int} (h1 : 0xD800 ≤ r) (h2 : r ≤ 0xDFFF) : put r = enc 0xfffd := by
  have : isChar r = false := by unfold isChar; rw [decide_eq_false (show ¬ r < 0xD800 by omega), decide_eq_false (show ¬ 0xDFFF < r by omega)]; simp
  unfold put fix; rw [this]; rfl
theorem bad_big {r : Int} (h : 0x10FFFF < r) : put r = enc 0xfffd := by
  have : isChar r = false := by unfold isChar; rw [decide_eq_false (show ¬ r ≤ 0x10FFFF by omega)]; simp
  unfold put fix; rw [this]; rfl
theorem good_put {r : Int} (h : 0 ≤ r) (h1 : r ≤ 0x10FFFF) (h2 : r < 0xD800 ∨ 0xDFFF < r) : put r = enc r.toNat := by unfold put; rw [fix_of_char (char_of ⟨h, h1, h2⟩)]

set_option maxRecDepth 100000 in
set_option maxHeartbeats 2000000 in
theorem put_1 (B : Nat) (v : Value) (l : List Nat) (n : Int) (w : World) (hl : l.length ≤ 140737488355324) (hB : B ≤ w.heap.size) (hown : w.ownsRow B 5 1 v l.length (bv l)) (h1 : 0 ≤ n) (h2 : n < 0x80) :
    Calls Try.prog 53 #[v, .int .i32 n] w (Put B w (l ++ enc n.toNat)) := by
  obtain ⟨i0, hi, hz0, hz1, hz2⟩ := info_parts info_byte
  have henc := run.hid (show enc n.toNat = [n.toNat] from enc1 h1 h2)
  rw [henc.out]
  clear henc
  obtain ⟨n, rfl⟩ := Int.eq_ofNat_of_zero_le h1
  rw [Int.toNat_natCast]
  go_enter Try.func53, Try.ntmps53
  go_wp2_with (at_builtin; go_must (refine wpList_append_own _ rfl _ _ 78 rfl B 5 i0 (.int .u8 0) 1 1 Try.underlying78 hi hz0 hz1 hz2 rfl (by decide) _ _ _ rfl (hown.alloc _) ⟨w.heap.size, 0, none⟩ 1 1 (bv [n]) rfl rfl (news_row w (bv [n]) [] _) (bv_one _) (by unfold maxLen; omega) (by omega) (by simp; omega) ?_))
  intro v' w2 hown2 hgrow hnil
  go_wp2
  go_ret
  exact put_end (m := [n]) ((Below.refl _ _).alloc hB _) (by simp; omega) (hown.alloc _) hown2 hgrow

set_option maxRecDepth 100000 in
set_option maxHeartbeats 2000000 in
theorem put_2 (B : Nat) (v : Value) (l : List Nat) (n : Int) (w : World) (hl : l.length ≤ 140737488355324) (hB : B ≤ w.heap.size) (hown : w.ownsRow B 5 1 v l.length (bv l)) (h1 : 0x80 ≤ n) (h2 : n < 0x800) :
    Calls Try.prog 53 #[v, .int .i32 n] w (Put B w (l ++ enc n.toNat)) := by
  obtain ⟨i0, hi, hz0, hz1, hz2⟩ := info_parts info_byte
  obtain ⟨c0, hc0⟩ : ∃ c : Nat, c = 0xC0 + (n / 64).toNat := ⟨_, rfl⟩
  obtain ⟨c1, hc1⟩ : ∃ c : Nat, c = 0x80 + n.toNat % 64 := ⟨_, rfl⟩
  have henc := run.hid (show enc n.toNat = [c0, c1] from by rw [enc2 h1 h2, hc0, hc1])
  rw [henc.out]
  clear henc
  have e0 := run.hid (head2 (n / 64) (by omega) (by omega))
  rw [← hc0] at e0
  have e1 := run.hid (tail6 n (by omega) (by omega))
  rw [← hc1] at e1
  clear hc0
  clear hc1
  go_enter Try.func53, Try.ntmps53
  go_upto_region 22 with fail
  rw [e0.out, e1.out]
  go_wp2_with (at_builtin; go_must (refine wpList_append_own _ rfl _ _ 78 rfl B 5 i0 (.int .u8 0) 1 1 Try.underlying78 hi hz0 hz1 hz2 rfl (by decide) _ _ _ rfl (hown.alloc _) ⟨w.heap.size, 0, none⟩ 2 4 (bv [c0, c1]) rfl rfl (news_row w (bv [c0, c1]) [Value.int .u8 0, Value.int .u8 0] _) (bv_one _) (by unfold maxLen; omega) (by omega) (by simp; omega) ?_))
  intro v' w2 hown2 hgrow hnil
  go_wp2
  go_ret
  exact put_end (m := [c0, c1]) ((Below.refl _ _).alloc hB _) (by simp; omega) (hown.alloc _) hown2 hgrow

set_option maxRecDepth 100000 in
set_option maxHeartbeats 2000000 in
theorem put_3a (B : Nat) (v : Value) (l : List Nat) (n : Int) (w : World) (hl : l.length ≤ 140737488355324) (hB : B ≤ w.heap.size) (hown : w.ownsRow B 5 1 v l.length (bv l)) (h1 : 0x800 ≤ n) (h2 : n < 0xD800) :
    Calls Try.prog 53 #[v, .int .i32 n] w (Put B w (l ++ enc n.toNat)) := by
  obtain ⟨i0, hi, hz0, hz1, hz2⟩ := info_parts info_byte
  obtain ⟨c0, hc0⟩ : ∃ c : Nat, c = 0xE0 + (n / 64 / 64).toNat := ⟨_, rfl⟩
  obtain ⟨c1, hc1⟩ : ∃ c : Nat, c = 0x80 + (n / 64).toNat % 64 := ⟨_, rfl⟩
  obtain ⟨c2, hc2⟩ : ∃ c : Nat, c = 0x80 + n.toNat % 64 := ⟨_, rfl⟩
  have henc := run.hid (show enc n.toNat = [c0, c1, c2] from by rw [enc3 h1 (by omega), hc0, hc1, hc2])
  rw [henc.out]
  clear henc
  have e0 := run.hid (head3 (n / 64 / 64) (by omega) (by omega))
  rw [← hc0] at e0
  have e1 := run.hid (tail6 (n / 64) (by omega) (by omega))
  rw [← hc1] at e1
  have e2 := run.hid (tail6 n (by omega) (by omega))
  rw [← hc2] at e2
  clear hc0
  clear hc1
  clear hc2
  go_enter Try.func53, Try.ntmps53
  go_upto_region 22 with fail
  rw [e0.out, e1.out, e2.out]
  go_wp2_with (at_builtin; go_must (refine wpList_append_own _ rfl _ _ 78 rfl B 5 i0 (.int .u8 0) 1 1 Try.underlying78 hi hz0 hz1 hz2 rfl (by decide) _ _ _ rfl (hown.alloc _) ⟨w.heap.size, 0, none⟩ 3 4 (bv [c0, c1, c2]) rfl rfl (news_row w (bv [c0, c1, c2]) [Value.int .u8 0] _) (bv_one _) (by unfold maxLen; omega) (by omega) (by simp; omega) ?_))
  intro v' w2 hown2 hgrow hnil
  go_wp2
  go_ret
  exact put_end (m := [c0, c1, c2]) ((Below.refl _ _).alloc hB _) (by simp; omega) (hown.alloc _) hown2 hgrow

set_option maxRecDepth 100000 in
set_option maxHeartbeats 2000000 in
theorem put_3b (B : Nat) (v : Value) (l : List Nat) (n : Int) (w : World) (hl : l.length ≤ 140737488355324) (hB : B ≤ w.heap.size) (hown : w.ownsRow B 5 1 v l.length (bv l)) (h1 : 0xDFFF < n) (h2 : n < 0x10000) :
    Calls Try.prog 53 #[v, .int .i32 n] w (Put B w (l ++ enc n.toNat)) := by
  obtain ⟨i0, hi, hz0, hz1, hz2⟩ := info_parts info_byte
  obtain ⟨c0, hc0⟩ : ∃ c : Nat, c = 0xE0 + (n / 64 / 64).toNat := ⟨_, rfl⟩
  obtain ⟨c1, hc1⟩ : ∃ c : Nat, c = 0x80 + (n / 64).toNat % 64 := ⟨_, rfl⟩
  obtain ⟨c2, hc2⟩ : ∃ c : Nat, c = 0x80 + n.toNat % 64 := ⟨_, rfl⟩
  have henc := run.hid (show enc n.toNat = [c0, c1, c2] from by rw [enc3 (by omega) h2, hc0, hc1, hc2])
  rw [henc.out]
  clear henc
  have e0 := run.hid (head3 (n / 64 / 64) (by omega) (by omega))
  rw [← hc0] at e0
  have e1 := run.hid (tail6 (n / 64) (by omega) (by omega))
  rw [← hc1] at e1
  have e2 := run.hid (tail6 n (by omega) (by omega))
  rw [← hc2] at e2
  clear hc0
  clear hc1
  clear hc2
  go_enter Try.func53, Try.ntmps53
  go_upto_region 22 with fail
  rw [e0.out, e1.out, e2.out]
  go_wp2_with (at_builtin; go_must (refine wpList_append_own _ rfl _ _ 78 rfl B 5 i0 (.int .u8 0) 1 1 Try.underlying78 hi hz0 hz1 hz2 rfl (by decide) _ _ _ rfl (hown.alloc _) ⟨w.heap.size, 0, none⟩ 3 4 (bv [c0, c1, c2]) rfl rfl (news_row w (bv [c0, c1, c2]) [Value.int .u8 0] _) (bv_one _) (by unfold maxLen; omega) (by omega) (by simp; omega) ?_))
  intro v' w2 hown2 hgrow hnil
  go_wp2
  go_ret
  exact put_end (m := [c0, c1, c2]) ((Below.refl _ _).alloc hB _) (by simp; omega) (hown.alloc _) hown2 hgrow

set_option maxRecDepth 100000 in
set_option maxHeartbeats 2000000 in
theorem put_4 (B : Nat) (v : Value) (l : List Nat) (n : Int) (w : World) (hl : l.length ≤ 140737488355324) (hB : B ≤ w.heap.size) (hown : w.ownsRow B 5 1 v l.length (bv l)) (h1 : 0x10000 ≤ n) (h2 : n ≤ 0x10FFFF) :
    Calls Try.prog 53 #[v, .int .i32 n] w (Put B w (l ++ enc n.toNat)) := by
  obtain ⟨i0, hi, hz0, hz1, hz2⟩ := info_parts info_byte
  obtain ⟨c0, hc0⟩ : ∃ c : Nat, c = 0xF0 + (n / 64 / 64 / 64).toNat := ⟨_, rfl⟩
  obtain ⟨c1, hc1⟩ : ∃ c : Nat, c = 0x80 + (n / 64 / 64).toNat % 64 := ⟨_, rfl⟩
  obtain ⟨c2, hc2⟩ : ∃ c : Nat, c = 0x80 + (n / 64).toNat % 64 := ⟨_, rfl⟩
  obtain ⟨c3, hc3⟩ : ∃ c : Nat, c = 0x80 + n.toNat % 64 := ⟨_, rfl⟩
  have henc := run.hid (show enc n.toNat = [c0, c1, c2, c3] from by rw [enc4 h1, hc0, hc1, hc2, hc3])
  rw [henc.out]
  clear henc
  have e0 := run.hid (head4 (n / 64 / 64 / 64) (by omega) (by omega))
  rw [← hc0] at e0
  have e1 := run.hid (tail6 (n / 64 / 64) (by omega) (by omega))
  rw [← hc1] at e1
  have e2 := run.hid (tail6 (n / 64) (by omega) (by omega))
  rw [← hc2] at e2
  have e3 := run.hid (tail6 n (by omega) (by omega))
  rw [← hc3] at e3
  clear hc0
  clear hc1
  clear hc2
  clear hc3
  go_enter Try.func53, Try.ntmps53
  go_upto_region 22 with fail
  rw [e0.out, e1.out, e2.out, e3.out]
  go_wp2_with (at_builtin; go_must (refine wpList_append_own _ rfl _ _ 78 rfl B 5 i0 (.int .u8 0) 1 1 Try.underlying78 hi hz0 hz1 hz2 rfl (by decide) _ _ _ rfl (hown.alloc _) ⟨w.heap.size, 0, none⟩ 4 4 (bv [c0, c1, c2, c3]) rfl rfl (news_row w (bv [c0, c1, c2, c3]) [] _) (bv_one _) (by unfold maxLen; omega) (by omega) (by simp; omega) ?_))
  intro v' w2 hown2 hgrow hnil
  go_wp2
  go_ret
  exact put_end (m := [c0, c1, c2, c3]) ((Below.refl _ _).alloc hB _) (by simp; omega) (hown.alloc _) hown2 hgrow

set_option maxRecDepth 100000 in
set_option maxHeartbeats 2000000 in
theorem put_neg (B : Nat) (v : Value) (l : List Nat) (n : Int) (w : World) (hl : l.length ≤ 140737488355324) (hB : B ≤ w.heap.size) (hown : w.ownsRow B 5 1 v l.length (bv l)) (h1 : n < 0) :
    Calls Try.prog 53 #[v, .int .i32 n] w (Put B w (l ++ enc 0xfffd)) := by
  obtain ⟨i0, hi, hz0, hz1, hz2⟩ := info_parts info_byte
  have henc := run.hid (show enc 0xfffd = [0xEF, 0xBF, 0xBD] from by decide)
  rw [henc.out]
  clear henc
  go_enter Try.func53, Try.ntmps53
  go_upto_region 22 with fail
  go_wp2_with (at_builtin; go_must (refine wpList_append_own _ rfl _ _ 78 rfl B 5 i0 (.int .u8 0) 1 1 Try.underlying78 hi hz0 hz1 hz2 rfl (by decide) _ _ _ rfl (hown.alloc _) ⟨w.heap.size, 0, none⟩ 3 4 (bv [0xEF, 0xBF, 0xBD]) rfl rfl (news_row w (bv [0xEF, 0xBF, 0xBD]) [Value.int .u8 0] _) (bv_one _) (by unfold maxLen; omega) (by omega) (by simp; omega) ?_))
  intro v' w2 hown2 hgrow hnil
  go_wp2
  go_ret
  exact put_end (m := [0xEF, 0xBF, 0xBD]) ((Below.refl _ _).alloc hB _) (by simp; omega) (hown.alloc _) hown2 hgrow

set_option maxRecDepth 100000 in
set_option maxHeartbeats 2000000 in
theorem put_sur (B : Nat) (v : Value) (l : List Nat) (n : Int) (w : World) (hl : l.length ≤ 140737488355324) (hB : B ≤ w.heap.size) (hown : w.ownsRow B 5 1 v l.length (bv l)) (h1 : 0xD800 ≤ n) (h2 : n ≤ 0xDFFF) :
    Calls Try.prog 53 #[v, .int .i32 n] w (Put B w (l ++ enc 0xfffd)) := by
  obtain ⟨i0, hi, hz0, hz1, hz2⟩ := info_parts info_byte
  have henc := run.hid (show enc 0xfffd = [0xEF, 0xBF, 0xBD] from by decide)
  rw [henc.out]
  clear henc
  go_enter Try.func53, Try.ntmps53
  go_upto_region 22 with fail
  go_wp2_with (at_builtin; go_must (refine wpList_append_own _ rfl _ _ 78 rfl B 5 i0 (.int .u8 0) 1 1 Try.underlying78 hi hz0 hz1 hz2 rfl (by decide) _ _ _ rfl (hown.alloc _) ⟨w.heap.size, 0, none⟩ 3 4 (bv [0xEF, 0xBF, 0xBD]) rfl rfl (news_row w (bv [0xEF, 0xBF, 0xBD]) [Value.int .u8 0] _) (bv_one _) (by unfold maxLen; omega) (by omega) (by simp; omega) ?_))
  intro v' w2 hown2 hgrow hnil
  go_wp2
  go_ret
  exact put_end (m := [0xEF, 0xBF, 0xBD]) ((Below.refl _ _).alloc hB _) (by simp; omega) (hown.alloc _) hown2 hgrow

set_option maxRecDepth 100000 in
set_option maxHeartbeats 2000000 in
theorem put_big (B : Nat) (v : Value) (l : List Nat) (n : Int) (w : World) (hl : l.length ≤ 140737488355324) (hB : B ≤ w.heap.size) (hown : w.ownsRow B 5 1 v l.length (bv l)) (h1 : 0x10FFFF < n) :
    Calls Try.prog 53 #[v, .int .i32 n] w (Put B w (l ++ enc 0xfffd)) := by
  obtain ⟨i0, hi, hz0, hz1, hz2⟩ := info_parts info_byte
  have henc := run.hid (show enc 0xfffd = [0xEF, 0xBF, 0xBD] from by decide)
  rw [henc.out]
  clear henc
  go_enter Try.func53, Try.ntmps53
  go_upto_region 22 with fail
  go_wp2_with (at_builtin; go_must (refine wpList_append_own _ rfl _ _ 78 rfl B 5 i0 (.int .u8 0) 1 1 Try.underlying78 hi hz0 hz1 hz2 rfl (by decide) _ _ _ rfl (hown.alloc _) ⟨w.heap.size, 0, none⟩ 3 4 (bv [0xEF, 0xBF, 0xBD]) rfl rfl (news_row w (bv [0xEF, 0xBF, 0xBD]) [Value.int .u8 0] _) (bv_one _) (by unfold maxLen; omega) (by omega) (by simp; omega) ?_))
  intro v' w2 hown2 hgrow hnil
  go_wp2
  go_ret
  exact put_end (m := [0xEF, 0xBF, 0xBD]) ((Below.refl _ _).alloc hB _) (by simp; omega) (hown.alloc _) hown2 hgrow

theorem put_any (B : Nat) (v : Value) (l : List Nat) (r : Int) (w : World) (hl : l.length ≤ 140737488355324) (hB : B ≤ w.heap.size) (hown : w.ownsRow B 5 1 v l.length (bv l)) :
    Calls Try.prog 53 #[v, .int .i32 r] w (Put B w (l ++ put r)) := by
  by_cases h0 : r < 0
  · rw [bad_neg h0]; exact put_neg B v l r w hl hB hown h0
  by_cases h1 : 0x10FFFF < r
  · rw [bad_big h1]; exact put_big B v l r w hl hB hown h1
  by_cases h2 : 0xD800 ≤ r ∧ r ≤ 0xDFFF
  · rw [bad_sur h2.1 h2.2]; exact put_sur B v l r w hl hB hown h2.1 h2.2
  rw [good_put (by omega) (by omega) (by omega)]
  by_cases h3 : r < 0x80
  · exact put_1 B v l r w hl hB hown (by omega) h3
  by_cases h4 : r < 0x800
  · exact put_2 B v l r w hl hB hown (by omega) h4
  by_cases h5 : r < 0xD800
  · exact put_3a B v l r w hl hB hown (by omega) h5
  by_cases h6 : r < 0x10000
  · exact put_3b B v l r w hl hB hown (by omega) h6
  · exact put_4 B v l r w hl hB hown (by omega) (by omega)

/-- the text of some bytes -/
def str (l : List Nat) : ByteArray := ⟨(l.map UInt8.ofNat).toArray⟩
theorem str_size (l : List Nat) : (str l).size = l.length := by simp [str, ByteArray.size]
theorem bs_str {l : List Nat} (hb : ∀ c ∈ l, c < 256) : bs (str l) = l := by
  simp only [bs, str, List.map_map]
  conv => rhs; rw [← List.map_id l]
  apply List.map_congr_left
  intro c hc
  have := hb c hc
  simp [UInt8.toNat_ofNat']; omega
theorem str_bs (s : ByteArray) : str (bs s) = s := by
  simp only [bs, str, List.map_map]
  have : s.data.toList.map (UInt8.ofNat ∘ UInt8.toNat) = s.data.toList := by
    conv => rhs; rw [← List.map_id s.data.toList]
    apply List.map_congr_left
    intro c _; simp
  rw [this]
theorem str_nums (l : List Nat) : strOfNums (l.map fun c : Nat => (c : Int)) = str l := by
  simp only [strOfNums, str, List.map_map]
  congr 2
theorem str_inj {l m : List Nat} (hl : ∀ c ∈ l, c < 256) (hm : ∀ c ∈ m, c < 256) (h : str l = str m) : l = m := by rw [← bs_str hl, ← bs_str hm, h]
theorem bs_inj {s t : ByteArray} (h : bs s = bs t) : s = t := by rw [← str_bs s, ← str_bs t, h]

theorem conv_own {B : Nat} {w : World} {v : Value} {l : List Nat} (h : w.ownsRow B 5 1 v l.length (bv l)) :
    (convert 78 9 v).run Try.prog w = .ok (.string (str l)) w := by
  have hr := run.reads_own h
  obtain ⟨a, cap, rfl, hr, _⟩ := hr
  by_cases hl : l = []
  · subst hl
    obtain ⟨_, h⟩ := h
    rcases h with ⟨h, _⟩ | ⟨g, cap', cur, h, hg, hh, h1, h2, h3, h4⟩
    · simp only [Value.slice.injEq] at h
      obtain ⟨rfl, _, rfl⟩ := h
      exact run_convert_bytes_nil (P := Try.prog) w 78 5 Try.underlying78 Try.underlying5 _ _ 9 Try.underlying9
    · simp only [Value.slice.injEq] at h
      obtain ⟨rfl, _, rfl⟩ := h
      refine run_convert_bytes_arg (P := Try.prog) w 78 5 Try.underlying78 Try.underlying5 g 0 _ _ [] rfl ?_ 9 Try.underlying9
      intro i hi; simp at hi
  · obtain ⟨b, off, rfl, hlt, hc⟩ := hr (by simpa [bv] using hl)
    rw [← str_nums]
    refine run_convert_bytes_arg (P := Try.prog) w 78 5 Try.underlying78 Try.underlying5 b off _ _ (l.map fun c : Nat => (c : Int)) (by simp [bv]) ?_ 9 Try.underlying9
    intro i hi
    have hi' : i < l.length := by simpa [bv] using hi
    refine hc i _ ?_
    simp [bv, List.getD_eq_getElem?_getD, hi']

theorem text_take {xs : List Int} {k : Nat} (h : k < xs.length) : text (xs.take (k + 1)) = text (xs.take k) ++ put (xs.getD k 0) := by
  rw [List.take_succ_eq_append_getElem h, text_append]
  simp [text, List.getD_eq_getElem?_getD, h]
theorem rv_get {xs : List Int} {k : Nat} (h : k < xs.length) : (rv xs)[k]? = some (.int .i32 (xs.getD k 0)) := by
  simp [rv, List.getD_eq_getElem?_getD, h]
theorem text_take_len (xs : List Int) (k : Nat) : (text (xs.take k)).length ≤ 4 * k := by
  have h := (text_length (xs.take k)).2
  have : (xs.take k).length ≤ k := by simp; omega
  omega

set_option maxHeartbeats 2000000 in
theorem text_any (v : Value) (xs : List Int) (w : World) (hv : run.Reads w v (rv xs)) (hl : xs.length ≤ 35184372088832) : Calls Try.prog 43 #[v] w fun e w' => e = .returned (.string (str (text xs))) ∧ Below w.heap.size w w' := by
  obtain ⟨a, cap, rfl, hc, _⟩ := hv
  rw [rv_length]
  have HC := run.hid hc
  clear hc
  go_enter Try.func43, Try.ntmps43
  go_wp2
  go_loopw [3, 8] (fun vb vk wr => ∃ k : Nat, k ≤ xs.length ∧ vk = .int .i64 k ∧ wr.ownsRow w.heap.size 5 1 vb (text (xs.take k)).length (bv (text (xs.take k))) ∧ Below w.heap.size w wr) (fun _ k _ => (xs.length - intOf k).toNat)
  case atStart => exact ⟨0, by omega, rfl, World.ownsRow_nil _ _ _ _, Below.refl _ _⟩
  case round =>
    obtain ⟨k, hk, rfl, hown, hbel⟩ := hrel
    have hsz := hbel.size
    have hbd := text_take_len xs k
    by_cases hkl : k < xs.length
    · obtain ⟨b, off, ha, hlt, hcell⟩ := HC.out (by intro h; have := congrArg List.length h; rw [rv_length] at this; simp at this; simp [this] at hkl)
      subst ha
      have hck := (hbel.cell (p := ⟨b, off + k, none⟩) hlt).trans (hcell k _ (rv_get hkl))
      have HT := run.hid (text_take hkl)
      clear hcell
      generalize xs.getD k 0 = r at *
      generalize text (xs.take k) = tk at *
      go_wp2_with fail
      refine (put_any w.heap.size u3 tk r wr (by omega) hsz hown).mono ?_
      rintro e w1 ⟨v', rfl, hown1, hb1⟩
      have hbel1 := hbel.trans hb1
      rw [← HT.out] at hown1
      clear hown hbel hb1 hck HT
      go_wp2
      go_roundw
      case rel => exact ⟨k + 1, by omega, by go_num, hown1, hbel1⟩
      case measure => simp [intOf]; omega
    · obtain rfl : k = xs.length := by omega
      rw [List.take_of_length_le (Nat.le_refl _)] at hown
      have hconv := conv_own hown
      clear hown hbd
      go_wp2
      go_ret
      exact ⟨rfl, hbel⟩

end Go.Proofs.Ytgpgbbbcodnieaa.utf
