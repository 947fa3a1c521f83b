/-
  The walks of Spark.
-/
import Derived.Test.YtbfheehaagcmeaaDoorFloB
import Derived.Test.YtbfheehaagcmeaaDoorCanBar
import Derived.Test.YtbfheehaagcmeaaDoorFloNan
namespace Go.Proofs.YtbfheehaagcmeaaDoor.can
open Go.RowKit Go.Proofs Go.Proofs.YtbfheehaagcmeaaDoor.flo
set_option linter.unusedVariables false

def minB (x y : Nat) : Nat := match D.order x y with | some .lt => x | some .gt => y | some .eq => if (FloatKind.f64.decode x).neg then x else y | none => x
def maxB (x y : Nat) : Nat := match D.order x y with | some .lt => y | some .gt => x | some .eq => if (FloatKind.f64.decode x).neg then y else x | none => x
def loT (l : List Nat) : Nat := l.foldl (fun a v => if finW D v then minB a v else a) PINF
def hiT (l : List Nat) : Nat := l.foldl (fun a v => if finW D v then maxB a v else a) NINF
/-- which of the eight blocks -/
def blockT (v lo hi : Nat) : Int := if D.order (below lo hi) 0 = some .eq then 3 else min (toI (eighth v lo hi)) 7
def sparkC (v lo hi : Nat) : Int := if numW D v = false then 32 else if pinfW v then 0x2588 else if ninfW v then 0x2581 else 0x2581 + blockT v lo hi
def lastT (l : List Nat) (W : Nat) : List Nat := l.drop (l.length - W)
def sparkRow (l : List Nat) (W : Nat) (j : Nat) : Int := if j < W - l.length then 32 else sparkC (l.getD (j - (W - l.length)) 0) (loT l) (hiT l)
def sparkT (l : List Nat) (w : Int) : ByteArray := strOf ((List.range (wideT w).toNat).map (sparkRow (lastT l (wideT w).toNat) (wideT w).toNat))

theorem fin_cases (v : Nat) : (numW D v = false ∧ finW D v = false) ∨ (numW D v = true ∧ rungW D v = D.infRung ∧ finW D v = false) ∨ (numW D v = true ∧ rungW D v ≠ D.infRung ∧ finW D v = true) := by
  unfold numW finW
  by_cases h1 : rungW D v < D.infRung
  · right; right
    exact ⟨by simp; omega, by omega, by simp; omega⟩
  · by_cases h2 : rungW D v = D.infRung
    · right; left; exact ⟨by simp; omega, h2, by simp; omega⟩
    · left; exact ⟨by simp; omega, by simp; omega⟩

/-- no NaN is lower, or higher, than all -/
theorem num_fin {v : Nat} (h : finW D v = true) : numW D v = true := by unfold finW at h; unfold numW; simp at h ⊢; omega
theorem min_num {x y : Nat} (hx : numW D x = true) (hy : numW D y = true) : numW D (minB x y) = true ∧ key D (minB x y) = min (key D x) (key D y) ∧ (minB x y = x ∨ minB x y = y) := by
  unfold minB
  rw [order_key D hfD hx hy, cmp_def]
  by_cases h1 : key D x < key D y
  · rw [if_pos h1]; exact ⟨hx, by simp only []; omega, .inl rfl⟩
  · rw [if_neg h1]
    by_cases h2 : key D x = key D y
    · rw [if_pos h2]
      simp only
      split
      · exact ⟨hx, by omega, .inl rfl⟩
      · exact ⟨hy, by omega, .inr rfl⟩
    · rw [if_neg h2]; exact ⟨hy, by simp only []; omega, .inr rfl⟩
theorem max_num {x y : Nat} (hx : numW D x = true) (hy : numW D y = true) : numW D (maxB x y) = true ∧ key D (maxB x y) = max (key D x) (key D y) ∧ (maxB x y = x ∨ maxB x y = y) := by
  unfold maxB
  rw [order_key D hfD hx hy, cmp_def]
  by_cases h1 : key D x < key D y
  · rw [if_pos h1]; exact ⟨hy, by simp only []; omega, .inr rfl⟩
  · rw [if_neg h1]
    by_cases h2 : key D x = key D y
    · rw [if_pos h2]
      simp only
      split
      · exact ⟨hy, by omega, .inr rfl⟩
      · exact ⟨hx, by omega, .inl rfl⟩
    · rw [if_neg h2]; exact ⟨hx, by simp only []; omega, .inl rfl⟩
theorem run_minB {x y : Nat} (hx : numW D x = true) (hy : numW D y = true) (ts : Array TypeId) (t : TypeId) : Builtin.min_ ts t #[F x, F y] = pure (F (minB x y)) := by
  show Builtin.min2 (F x) (F y) >>= pure = _
  unfold Builtin.min2 minB
  have h := order_key D hfD hx hy
  have h' : FloatKind.f64.format.order x y = some (compare (key D x) (key D y)) := h
  simp only [h, h']
  cases compare (key D x) (key D y) <;> rfl
theorem run_maxB {x y : Nat} (hx : numW D x = true) (hy : numW D y = true) (ts : Array TypeId) (t : TypeId) : Builtin.max_ ts t #[F x, F y] = pure (F (maxB x y)) := by
  show Builtin.max2 (F x) (F y) >>= pure = _
  unfold Builtin.max2 maxB
  have h := order_key D hfD hx hy
  have h' : FloatKind.f64.format.order x y = some (compare (key D x) (key D y)) := h
  simp only [h, h']
  cases compare (key D x) (key D y) <;> rfl

theorem num_pinf : numW D PINF = true := by decide +kernel
theorem num_ninf : numW D NINF = true := by decide +kernel
theorem key_pinf : key D PINF = D.infRung := by decide +kernel
theorem key_ninf : key D NINF = -(D.infRung : Int) := by decide +kernel
/-- what the least and the greatest of the first ones are -/
structure LoHi (l : List Nat) (lo hi : Nat) : Prop where
  nlo : numW D lo = true
  nhi : numW D hi = true
  elo : lo = PINF ∨ (finW D lo = true)
  ehi : hi = NINF ∨ (finW D hi = true)
  all : ∀ v ∈ l, finW D v = true → key D lo ≤ key D v ∧ key D v ≤ key D hi
theorem loHi_of : ∀ (l m : List Nat) (lo hi : Nat), LoHi m lo hi → LoHi (m ++ l) (l.foldl (fun a v => if finW D v then minB a v else a) lo) (l.foldl (fun a v => if finW D v then maxB a v else a) hi)
  | [], m, lo, hi, h => by simpa using h
  | v :: l, m, lo, hi, h => by
    simp only [List.foldl_cons]
    rw [show m ++ v :: l = (m ++ [v]) ++ l by simp]
    apply loHi_of l
    by_cases hv : finW D v = true
    · rw [if_pos hv, if_pos hv]
      have nv := num_fin hv
      obtain ⟨a1, a2, a3⟩ := min_num h.nlo nv
      obtain ⟨b1, b2, b3⟩ := max_num h.nhi nv
      refine ⟨a1, b1, ?_, ?_, ?_⟩
      · rcases a3 with a3 | a3 <;> rw [a3]
        · exact h.elo
        · exact .inr hv
      · rcases b3 with b3 | b3 <;> rw [b3]
        · exact h.ehi
        · exact .inr hv
      · intro u hu hfu
        rw [a2, b2]
        rcases List.mem_append.1 hu with hu | hu
        · have := h.all u hu hfu; omega
        · simp at hu; subst hu; omega
    · have hv' : finW D v = false := by simpa using hv
      rw [if_neg (by simp [hv']), if_neg (by simp [hv'])]
      refine ⟨h.nlo, h.nhi, h.elo, h.ehi, ?_⟩
      intro u hu hfu
      rcases List.mem_append.1 hu with hu | hu
      · exact h.all u hu hfu
      · simp at hu; subst hu; rw [hv'] at hfu; cases hfu
theorem loHi (l : List Nat) : LoHi l (loT l) (hiT l) := by
  have := loHi_of l [] PINF NINF ⟨num_pinf, num_ninf, .inl rfl, .inl rfl, fun v hv => by simp at hv⟩
  rw [List.nil_append] at this
  exact this
theorem between {l : List Nat} {v : Nat} (hm : v ∈ l) (hv : finW D v = true) : Between v (loT l) (hiT l) := by
  have h := loHi l
  obtain ⟨h1, h2⟩ := h.all v hm hv
  have hk : rungW D v < D.infRung := by simpa [finW] using hv
  have hkv : -(D.infRung : Int) < key D v ∧ key D v < D.infRung := by unfold key sg; split <;> omega
  refine ⟨hv, ?_, ?_, h1, h2⟩
  · rcases h.elo with e | e
    · rw [e, key_pinf] at h1; omega
    · exact e
  · rcases h.ehi with e | e
    · rw [e, key_ninf] at h2; omega
    · exact e

theorem foldl_take_succ {α : Type} (g : α → Nat → α) (a : α) (l : List Nat) {k : Nat} (h : k < l.length) : (l.take (k + 1)).foldl g a = g ((l.take k).foldl g a) (l.getD k 0) := by
  rw [List.take_succ_eq_append_getElem h, List.foldl_append]
  simp [List.getD_eq_getElem?_getD, h]

def partS (l : List Nat) (W i : Nat) : Nat → Value := fun j => .int .i32 (if j < W - l.length + i then sparkRow l W j else 32)
theorem spark_next {w : World} {r W i : Nat} {l : List Nat} (hl : l.length ≤ W) (hi : i < l.length) (h : w.rowIs r 21 W (partS l W i)) {v : Int} (hv : v = sparkC (l.getD i 0) (loT l) (hiT l)) : (w.setCell ⟨r, W - l.length + i, none⟩ (.int .i32 v)).rowIs r 21 W (partS l W (i + 1)) := by
  subst hv
  exact (h.set _ _).congr fun j _ => by
    by_cases e : j = W - l.length + i
    · subst e; rw [if_pos rfl]; unfold partS sparkRow; rw [if_pos (by omega), if_neg (by omega), show W - l.length + i - (W - l.length) = i by omega]
    · rw [if_neg e]; unfold partS
      by_cases h1 : j < W - l.length + i
      · rw [if_pos h1, if_pos (by omega)]
      · rw [if_neg h1, if_neg (by omega)]
theorem spark_skip {w : World} {r W i : Nat} {l : List Nat} (hl : l.length ≤ W) (hi : i < l.length) (h : w.rowIs r 21 W (partS l W i)) (hv : 32 = sparkC (l.getD i 0) (loT l) (hiT l)) : w.rowIs r 21 W (partS l W (i + 1)) :=
  h.congr fun j _ => by
    unfold partS
    by_cases e : j = W - l.length + i
    · subst e; rw [if_neg (by omega), if_pos (by omega)]; unfold sparkRow; rw [if_neg (by omega), show W - l.length + i - (W - l.length) = i by omega, ← hv]
    · by_cases h1 : j < W - l.length + i
      · rw [if_pos h1, if_pos (by omega)]
      · rw [if_neg h1, if_neg (by omega)]

/-- a slice's last elements -/
theorem run_tail {P : Program} (w : World) (t e : TypeId) (ht : P.underlying t = some (.slice e)) (hs : (P.info? e).map (·.size) = some 1) (a : Option Addr) (cap : Nat) (xs : List Value) (k : Nat) (hk : k ≤ xs.length) (hcap : xs.length ≤ cap) (hR : run.Reads w (.slice a xs.length cap) xs) :
    ∃ a' cap', (Instr.slice t (.slice a xs.length cap) (some (.int .i64 k)) none none).run P w = .ok (.slice a' (xs.length - k) cap') w ∧ run.Reads w (.slice a' (xs.length - k) cap') (xs.drop k) ∧ xs.length - k ≤ cap' ∧ (∀ ad', a' = some ad' → ∃ ad, a = some ad ∧ ad.block = ad'.block) := by
  obtain ⟨i, hi, hsz⟩ := Option.map_eq_some_iff.1 hs
  refine ⟨if cap = k then a else a.map (·.add k), cap - k, ?_, ?_, by omega, ?_⟩
  rotate_left 2
  · intro ad' h
    by_cases e : cap = k
    · rw [if_pos e] at h; exact ⟨ad', h, rfl⟩
    · rw [if_neg e] at h
      obtain ⟨ad, h1, h2⟩ := Option.map_eq_some_iff.1 h
      refine ⟨ad, h1, ?_⟩
      rw [← h2]
      unfold Addr.add
      split <;> rfl
  · have e1 : (0 : Int) ≤ (k : Int) ∧ (k : Int) ≤ (xs.length : Int) := by omega
    simp [Instr.slice, run_underlying ht, Instr.sliceBounds, Instr.sliceBound, asIntOf, sizeOf, typeInfo, hi, hsz, e1, Result.andThen]
    rw [if_pos (show k ≤ xs.length from hk)]
  · obtain ⟨a0, c0, he, hc, hn⟩ := hR
    simp only [Value.slice.injEq] at he
    obtain ⟨rfl, -, rfl⟩ := he
    refine ⟨if cap = k then a else a.map (·.add k), cap - k, by rw [List.length_drop], ?_, ?_⟩
    · intro hne
      have hlt : k < xs.length := by
        rcases Nat.lt_or_ge k xs.length with h | h
        · exact h
        · exact absurd (List.drop_eq_nil_of_le h) hne
      obtain ⟨b, off, rfl, hb, hcl⟩ := hc (by intro e; rw [e] at hlt; simp at hlt)
      rw [if_neg (by omega)]
      refine ⟨b, off + k, by simp only [Option.map_some, run.add_none], hb, ?_⟩
      intro i u hu
      rw [List.getElem?_drop] at hu
      rw [Nat.add_assoc]
      exact hcl _ _ hu
    · intro hh
      have ha : a = none := by
        by_cases e : cap = k
        · rw [if_pos e] at hh; exact hh
        · rw [if_neg e] at hh; simpa using hh
      have := hn ha
      omega

end Go.Proofs.YtbfheehaagcmeaaDoor.can
namespace Go.Proofs.YtbfheehaagcmeaaDoor.can
open Go.RowKit Go.Proofs Go.Proofs.YtbfheehaagcmeaaDoor.flo
set_option linter.unusedVariables false

theorem info_f64s : (Tryd.prog.info? 45).map (·.size) = some 1 := by kernel_rfl
theorem blank_next {w : World} {r W i : Nat} (h : w.rowIs r 21 W fun j => .int .i32 (if j < i then 32 else 0)) : (w.setCell ⟨r, i, none⟩ (.int .i32 32)).rowIs r 21 W fun j => .int .i32 (if j < i + 1 then 32 else 0) :=
  (h.set i _).congr fun j _ => by
    by_cases e : j = i
    · subst e; rw [if_pos rfl, if_pos (by omega)]
    · rw [if_neg e]
      by_cases h1 : j < i
      · rw [if_pos h1, if_pos (by omega)]
      · rw [if_neg h1, if_neg (by omega)]
theorem blank_full {w : World} {r W : Nat} {l : List Nat} (h : w.rowIs r 21 W fun j => .int .i32 (if j < W then 32 else 0)) : w.rowIs r 21 W (partS l W 0) :=
  h.congr fun j hj => by
    unfold partS sparkRow
    rw [if_pos hj]
    by_cases h1 : j < W - l.length
    · rw [if_pos (by omega), if_pos h1]
    · rw [if_neg (by omega)]
theorem spark_done {w : World} {r W : Nat} {l : List Nat} (hl : l.length ≤ W) (h : w.rowIs r 21 W (partS l W l.length)) : w.rowIs r 21 W fun j => .int .i32 (sparkRow l W j) :=
  h.congr fun j hj => by unfold partS; rw [if_pos (by omega)]

def loK (l : List Nat) (k : Nat) : Nat := loT (l.take k)
def hiK (l : List Nat) (k : Nat) : Nat := hiT (l.take k)
theorem loK_succ {l : List Nat} {k : Nat} (h : k < l.length) : loK l (k + 1) = (if finW D (l.getD k 0) then minB (loK l k) (l.getD k 0) else loK l k) ∧ hiK l (k + 1) = (if finW D (l.getD k 0) then maxB (hiK l k) (l.getD k 0) else hiK l k) :=
  ⟨foldl_take_succ _ _ l h, foldl_take_succ _ _ l h⟩

/-- cells that a slice of floats leads to -/
theorem reads_at {w : World} {a : Option Addr} {cap : Nat} {l : List Nat} (h : run.Reads w (.slice a l.length cap) (l.map F)) {k : Nat} (hk : k < l.length) : ∃ b off, a = some ⟨b, off, none⟩ ∧ b < w.heap.size ∧ ∀ k, k < l.length → w.cell? ⟨b, off + k, none⟩ = some (F (l.getD k 0)) := by
  obtain ⟨a0, c0, he, hc, hn⟩ := h
  simp only [Value.slice.injEq] at he
  obtain ⟨rfl, -, rfl⟩ := he
  obtain ⟨b, off, e, hb, hcl⟩ := hc (by intro e; have := congrArg List.length e; simp at this; rw [this] at hk; simp at hk)
  refine ⟨b, off, e, hb, fun k hk => hcl k _ ?_⟩
  rw [List.getElem?_map, List.getElem?_eq_getElem hk]
  simp [List.getD_eq_getElem?_getD, hk]

set_option maxRecDepth 100000 in
set_option maxHeartbeats 4000000 in
theorem spark_any (l : List Nat) (a : Option Addr) (cap : Nat) (w0 : Int) (w : World) (hR : run.Reads w (.slice a l.length cap) (l.map F)) (hcap : l.length ≤ cap) (hwf : ∀ v ∈ l, v < 18446744073709551616) (hlen : l.length ≤ 140737488355328) (hw : -9223372036854775808 ≤ w0 ∧ w0 ≤ 9223372036854775807) :
    Calls Tryd.prog 27 #[.slice a l.length cap, .int .i64 w0] w fun e w' => e = .returned (.string (sparkT l w0)) ∧ Below w.heap.size w w' := by
  obtain ⟨W, hW⟩ : ∃ W : Nat, min (max w0 0) 4096 = (W : Int) := ⟨(min (max w0 0) 4096).toNat, by omega⟩
  have hWb : W ≤ 4096 := by omega
  obtain ⟨L, hL⟩ : ∃ L, L = lastT l W := ⟨_, rfl⟩
  have HE := run.hid (show sparkT l w0 = strOf ((List.range W).map (sparkRow L W)) by unfold sparkT wideT; rw [hW, Int.toNat_natCast, hL])
  have hLl : L.length ≤ W ∧ L.length = l.length - (l.length - W) := by rw [hL]; unfold lastT; rw [List.length_drop]; omega
  have HLW : Hid (∀ k, k < L.length → L.getD k 0 < 18446744073709551616) := by
    intro k hk
    apply hwf
    have : L.getD k 0 ∈ L := by simp [List.getD_eq_getElem?_getD, hk]
    rw [hL] at this
    rw [hL]
    exact List.mem_of_mem_drop this
  have HRT := run.hid (fun w (h : run.Reads w (.slice a l.length cap) (l.map F)) => run_tail (P := Tryd.prog) w 68 45 Tryd.underlying68 info_f64s a cap (l.map F) (l.length - W) (by rw [List.length_map]; omega) (by rw [List.length_map]; exact hcap) (by rw [List.length_map]; exact h))
  simp only [List.length_map, ← List.map_drop] at HRT
  rw [show l.drop (l.length - W) = L from hL.symm, ← hLl.2] at HRT
  have HRd := run.hid hR
  have HBK : Hid (0 < l.length → ∀ ad, a = some ad → ad.block < w.heap.size) := by
    intro h0 ad e
    obtain ⟨b, off, e2, hb, -⟩ := reads_at hR h0
    rw [e2] at e; cases e; exact hb
  have HLL := run.hid hLl
  have HL0 := run.hid (show ¬ W < l.length → L = l by intro h; rw [hL]; unfold lastT; rw [show l.length - W = 0 by omega, List.drop_zero])
  have hmk := run_make_row' (P := Tryd.prog) 61 21 (.int .i32 0) 4 Tryd.underlying61 info_i32 rfl .i64 .i64 W (by omega) (by omega) w
  have HR := run.hid (World.rowIs_made w (.int .i32 0) W 21)
  have HB := run.hid (run.below_one w (.cells (madeCells #[.int .i32 0] W) 21))
  obtain ⟨hn1, hn2⟩ := hLl
  obtain ⟨N, hN⟩ : ∃ N, N = l.length := ⟨_, rfl⟩
  obtain ⟨n, hn⟩ : ∃ n, n = L.length := ⟨_, rfl⟩
  rw [← hN] at hlen hcap hn2 HRT HRd HL0 HBK ⊢
  rw [← hn] at hn1 hn2 HRT HLW
  have HNL := run.hid hN
  have Hn := run.hid hn
  clear hL hR hwf HLL hN hn
  have HWW := run.hid hW
  have HN2 := run.hid hn2
  have hn3 : n ≤ N := by omega
  clear hn2
  go_enter Tryd.func27, Tryd.ntmps27
  go_wp2
  clear hmk hW
  have hsz : (w.alloc (.cells (madeCells #[.int .i32 0] W) 21)).heap.size = w.heap.size + 1 := by simp
  have HRd1 := run.hid (HRd.out.below HB.out)
  generalize w.alloc (.cells (madeCells #[.int .i32 0] W) 21) = w1 at *
  generalize hr : w.heap.size = r at *
  go_loopw [23] (fun v wr => ∃ i : Nat, i ≤ W ∧ v = .int .i64 i ∧ Hid (wr.rowIs r 21 W fun j => .int .i32 (if j < i then 32 else 0)) ∧ Hid (w1.grownBy wr (some r))) (fun v _ => W - (intOf v).toNat)
  case atStart => exact ⟨0, Nat.zero_le _, rfl, HR.out.congr (fun j _ => rfl), World.grownBy.refl _ _⟩
  case round =>
    obtain ⟨i, hi, rfl, HRr, HGr⟩ := hrel
    by_cases hlt : i < W
    · have hcl := HRr.out.cell hlt
      have hfz := HRr.out.frozen i
      have H1 := run.hid (blank_next HRr.out)
      have H2 := run.hid (run.grown_trans HGr.out (setCell_grown wr r i (.int .i32 32)) (.inl rfl))
      clear HRr HGr
      go_wp2
      go_roundw
      case rel => exact ⟨i + 1, by omega, by go_num, H1, H2⟩
      case measure => simp [intOf]; omega
    · obtain rfl : i = W := by omega
      have HP := run.hid (blank_full (l := L) HRr.out)
      have HB2 := run.hid (HB.out.grown HGr.out (by omega) (by rintro k ⟨⟩; omega))
      have HRd2 := run.hid (HRd.out.below (by rw [hr]; exact HB2.out))
      have hsz2 := HB2.out.size
      clear HB HRd HRd1 HRr HGr HR hlt
      go_upto_if 33 with fail
      go_cut [0] (fun v wx => ∃ a' cap', v = .slice a' n cap' ∧ Hid (run.Reads wx (.slice a' n cap') (L.map F)) ∧ n ≤ cap' ∧ Hid (∀ b off, a' = some ⟨b, off, none⟩ → 0 < n → b < r) ∧ wx = wr)
      case first =>
        by_cases hgt : i < N
        · obtain ⟨a', cap', hrun, h2, h3, h4⟩ := HRT.out wr HRd2.out
          have H4 : Hid (∀ b off, a' = some ⟨b, off, none⟩ → 0 < n → b < r) := by
            intro b off e h0
            obtain ⟨ad, e1, e2⟩ := h4 _ e
            exact by have := HBK.out (by omega) ad e1; rw [e2] at this; exact this
          have H2 := run.hid h2
          have e1 : N - i = N - i := rfl
          rw [show ((N - i : Nat) : Int) = (N : Int) - (i : Int) by omega] at hrun
          clear h2 h4 e1 HRT
          go_wp2
          go_meet
          case rel => exact ⟨a', cap', rfl, H2, h3, H4, rfl⟩
        · have hLe := HL0.out hgt
          have hn2 := HN2.out
          obtain rfl : n = N := by omega
          clear hn2
          have hgt' : n ≤ i := by omega
          clear HRT
          go_wp2
          go_meet
          case rel => exact ⟨a, cap, rfl, by rw [hLe]; exact HRd2.out, hcap, fun b off e h0 => HBK.out h0 _ e, rfl⟩
      case rest =>
        obtain ⟨a', cap', rfl, HRx, hcx, HBR, rfl⟩ := hcut
        clear HRT HRd2 HL0
        go_wp2_with fail
        refine (inf_up _).mono ?_
        rintro e w' ⟨rfl, rfl⟩
        go_wp2_with fail
        refine (inf_down _).mono ?_
        rintro e w' ⟨rfl, rfl⟩
        go_wp2
        go_loop [44, 7, 8] (fun v lo hi => ∃ k : Nat, k ≤ n ∧ v = .int .i64 k ∧ lo = F (loK L k) ∧ hi = F (hiK L k)) (fun v _ _ => n - (intOf v).toNat)
        case atStart => exact ⟨0, Nat.zero_le _, rfl, rfl, rfl⟩
        case round =>
          obtain ⟨k, hk, rfl, rfl, rfl⟩ := hrel
          by_cases hlt : k < n
          · have hRx := HRx.out
            rw [Hn.out] at hRx
            obtain ⟨b, off, rfl, hb, hcl⟩ := reads_at hRx (by rw [← Hn.out]; exact hlt)
            have hc := hcl k (by rw [← Hn.out]; exact hlt)
            have hx := HLW.out k hlt
            have hs := loK_succ (l := L) (k := k) (by rw [← Hn.out]; exact hlt)
            have hlh := loHi (L.take k)
            have n1 : numW D (loK L k) = true := hlh.nlo
            have n2 : numW D (hiK L k) = true := hlh.nhi
            clear hRx hcl hlh
            generalize L.getD k 0 = x at *
            obtain ⟨p', hp'⟩ : ∃ p', p' = loK L (k + 1) := ⟨_, rfl⟩
            obtain ⟨q', hq'⟩ : ∃ q', q' = hiK L (k + 1) := ⟨_, rfl⟩
            have HS := run.hid hs
            clear hs
            have HN := run.hid (isnan_any x wc)
            have HI := run.hid (isinf_any x wc hx)
            rcases fin_cases x with ⟨f1, f2⟩ | ⟨f1, f2, f3⟩ | ⟨f1, f2, f3⟩
            · have h1 : loK L (k + 1) = loK L k := by rw [HS.out.1, f2]; rfl
              have h2 : hiK L (k + 1) = hiK L k := by rw [HS.out.2, f2]; rfl
              have H1 := run.hid h1
              have H2 := run.hid h2
              rw [f1] at HN
              clear h1 h2 HS HI f1 f2 hp' hq' n1 n2
              go_wp2_with fail
              refine HN.out.mono ?_
              rintro e w' ⟨rfl, rfl⟩
              go_wp2
              go_round
              case rel => exact ⟨k + 1, by omega, by go_num, by rw [H1.out], by rw [H2.out]⟩
              case measure => simp [intOf]; omega
            · have h1 : loK L (k + 1) = loK L k := by rw [HS.out.1, f3]; rfl
              have h2 : hiK L (k + 1) = hiK L k := by rw [HS.out.2, f3]; rfl
              have H1 := run.hid h1
              have H2 := run.hid h2
              rw [f1] at HN
              rw [f2, beq_self_eq_true] at HI
              clear h1 h2 HS f1 f2 f3 hp' hq' n1 n2
              go_wp2_with fail
              refine HN.out.mono ?_
              rintro e w' ⟨rfl, rfl⟩
              go_wp2_with fail
              refine HI.out.mono ?_
              rintro e w' ⟨rfl, rfl⟩
              go_wp2
              go_round
              case rel => exact ⟨k + 1, by omega, by go_num, by rw [H1.out], by rw [H2.out]⟩
              case measure => simp [intOf]; omega
            · have h1 : loK L (k + 1) = minB (loK L k) x := by rw [HS.out.1, f3]; rfl
              have h2 : hiK L (k + 1) = maxB (hiK L k) x := by rw [HS.out.2, f3]; rfl
              have H1 := run.hid h1
              have H2 := run.hid h2
              rw [f1] at HN
              rw [show (rungW D x == D.infRung) = false by simpa using f2] at HI
              have E1 := fun ts t => run_minB n1 (num_fin f3) ts t
              have E2 := fun ts t => run_maxB n2 (num_fin f3) ts t
              clear h1 h2 HS f1 f2 f3 hp' hq' n1 n2
              go_wp2_with fail
              refine HN.out.mono ?_
              rintro e w' ⟨rfl, rfl⟩
              go_wp2_with fail
              refine HI.out.mono ?_
              rintro e w' ⟨rfl, rfl⟩
              go_wp2
              go_round
              case rel => exact ⟨k + 1, by omega, by go_num, by rw [H1.out], by rw [H2.out]⟩
              case measure => simp [intOf]; omega
          · obtain rfl : k = n := by omega
            have hlo : loK L k = loT L := by unfold loK; rw [Hn.out, List.take_length]
            have hhi : hiK L k = hiT L := by unfold hiK; rw [Hn.out, List.take_length]
            rw [hlo, hhi]
            clear hlo hhi
            obtain ⟨lo, hlo⟩ : ∃ lo, lo = loT L := ⟨_, rfl⟩
            obtain ⟨hi, hhi⟩ : ∃ hi, hi = hiT L := ⟨_, rfl⟩
            rw [← hlo, ← hhi]
            have HLO := run.hid hlo
            have HHI := run.hid hhi
            clear hlo hhi
            go_wp2
            go_loopw [69] (fun v wr => ∃ j : Nat, j ≤ k ∧ v = .int .i64 j ∧ Hid (wr.rowIs r 21 i (partS L i j)) ∧ Hid (wc.grownBy wr (some r))) (fun v _ => k - (intOf v).toNat)
            case atStart => exact ⟨0, Nat.zero_le _, rfl, HP, World.grownBy.refl _ _⟩
            case round =>
              obtain ⟨j, hj, rfl, HQr, HGr⟩ := hrel
              by_cases hlt : j < k
              · have hRx := HRx.out
                rw [Hn.out] at hRx
                obtain ⟨b, off, rfl, hb, hcl⟩ := reads_at hRx (by rw [← Hn.out]; exact hlt)
                have hbr : b ≠ r := by have := HBR.out b off rfl (by omega); omega
                have hc := (World.cell?_of_block (w := wc) (a := ⟨b, off + j, none⟩) (HGr.out.block b hb (by simpa using hbr))).trans (hcl j (by rw [← Hn.out]; exact hlt))
                have hx := HLW.out j hlt
                have hm : L.getD j 0 ∈ L := by
                  have : j < L.length := by rw [← Hn.out]; exact hlt
                  simp [List.getD_eq_getElem?_getD, this]
                have HM := run.hid (fun h => between hm h)
                have HC := run.hid (show sparkC (L.getD j 0) lo hi = sparkC (L.getD j 0) (loT L) (hiT L) by rw [← HLO.out, ← HHI.out])
                have hcl2 := HQr.out.cell (show i - k + j < i by omega)
                have hfz2 := HQr.out.frozen (i - k + j)
                have HST := run.hid (fun v (hv : v = sparkC (L.getD j 0) lo hi) => spark_next (w := wr) (r := r) (W := i) (by rw [← Hn.out]; exact hn1) (by rw [← Hn.out]; exact hlt) HQr.out (hv.trans HC.out))
                have HSK := run.hid (fun (hv : 32 = sparkC (L.getD j 0) lo hi) => spark_skip (w := wr) (r := r) (W := i) (by rw [← Hn.out]; exact hn1) (by rw [← Hn.out]; exact hlt) HQr.out (hv.trans HC.out))
                rw [← Hn.out] at HST
                rw [← HLO.out, ← HHI.out] at HM
                clear hRx hcl hm
                generalize L.getD j 0 = x at *
                have HN := run.hid (isnan_any x wr)
                have HU := run.hid (isinf_up x wr)
                have HD := run.hid (isinf_down x wr hx)
                rcases fin_cases x with ⟨f1, f2⟩ | ⟨f1, f2, f3⟩ | ⟨f1, f2, f3⟩
                · have H1 := run.hid (HSK.out (by unfold sparkC; rw [if_pos f1]))
                  rw [f1] at HN
                  clear HST HSK HU HD HM HC f1 f2
                  go_wp2_with fail
                  refine HN.out.mono ?_
                  rintro e w' ⟨rfl, rfl⟩
                  go_wp2
                  go_roundw
                  case rel => exact ⟨j + 1, by omega, by go_num, H1, HGr⟩
                  case measure => simp [intOf]; omega
                · rw [f1] at HN
                  cases hp : pinfW x with
                  | true =>
                    have H1 := run.hid (HST.out 9608 (by unfold sparkC; rw [if_neg (by rw [f1]; simp), if_pos hp]))
                    have H2 := run.hid (run.grown_trans HGr.out (setCell_grown wr r (i - k + j) (.int .i32 9608)) (.inl rfl))
                    rw [hp] at HU
                    clear HST HSK HD HM HC f1 f2 f3 hp
                    go_wp2_with fail
                    refine HN.out.mono ?_
                    rintro e w' ⟨rfl, rfl⟩
                    go_wp2_with fail
                    refine HU.out.mono ?_
                    rintro e w' ⟨rfl, rfl⟩
                    go_wp2
                    go_roundw
                    case rel => exact ⟨j + 1, by omega, by go_num, H1, H2⟩
                    case measure => simp [intOf]; omega
                  | false =>
                    have hq : ninfW x = true := by
                      unfold pinfW at hp; unfold ninfW
                      rw [f2, beq_self_eq_true] at hp ⊢
                      simpa using hp
                    have H1 := run.hid (HST.out 9601 (by unfold sparkC; rw [if_neg (by rw [f1]; simp), if_neg (by rw [hp]; simp), if_pos hq]))
                    have H2 := run.hid (run.grown_trans HGr.out (setCell_grown wr r (i - k + j) (.int .i32 9601)) (.inl rfl))
                    rw [hp] at HU
                    rw [hq] at HD
                    clear HST HSK HM HC f1 f2 f3 hp hq
                    go_wp2_with fail
                    refine HN.out.mono ?_
                    rintro e w' ⟨rfl, rfl⟩
                    go_wp2_with fail
                    refine HU.out.mono ?_
                    rintro e w' ⟨rfl, rfl⟩
                    go_wp2_with fail
                    refine HD.out.mono ?_
                    rintro e w' ⟨rfl, rfl⟩
                    go_wp2
                    go_roundw
                    case rel => exact ⟨j + 1, by omega, by go_num, H1, H2⟩
                    case measure => simp [intOf]; omega
                · rw [f1] at HN
                  have hp : pinfW x = false := by unfold pinfW; rw [show (rungW D x == D.infRung) = false by simpa using f2]; rfl
                  have hq : ninfW x = false := by unfold ninfW; rw [show (rungW D x == D.infRung) = false by simpa using f2]; rfl
                  rw [hp] at HU
                  rw [hq] at HD
                  have HB3 := run.hid (HM.out f3)
                  have HST2 := run.hid (fun (v : Int) (hv : v = 9601 + blockT x lo hi) => HST.out v (by unfold sparkC; rw [if_neg (by rw [f1]; simp), if_neg (by rw [hp]; simp), if_neg (by rw [hq]; simp)]; exact hv))
                  clear HST HSK HM HC f1 f2 f3 hp hq
                  have hb3 := HB3.out
                  have Eh := bin_quo 45 (div_two hb3.hhi).1
                  have El := bin_quo 45 (div_two hb3.hlo).1
                  have Ev := bin_quo 45 (div_two hb3.hv).1
                  have Ed := bin_sub 45 (halves hb3.hhi hb3.hlo).1
                  have Ea := bin_sub 45 (halves hb3.hv hb3.hlo).1
                  have En := bin_neq 45 (below lo hi) 0
                  have HE2 := run.hid (fun h => parts hb3 h)
                  have HI2 := run.hid (fun h => eighth_int hb3 h)
                  clear hb3
                  unfold TWO at Eh El Ev
                  change binOp .sub 45 _ _ = pure (F (below lo hi)) at Ed
                  by_cases hz : D.order (below lo hi) 0 = some .eq
                  · have hk3 : blockT x lo hi = 3 := by unfold blockT; rw [if_pos hz]
                    rw [hz] at En
                    change binOp .neq 45 _ _ = pure (.bool false) at En
                    have H1 := run.hid (HST2.out 9604 (by rw [hk3]; rfl))
                    have H2 := run.hid (run.grown_trans HGr.out (setCell_grown wr r (i - k + j) (.int .i32 9604)) (.inl rfl))
                    clear HE2 HI2 HB3 HST2 hz hk3 Ev Ea
                    unfold TWO at Ed
                    generalize below lo hi = d at *
                    generalize fdiv hi 4611686018427387904 = h2 at *
                    generalize fdiv lo 4611686018427387904 = l2 at *
                    go_wp2_with fail
                    refine HN.out.mono ?_
                    rintro e w' ⟨rfl, rfl⟩
                    go_wp2_with fail
                    refine HU.out.mono ?_
                    rintro e w' ⟨rfl, rfl⟩
                    go_wp2_with fail
                    refine HD.out.mono ?_
                    rintro e w' ⟨rfl, rfl⟩
                    go_wp2
                    go_roundw
                    case rel => exact ⟨j + 1, by omega, by go_num, H1, H2⟩
                    case measure => simp [intOf]; omega
                  · obtain ⟨p1, p2, -, -, -⟩ := HE2.out hz
                    obtain ⟨i1, i2, i3, -⟩ := HI2.out hz
                    have Eq := bin_quo 45 p1
                    have Em := bin_mul 45 p2
                    have Ec := fun w => run_convert_float_int (P := Tryd.prog) w 45 3 .f64 .i64 (eighth x lo hi) (toI (eighth x lo hi)) (by rw [Tryd.underlying45]; rfl) Tryd.underlying3 (by
                      unfold floatToIntVal
                      have e : (FloatKind.f64.decode (eighth x lo hi)).toInt .zero = some (toI (eighth x lo hi)) := i1
                      rw [e]
                      simp only
                      rw [if_pos]
                      have h1 : IntKind.i64.min = -9223372036854775808 := by decide
                      have h2 : IntKind.i64.max = 9223372036854775807 := by decide
                      omega)
                    have hbn : (D.order (below lo hi) 0 != some .eq) = true := by simpa using hz
                    rw [hbn] at En
                    have hk4 : blockT x lo hi = min (toI (eighth x lo hi)) 7 := by unfold blockT; rw [if_neg hz]
                    obtain ⟨K, hK⟩ : ∃ K : Int, min (toI (eighth x lo hi)) 7 = K := ⟨_, rfl⟩
                    have hKb : 0 ≤ K ∧ K ≤ 7 := by omega
                    have H1 := run.hid (HST2.out (9601 + K) (by rw [hk4, hK]))
                    have H2 := run.hid (run.grown_trans HGr.out (setCell_grown wr r (i - k + j) (.int .i32 (9601 + K))) (.inl rfl))
                    clear HE2 HI2 HB3 HST2 hz hk4 p1 p2 i1 i2 i3 hbn
                    unfold TWO at Ed Ea Eq
                    unfold EIGHT at Em
                    generalize toI (eighth x lo hi) = n8 at *
                    generalize eighth x lo hi = e8 at *
                    generalize flo.part x lo hi = pt at *
                    generalize below lo hi = d at *
                    generalize fsub (fdiv x 4611686018427387904) (fdiv lo 4611686018427387904) = aa at *
                    generalize fdiv hi 4611686018427387904 = h2 at *
                    generalize fdiv lo 4611686018427387904 = l2 at *
                    generalize fdiv x 4611686018427387904 = x2 at *
                    go_wp2_with fail
                    refine HN.out.mono ?_
                    rintro e w' ⟨rfl, rfl⟩
                    go_wp2_with fail
                    refine HU.out.mono ?_
                    rintro e w' ⟨rfl, rfl⟩
                    go_wp2_with fail
                    refine HD.out.mono ?_
                    rintro e w' ⟨rfl, rfl⟩
                    go_wp2
                    go_roundw
                    case rel => exact ⟨j + 1, by omega, by go_num, H1, H2⟩
                    case measure => simp [intOf]; omega
              · obtain rfl : j = k := by omega
                have hF := spark_done (by rw [← Hn.out]; exact hn1) (by rw [← Hn.out]; exact HQr.out)
                have hs := run_str_row (P := Tryd.prog) wr 61 9 21 r i i 21 _ Tryd.underlying61 Tryd.underlying21 Tryd.underlying9 hF
                have HB4 := run.hid (HB2.out.grown HGr.out (by omega) (by rintro k ⟨⟩; omega))
                clear hF
                go_wp2
                go_ret
                exact ⟨by rw [HE.out]; rfl, by rw [hr]; exact HB4.out⟩

end Go.Proofs.YtbfheehaagcmeaaDoor.can
namespace Go.Proofs.YtbfheehaagcmeaaDoor.can
open Go.RowKit Go.Proofs Go.Proofs.YtbfheehaagcmeaaDoor.flo Ieee
set_option linter.unusedVariables false

def lowR (a v : Nat) : Nat := if finW D v && (D.order v a == some .lt) then v else a
def highR (a v : Nat) : Nat := if finW D v && (D.order v a == some .gt) then v else a
def loR (l : List Nat) : Nat := l.foldl lowR PINF
def hiR (l : List Nat) : Nat := l.foldl highR NINF

theorem low_key {a v : Nat} (ha : numW D a = true) (hv : finW D v = true) : numW D (lowR a v) = true ∧ key D (lowR a v) = min (key D a) (key D v) := by
  have nv := num_fin hv
  unfold lowR
  rw [hv, Bool.true_and, order_key D hfD nv ha, cmp_def]
  by_cases h1 : key D v < key D a
  · rw [if_pos h1, if_pos (by rfl)]; exact ⟨nv, by omega⟩
  · rw [if_neg h1]
    by_cases h2 : key D v = key D a
    · rw [if_pos h2, if_neg (by decide)]; exact ⟨ha, by omega⟩
    · rw [if_neg h2, if_neg (by decide)]; exact ⟨ha, by omega⟩
theorem high_key {a v : Nat} (ha : numW D a = true) (hv : finW D v = true) : numW D (highR a v) = true ∧ key D (highR a v) = max (key D a) (key D v) := by
  have nv := num_fin hv
  unfold highR
  rw [hv, Bool.true_and, order_key D hfD nv ha, cmp_def]
  by_cases h1 : key D v < key D a
  · rw [if_pos h1, if_neg (by decide)]; exact ⟨ha, by omega⟩
  · rw [if_neg h1]
    by_cases h2 : key D v = key D a
    · rw [if_pos h2, if_neg (by decide)]; exact ⟨ha, by omega⟩
    · rw [if_neg h2, if_pos (by rfl)]; exact ⟨nv, by omega⟩
theorem fold_keys : ∀ (l : List Nat) (a b a' b' : Nat), numW D a = true → numW D b = true → numW D a' = true → numW D b' = true → key D a = key D a' → key D b = key D b' →
    key D (l.foldl lowR a) = key D (l.foldl (fun a v => if finW D v then minB a v else a) a') ∧ key D (l.foldl highR b) = key D (l.foldl (fun a v => if finW D v then maxB a v else a) b')
  | [], a, b, a', b', h1, h2, h3, h4, h5, h6 => ⟨h5, h6⟩
  | v :: l, a, b, a', b', h1, h2, h3, h4, h5, h6 => by
    simp only [List.foldl_cons]
    by_cases hv : finW D v = true
    · rw [if_pos hv, if_pos hv]
      have nv := num_fin hv
      obtain ⟨x1, x2⟩ := low_key h1 hv
      obtain ⟨y1, y2⟩ := high_key h2 hv
      obtain ⟨z1, z2, -⟩ := min_num h3 nv
      obtain ⟨u1, u2, -⟩ := max_num h4 nv
      exact fold_keys l _ _ _ _ x1 y1 z1 u1 (by rw [x2, z2, h5]) (by rw [y2, u2, h6])
    · have hv' : finW D v = false := by simpa using hv
      have e1 : lowR a v = a := by unfold lowR; rw [hv']; rfl
      have e2 : highR b v = b := by unfold highR; rw [hv']; rfl
      rw [e1, e2, if_neg (by simp [hv']), if_neg (by simp [hv'])]
      exact fold_keys l a b a' b' h1 h2 h3 h4 h5 h6
theorem keys_same (l : List Nat) : key D (loR l) = key D (loT l) ∧ key D (hiR l) = key D (hiT l) := fold_keys l PINF NINF PINF NINF num_pinf num_ninf num_pinf num_ninf rfl rfl

theorem fin_key {x y : Nat} (h : key D x = key D y) (hy : finW D y = true) : finW D x = true := by
  have e : rungW D x = rungW D y := by
    have := congrArg Int.natAbs h
    unfold key at this
    rwa [sg_natAbs, sg_natAbs] at this
  unfold finW at *
  rw [e]; exact hy
theorem between_keys {v lo hi lo' hi' : Nat} (h : Between v lo hi) (kl : key D lo' = key D lo) (kh : key D hi' = key D hi) : Between v lo' hi' :=
  ⟨h.hv, fin_key kl h.hlo, fin_key kh h.hhi, by rw [kl]; exact h.h1, by rw [kh]; exact h.h2⟩
theorem half_val {x y : Nat} (hx : finW D x = true) (hy : finW D y = true) (h : key D x = key D y) : val D (fdiv x TWO) = val D (fdiv y TWO) :=
  Int.le_antisymm (val_half_mono hx hy (Int.le_of_eq h)) (val_half_mono hy hx (Int.le_of_eq h.symm))

/-- a zero has the rung 0, whatever its sign -/
theorem toW_cases (s t : Bool) (T : Int) : (T ≠ 0 ∧ toW D s T = toW D t T) ∨ (T = 0 ∧ rungW D (toW D s T) = 0) := by
  by_cases h : T = 0
  · right
    refine ⟨h, ?_⟩
    rw [toW_rung, h]
    exact nr_zero D _
  · left
    refine ⟨h, ?_⟩
    unfold toW
    rw [if_neg h, if_neg h]
theorem rung_zero_key {x : Nat} (h : rungW D x = 0) : key D x = 0 := by unfold key sg; rw [h]; split <;> rfl

theorem below_same {v lo hi lo' hi' : Nat} (h : Between v lo hi) (kl : key D lo' = key D lo) (kh : key D hi' = key D hi) : (below lo' hi' = below lo hi) ∨ (rungW D (below lo' hi') = 0 ∧ rungW D (below lo hi) = 0) := by
  have h' := between_keys h kl kh
  obtain ⟨-, e1, -⟩ := halves h.hhi h.hlo
  obtain ⟨-, e2, -⟩ := halves h'.hhi h'.hlo
  have v1 := half_val h'.hlo h.hlo kl
  have v2 := half_val h'.hhi h.hhi kh
  unfold below
  rw [e1, e2, v1, v2]
  rcases toW_cases (negW D hi' && !negW D lo') (negW D hi && !negW D lo) (val D (fdiv hi TWO) - val D (fdiv lo TWO)) with ⟨-, h1⟩ | ⟨h0, h1⟩
  · exact .inl h1
  · right
    rw [h0] at h1 ⊢
    exact ⟨h1, by rw [toW_rung]; exact nr_zero D _⟩
theorem order_zero_same {v lo hi lo' hi' : Nat} (h : Between v lo hi) (kl : key D lo' = key D lo) (kh : key D hi' = key D hi) : D.order (below lo' hi') 0 = D.order (below lo hi) 0 := by
  have h' := between_keys h kl kh
  have f1 : finW D (below lo hi) = true := (halves h.hhi h.hlo).2.2
  have f2 : finW D (below lo' hi') = true := (halves h'.hhi h'.hlo).2.2
  rcases below_same h kl kh with e | ⟨e1, e2⟩
  · rw [e]
  · rw [zero_key f2, zero_key f1]
    show some (compare (key D (below lo' hi')) 0) = some (compare (key D (below lo hi)) 0)
    rw [rung_zero_key e1, rung_zero_key e2]

theorem read_zero_rung {x : Nat} (h : rungW D x = 0) : D.read x = .number (negW D x) 0 D.leastPlace := by
  obtain ⟨m, i, e, hi, hv⟩ := read_fin D (x := x) (by rw [h]; decide)
  unfold Format.read
  have h' : x % D.signWeight = 0 := h
  simp only [h']
  rw [if_pos (by decide)]
  rfl
theorem write_zero (s : Bool) (i : Int) : D.write (.number s 0 i) = D.word s 0 := rfl
theorem word_zero (s : Bool) : rungW D (D.word s 0) = 0 := (word_read D s (r := 0) (by decide)).2
theorem zero_eighth {a b : Nat} (ha : rungW D a = 0) (hb : finW D b = true) (hb0 : rungW D b ≠ 0) : rungW D (fmul EIGHT (fdiv a b)) = 0 := by
  have hb' : rungW D b < D.infRung := by simpa [finW] using hb
  obtain ⟨n, j, e, hj, hv⟩ := read_fin D hb'
  have hn : n ≠ 0 := by
    rintro rfl
    rw [Nat.zero_mul, ← V_zero D] at hv
    exact hb0 (V_inj D hv).symm
  have h1 : D.div a b = some (D.word (negW D a ^^ negW D b) 0) := by
    unfold Format.div
    rw [read_zero_rung ha, e]
    unfold Datum.quotient
    simp only
    rw [if_neg hn]
    simp only [Nat.zero_shiftLeft, Nat.zero_div, Nat.zero_mod, Nat.mul_zero, bne_self_eq_false, Bool.toNat_false, Nat.add_zero, Option.map_some]
    rfl
  have h2 : fdiv a b = D.word (negW D a ^^ negW D b) 0 := by unfold fdiv; rw [h1]; rfl
  have h3 : D.mul EIGHT (fdiv a b) = some (D.word (false ^^ negW D (fdiv a b)) 0) := by
    unfold Format.mul
    rw [read_eight, read_zero_rung (x := fdiv a b) (by rw [h2]; exact word_zero _)]
    rfl
  have h4 : fmul EIGHT (fdiv a b) = D.word (false ^^ negW D (fdiv a b)) 0 := by unfold fmul; rw [h3]; rfl
  rw [h4]
  exact word_zero _

theorem below_some {v lo hi : Nat} (h : Between v lo hi) (hne : D.order (below lo hi) 0 ≠ some .eq) : finW D (below lo hi) = true ∧ rungW D (below lo hi) ≠ 0 := by
  have f1 : finW D (below lo hi) = true := (halves h.hhi h.hlo).2.2
  refine ⟨f1, fun e => hne ?_⟩
  rw [zero_key f1, rung_zero_key e]
  rfl
theorem eighth_same {v lo hi lo' hi' : Nat} (h : Between v lo hi) (kl : key D lo' = key D lo) (kh : key D hi' = key D hi) (hne : D.order (below lo hi) 0 ≠ some .eq) : toI (eighth v lo' hi') = toI (eighth v lo hi) := by
  have h' := between_keys h kl kh
  have hne' : D.order (below lo' hi') 0 ≠ some .eq := by rw [order_zero_same h kl kh]; exact hne
  obtain ⟨-, -, -, t1⟩ := eighth_int h hne
  obtain ⟨-, -, -, t2⟩ := eighth_int h' hne'
  rw [t1, t2]
  suffices hr : rungW D (eighth v lo' hi') = rungW D (eighth v lo hi) by rw [hr]
  have hpart : ∀ v lo hi, eighth v lo hi = fmul EIGHT (fdiv (fsub (fdiv v TWO) (fdiv lo TWO)) (below lo hi)) := fun _ _ _ => rfl
  obtain ⟨fb, rb⟩ := below_some h hne
  obtain ⟨fb', rb'⟩ := below_some h' hne'
  have eb : below lo' hi' = below lo hi := by
    rcases below_same h kl kh with e | ⟨e1, -⟩
    · exact e
    · exact absurd e1 rb'
  obtain ⟨-, e1, -⟩ := halves h.hv h.hlo
  obtain ⟨-, e2, -⟩ := halves h'.hv h'.hlo
  rw [half_val h'.hlo h.hlo kl] at e2
  rcases toW_cases (negW D v && !negW D lo') (negW D v && !negW D lo) (val D (fdiv v TWO) - val D (fdiv lo TWO)) with ⟨-, h1⟩ | ⟨h0, h1⟩
  · rw [hpart, hpart, e1, e2, h1, eb]
  · have z2 : rungW D (fsub (fdiv v TWO) (fdiv lo' TWO)) = 0 := by rw [e2]; exact h1
    have z1 : rungW D (fsub (fdiv v TWO) (fdiv lo TWO)) = 0 := by rw [e1, h0, toW_rung]; exact nr_zero D _
    rw [hpart, hpart, zero_eighth z1 fb rb, zero_eighth z2 fb' rb']

/-- down to a whole number -/
def floorW (x : Nat) : Nat := D.write ((D.read x).integral .down)
theorem small_whole : ∀ k ∈ List.range 9, ∀ s ∈ [true, false], (D.read (D.write (.number s k 0))).toInt .zero = some (sg s k) := by decide +kernel
theorem floor_eighth {v lo hi : Nat} (h : Between v lo hi) (hne : D.order (below lo hi) 0 ≠ some .eq) : (D.read (floorW (eighth v lo hi))).toInt .zero = some (toI (eighth v lo hi)) ∧ 0 ≤ toI (eighth v lo hi) ∧ toI (eighth v lo hi) ≤ 8 := by
  obtain ⟨-, -, hf, -, hn⟩ := parts h hne
  obtain ⟨-, p1, p2, p3⟩ := eighth_int h hne
  refine ⟨?_, p1, p2⟩
  unfold floorW
  rw [down_fin D hf hlD hn]
  rw [p3] at p2 ⊢
  generalize hk : V D (rungW D (eighth v lo hi)) / 2 ^ (-D.leastPlace).toNat = k at *
  have hk8 : k ≤ 8 := by omega
  rw [small_whole k (by simp; omega) (negW D (eighth v lo hi)) (by cases negW D (eighth v lo hi) <;> simp)]
  rcases hn with hn | hn
  · rw [hn]; rfl
  · rw [hn, V_zero, Nat.zero_div] at hk
    subst hk
    unfold sg
    split <;> rfl

def blockR (v lo hi : Nat) : Int := if D.order (below lo hi) 0 = some .eq then 3 else min (toI (floorW (eighth v lo hi))) 7
theorem block_same {v lo hi lo' hi' : Nat} (h : Between v lo hi) (kl : key D lo' = key D lo) (kh : key D hi' = key D hi) : blockR v lo' hi' = blockT v lo hi := by
  unfold blockR blockT
  rw [order_zero_same h kl kh]
  by_cases hne : D.order (below lo hi) 0 = some .eq
  · rw [if_pos hne, if_pos hne]
  · rw [if_neg hne, if_neg hne]
    have h' := between_keys h kl kh
    have hne' : D.order (below lo' hi') 0 ≠ some .eq := by rw [order_zero_same h kl kh]; exact hne
    have e1 := (floor_eighth h' hne').1
    have e2 : toI (floorW (eighth v lo' hi')) = toI (eighth v lo' hi') := by
      conv => lhs; unfold toI
      rw [e1]; rfl
    rw [e2, eighth_same h kl kh hne]
end Go.Proofs.YtbfheehaagcmeaaDoor.can
