/-
  The plain law of CanvasRound: four quarter turns leave a finite point where it is; a bar's characters stand alone, and its eighths rise.
-/
import Derived.Test.YtbfheehaagcmeaaDoorCanTurn
import Derived.Test.YtbfheehaagcmeaaDoorCanBar
import Derived.Test.YtbfheehaagcmeaaDoorCluWidth
namespace Go.Proofs.YtbfheehaagcmeaaDoor.can
open Go.RowKit Go.Proofs Go.Proofs.YtbfheehaagcmeaaDoor.flo
set_option linter.unusedVariables false

/-! ### floats -/
/-- a finite number of that value -/
def FinO (o : Option Nat) (v : Int) : Prop := ∃ x, o = some x ∧ finW D x = true ∧ val D x = v
theorem fin_num {x : Nat} (h : finW D x = true) : numW D x = true := by
  unfold finW at h
  unfold numW
  simp only [decide_eq_true_eq] at h ⊢
  omega
theorem finO_num {x : Nat} (h : finW D x = true) : FinO (num x) (val D x) := ⟨x, num_some (fin_num h), h, rfl⟩
/-- a number that the format has -/
def Rep (T : Int) : Prop := ∃ r, r < D.infRung ∧ T.natAbs = V D r
theorem finO_rep {o : Option Nat} {v : Int} (h : FinO o v) : Rep v := by
  obtain ⟨x, -, hx, rfl⟩ := h
  unfold finW at hx
  simp only [decide_eq_true_eq] at hx
  exact ⟨rungW D x, hx, by unfold val; rw [sg_natAbs]⟩
theorem rep_neg {T : Int} (h : Rep T) : Rep (-T) := by
  obtain ⟨r, h1, h2⟩ := h
  exact ⟨r, h1, by rw [Int.natAbs_neg]; exact h2⟩
theorem toW_fin (s : Bool) {T : Int} (h : Rep T) : FinO (some (toW D s T)) T := by
  obtain ⟨r, h1, h2⟩ := h
  have hr : rungW D (toW D s T) = r := by rw [toW_rung, h2, nr_V D (Nat.le_of_lt h1)]
  refine ⟨_, rfl, ?_, ?_⟩
  · unfold finW; rw [hr]; simpa using h1
  · unfold val
    rw [hr, toW_neg, ← h2]
    by_cases h0 : T = 0
    · subst h0; unfold sg; cases s <;> simp
    · rw [if_neg h0]
      unfold sg
      by_cases hn : T < 0
      · rw [decide_eq_true hn, if_pos rfl]; omega
      · rw [decide_eq_false hn, if_neg (by decide)]; omega
theorem finO_sub {a b : Option Nat} {u v : Int} (ha : FinO a u) (hb : FinO b v) (hr : Rep (u - v)) : FinO (oop .sub a b) (u - v) := by
  obtain ⟨x, rfl, hx, rfl⟩ := ha
  obtain ⟨y, rfl, hy, rfl⟩ := hb
  show FinO (D.sub x y) _
  rw [sub_fin D hx hy]
  exact toW_fin _ hr
theorem finO_add {a b : Option Nat} {u v : Int} (ha : FinO a u) (hb : FinO b v) (hr : Rep (u + v)) : FinO (oop .add a b) (u + v) := by
  obtain ⟨x, rfl, hx, rfl⟩ := ha
  obtain ⟨y, rfl, hy, rfl⟩ := hb
  show FinO (D.add x y) _
  rw [add_fin D hx hy]
  exact toW_fin _ hr
theorem word_fin (s : Bool) {r : Nat} (h : r < D.infRung) : finW D (D.word s r) = true ∧ val D (D.word s r) = sg s (V D r) := by
  have hs := inf_lt D
  obtain ⟨h1, h2⟩ := word_read D s (r := r) (by omega)
  constructor
  · unfold finW; rw [h2]; simpa using h
  · unfold val; rw [h1, h2]
theorem infPos : 0 < D.infRung := by decide
def oneB : Nat := 4607182418800017408
theorem fin_zero : finW D 0 = true ∧ val D 0 = 0 := by decide +kernel
theorem fin_one : finW D oneB = true ∧ negW D oneB = false := by decide +kernel
theorem V_one : V D (rungW D oneB) = 2 ^ (-D.leastPlace).toNat := by decide +kernel
theorem least_neg : D.leastPlace < 0 := by decide
theorem finO_mul0 {a : Option Nat} {u : Int} (ha : FinO a u) : FinO (oop .mul a (num 0)) 0 := by
  obtain ⟨x, rfl, hx, rfl⟩ := ha
  rw [num_some (fin_num fin_zero.1)]
  show FinO (D.mul x 0) _
  obtain ⟨m, i, n, j, e, hi, hv, hj, hv'⟩ := mul_fin D hx fin_zero.1
  have h0 : V D (rungW D 0) = 0 := by
    have h := fin_zero.2
    unfold val at h
    have := sg_natAbs (negW D 0) (V D (rungW D 0))
    rw [h] at this
    simpa using this.symm
  rw [h0] at hv'
  have hn : n = 0 := by
    rcases Nat.mul_eq_zero.1 hv' with h | h
    · exact h
    · have := Nat.two_pow_pos (j - D.leastPlace).toNat; omega
  rw [e, hn, Nat.mul_zero, nr_zero]
  obtain ⟨h1, h2⟩ := word_fin (negW D x ^^ negW D 0) infPos
  exact ⟨_, rfl, h1, by rw [h2, V_zero]; unfold sg; split <;> rfl⟩
theorem finO_mul1 {a : Option Nat} {u : Int} (ha : FinO a u) : FinO (oop .mul a (num oneB)) u := by
  obtain ⟨x, rfl, hx, rfl⟩ := ha
  rw [num_some (fin_num fin_one.1)]
  show FinO (D.mul x oneB) _
  obtain ⟨m, i, n, j, e, hi, hv, hj, hv'⟩ := mul_fin D hx fin_one.1
  have hxr : rungW D x < D.infRung := by unfold finW at hx; simpa using hx
  have hl := least_neg
  rw [V_one] at hv'
  have hnr : nr D (m * n) (i + j) = rungW D x := by
    refine nr_of D (b := D.leastPlace + D.leastPlace) (Nat.le_of_lt hxr) (by omega) (by omega) ?_
    have e1 : (i + j - (D.leastPlace + D.leastPlace)).toNat = (i - D.leastPlace).toNat + (j - D.leastPlace).toNat := by omega
    have e2 : (D.leastPlace - (D.leastPlace + D.leastPlace)).toNat = (-D.leastPlace).toNat := by omega
    rw [e1, e2, ← hv, ← hv', Nat.pow_add]
    generalize 2 ^ (i - D.leastPlace).toNat = p
    generalize 2 ^ (j - D.leastPlace).toNat = q
    rw [Nat.mul_mul_mul_comm]
  rw [e, hnr, fin_one.2, Bool.xor_false]
  obtain ⟨h1, h2⟩ := word_fin (negW D x) hxr
  exact ⟨_, rfl, h1, h2⟩
/-- ONE QUARTER TURN about 0 -/
theorem quarter {p : OO} {a b : Int} (ha : FinO p.1 a) (hb : FinO p.2 b) : FinO (turnT (num2 (0, 0)) (num2 (0, oneB)) p).1 (-b) ∧ FinO (turnT (num2 (0, 0)) (num2 (0, oneB)) p).2 a := by
  have ra := finO_rep ha
  have rb := finO_rep hb
  have hz : FinO (num 0) 0 := by have := finO_num fin_zero.1; rwa [fin_zero.2] at this
  have da : FinO (oop .sub p.1 (num 0)) a := by have := finO_sub ha hz (by rw [Int.sub_zero]; exact ra); rwa [Int.sub_zero] at this
  have db : FinO (oop .sub p.2 (num 0)) b := by have := finO_sub hb hz (by rw [Int.sub_zero]; exact rb); rwa [Int.sub_zero] at this
  have m1 := finO_mul0 da
  have m2 := finO_mul1 db
  have m3 := finO_mul1 da
  have m4 := finO_mul0 db
  have s1 : FinO (oop .sub (oop .mul (oop .sub p.1 (num 0)) (num 0)) (oop .mul (oop .sub p.2 (num 0)) (num oneB))) (-b) := by
    have := finO_sub m1 m2 (by rw [Int.zero_sub]; exact rep_neg rb)
    rwa [Int.zero_sub] at this
  have s2 : FinO (oop .add (oop .mul (oop .sub p.1 (num 0)) (num oneB)) (oop .mul (oop .sub p.2 (num 0)) (num 0))) a := by
    have := finO_add m3 m4 (by rw [Int.add_zero]; exact ra)
    rwa [Int.add_zero] at this
  constructor
  · have := finO_add hz s1 (by rw [Int.zero_add]; exact rep_neg rb)
    rw [Int.zero_add] at this
    exact this
  · have := finO_add hz s2 (by rw [Int.zero_add]; exact ra)
    rw [Int.zero_add] at this
    exact this
def quad (p : OO) : OO := turnT (num2 (0, 0)) (num2 (0, oneB)) p
/-- FOUR of them -/
theorem four_turns {p : OO} {a b : Int} (ha : FinO p.1 a) (hb : FinO p.2 b) : FinO (quad (quad (quad (quad p)))).1 a ∧ FinO (quad (quad (quad (quad p)))).2 b := by
  obtain ⟨a1, b1⟩ := quarter ha hb
  obtain ⟨a2, b2⟩ := quarter a1 b1
  obtain ⟨a3, b3⟩ := quarter a2 b2
  obtain ⟨a4, b4⟩ := quarter a3 b3
  rw [Int.neg_neg] at a4 b4
  exact ⟨a4, b4⟩
/-- numbers of one value are held to be equal -/
theorem key_val {x y : Nat} (h : val D x = val D y) : key D x = key D y := by
  unfold val at h
  unfold key
  have h1 := sg_natAbs (negW D x) (V D (rungW D x))
  have h2 := sg_natAbs (negW D y) (V D (rungW D y))
  have hv : V D (rungW D x) = V D (rungW D y) := by rw [← h1, ← h2, h]
  have hr := V_inj D hv
  rw [← hr] at h ⊢
  by_cases h0 : rungW D x = 0
  · rw [h0]; unfold sg; split <;> split <;> rfl
  · have hp : 0 < V D (rungW D x) := by
      have := V_mono D (show 0 < rungW D x by omega)
      omega
    revert h
    unfold sg
    cases negW D x <;> cases negW D y <;> simp <;> omega

/-! ### bars -/
/-- characters that stand alone, one wide -/
def Lone (l : List Int) : Prop := ∀ c ∈ l, wid.kind c = 9
theorem eighthsT_mono {n m d w : Int} (h : n ≤ m) : eighthsT n d w ≤ eighthsT m d w := by
  unfold eighthsT
  split
  · rename_i hd
    refine Int.ediv_le_ediv (by omega) (Int.mul_le_mul_of_nonneg_right (by omega) (by unfold wideT; omega))
  · exact Int.le_refl _
open Go.Proofs.YtbfheehaagcmeaaDoor.clu Go.Proofs.YtbfheehaagcmeaaDoor.utf in
theorem lone_count {c : Int} {t : List Int} (h : Lone (c :: t)) : count (c :: t) = 1 := by
  have hc := h c (by simp)
  have hp : clu.pair (c :: t) = false := by rw [← Bool.not_eq_true, clu.pair_iff]; simp [hc]
  unfold count clu.start clu.growFrom
  rw [hp]
  simp only [List.getD_cons_zero, hc]
  rw [if_neg (by decide)]
  show clu.grow 9 (c :: t) 15 1 = 1
  unfold clu.grow
  rw [if_neg]
  rintro ⟨h1, h2⟩
  have hk : wid.kind ((c :: t).getD 1 0) = 9 := by
    refine h _ ?_
    rw [List.getD_eq_getElem?_getD, List.getElem?_eq_getElem h1]
    exact List.getElem_mem _
  unfold clu.takes at h2
  rw [hk] at h2
  simp at h2
theorem lone_wide {c : Int} (h : wid.kind c = 9) : clu.wide [c] = 1 := by
  rw [show clu.wide [c] = (if wid.kind c = 1 then 0 else if clu.pair [c] = true then 2 else if clu.vary [c] = true then 2 else wid.cellsAt c) from rfl]
  have hp : clu.pair [c] = false := by rw [← Bool.not_eq_true, clu.pair_iff]; simp
  have hv : clu.vary [c] = false := by rw [← Bool.not_eq_true, clu.vary_iff]; simp
  rw [hp, hv, h]
  unfold wid.cellsAt
  rw [h]
  rfl
theorem lone_wsum : ∀ l : List Int, Lone l → clu.wsum (clu.cl l) = l.length
  | [], _ => by rw [clu.cl_nil]; rfl
  | c :: t, h => by
    have ht : Lone t := fun x hx => h x (List.mem_cons_of_mem _ hx)
    rw [clu.cl_step _ (by simp), lone_count h]
    have e : clu.wsum (List.take 1 (c :: t) :: clu.cl (List.drop 1 (c :: t))) = clu.wide [c] + clu.wsum (clu.cl t) := by simp [clu.wsum]
    rw [e, lone_wide (h c (by simp)), lone_wsum t ht, List.length_cons]
    omega
/-- the characters of a bar -/
def BarCh (c : Int) : Prop := c = 32 ∨ 0x2588 ≤ c ∧ c ≤ 0x258f
theorem barCh_cases {c : Int} (h : BarCh c) : c = 32 ∨ c = 0x2588 ∨ c = 0x2589 ∨ c = 0x258a ∨ c = 0x258b ∨ c = 0x258c ∨ c = 0x258d ∨ c = 0x258e ∨ c = 0x258f := by
  unfold BarCh at h
  omega
theorem barCh_kind {c : Int} (h : BarCh c) : wid.kind c = 9 := by
  rcases barCh_cases h with rfl | rfl | rfl | rfl | rfl | rfl | rfl | rfl | rfl <;> decide +kernel
theorem barCh_put {c : Int} (h : BarCh c) : utf.bs (Utf8.encode c) = utf.put c := by
  rcases barCh_cases h with rfl | rfl | rfl | rfl | rfl | rfl | rfl | rfl | rfl <;> decide +kernel
theorem barCh_fix {c : Int} (h : BarCh c) : utf.fix c = c := by
  rcases barCh_cases h with rfl | rfl | rfl | rfl | rfl | rfl | rfl | rfl | rfl <;> decide +kernel
theorem bs_app (a b : ByteArray) : utf.bs (a ++ b) = utf.bs a ++ utf.bs b := by simp [utf.bs, ByteArray.data_append]
theorem bs_fold : ∀ (l : List Int) (s : ByteArray), (∀ c ∈ l, BarCh c) → utf.bs (l.foldl (fun r n => r ++ Utf8.encode n) s) = utf.bs s ++ utf.text l
  | [], s, _ => by simp [utf.text]
  | c :: t, s, h => by
    rw [List.foldl_cons, bs_fold t _ (fun x hx => h x (List.mem_cons_of_mem _ hx)), bs_app, barCh_put (h c (by simp)), utf.text_cons, List.append_assoc]
theorem bar_runes {l : List Int} (h : ∀ c ∈ l, BarCh c) : utf.runes (utf.bs (strOf l)) = l := by
  have e : utf.bs (strOf l) = utf.text l := by
    show utf.bs (l.foldl (fun r n => r ++ Utf8.encode n) ByteArray.empty) = _
    rw [bs_fold l _ h]
    rfl
  rw [e, utf.runes_text]
  conv => rhs; rw [← List.map_id l]
  exact List.map_congr_left fun c hc => barCh_fix (h c hc)
theorem barC_ch (e : Int) (i : Nat) : BarCh (barC e i) := by
  unfold BarCh barC
  split
  · right; omega
  · split
    · right; omega
    · left; rfl
def barL (e : Int) (n : Nat) : List Int := (List.range n).map (barC e)
theorem barL_ch (e : Int) (n : Nat) : ∀ c ∈ barL e n, BarCh c := by
  intro c hc
  obtain ⟨i, -, rfl⟩ := List.mem_map.1 hc
  exact barC_ch e i
theorem barL_length (e : Int) (n : Nat) : (barL e n).length = n := by simp [barL]
/-- how many eighths characters have -/
def eig (c : Int) : Int := if 0x2588 ≤ c ∧ c ≤ 0x258f then 0x2590 - c else 0
def eigL (l : List Int) : Int := (l.map eig).sum
theorem eigL_snoc (l : List Int) (c : Int) : eigL (l ++ [c]) = eigL l + eig c := by simp [eigL]
theorem barL_eig (e : Int) (he : 0 ≤ e) : ∀ n : Nat, eigL (barL e n) = min e (8 * n)
  | 0 => by
    have : eigL (barL e 0) = 0 := rfl
    rw [this]; omega
  | n + 1 => by
    have e1 : barL e (n + 1) = barL e n ++ [barC e n] := by simp [barL, List.range_succ]
    rw [e1, eigL_snoc, barL_eig e he n]
    unfold eig barC
    split <;> rename_i h1
    · rw [if_pos (by omega)]; omega
    · split <;> rename_i h2
      · rw [if_pos (by omega)]; omega
      · rw [if_neg (by omega)]; omega
theorem eighths_le (n d w : Int) : 0 ≤ eighthsT n d w ∧ eighthsT n d w ≤ 8 * wideT w := by
  refine ⟨(eighths_bd n d w).1, ?_⟩
  have hw : 0 ≤ wideT w := by unfold wideT; omega
  unfold eighthsT
  split
  · rename_i hd
    have h1 : 0 ≤ min (max n 0) d ∧ min (max n 0) d ≤ d := by omega
    generalize min (max n 0) d = m at *
    refine Int.ediv_le_of_le_mul (by omega) ?_
    rw [Int.mul_comm (8 * wideT w) d]
    exact Int.mul_le_mul_of_nonneg_right h1.2 (by omega)
  · omega
/-- WHAT A BAR IS: its width, its eighths -/
theorem bar_told (n d w : Int) : ((clu.width (barT n d w) : Nat) : Int) = wideT w ∧ eigL (utf.runes (utf.bs (barT n d w))) = eighthsT n d w ∧ (utf.runes (utf.bs (barT n d w))).length ≤ 4096 ∧ (barT n d w).size ≤ 16384 := by
  obtain ⟨h1, h2⟩ := eighths_le n d w
  have hw : 0 ≤ wideT w ∧ wideT w ≤ 4096 := by unfold wideT; omega
  have e : utf.runes (utf.bs (barT n d w)) = barL (eighthsT n d w) (wideT w).toNat := bar_runes (barL_ch _ _)
  refine ⟨?_, ?_, ?_, ?_⟩
  · unfold clu.width
    rw [e, lone_wsum _ (fun c hc => barCh_kind (barL_ch _ _ c hc)), barL_length]
    exact Int.toNat_of_nonneg hw.1
  · rw [e, barL_eig _ h1, Int.toNat_of_nonneg hw.1]
    omega
  · rw [e, barL_length]; omega
  · have := runesBytes_size_le (barL (eighthsT n d w) (wideT w).toNat)
    rw [barL_length] at this
    show (runesBytes (barL (eighthsT n d w) (wideT w).toNat)).size ≤ _
    omega
end Go.Proofs.YtbfheehaagcmeaaDoor.can
