/-
  The walk of the layer wrap: Trim.
-/
import Derived.Test.YtmjmmoecplndmaaWrpOk
namespace Go.Proofs.Ytmjmmoecplndmaa.wrp
open Go.RowKit Go.Proofs
open Go.Proofs.Ytmjmmoecplndmaa.wid Go.Proofs.Ytmjmmoecplndmaa.utf Go.Proofs.Ytmjmmoecplndmaa.clu
set_option linter.unusedVariables false

theorem wide_use (v : Value) (X : List TV) (w : World) (hv : RS w v X) (ho : Ok X) (hX : X.length ≤ 1099511627776) : Calls Try.prog 10 #[v] w fun e w' => e = .returned (.int .i64 (wideT X : Nat)) ∧ Below w.heap.size w w' :=
  wide_any v X w hv.reads hX (by have := ho.wide; omega)
theorem join_use (v : Value) (X : List TV) (w : World) (hv : RS w v X) (ho : Ok X) (hX : X.length ≤ 274877906944) : Calls Try.prog 11 #[v] w fun e w' => e = .returned (.string (joinT X)) ∧ Below w.heap.size w w' :=
  join_any v X w hv.reads (by omega) (by have := ho.cat; omega)
theorem fit_use (v : Value) (X : List TV) (n : Nat) (w : World) (hv : RS w v X) (ho : Ok X) (hX : X.length ≤ 1099511627776) (hn : n ≤ 4611686018427387904) : Calls Try.prog 12 #[v, .int .i64 n] w fun e w' => e = .returned (.int .i64 (fitT X n : Nat)) ∧ Below w.heap.size w w' :=
  fit_any v X n w hv.reads hX hn (by have := ho.wide; omega)
theorem joinT_size {X : List TV} (ho : Ok X) (hX : X.length ≤ 274877906944) : (joinT X).size ≤ 17592186044416 := by
  have := ho.cat
  show (catL X).toArray.size ≤ _
  rw [List.size_toArray]; omega
theorem RS.all {w1 : World} {v : Value} {X : List TV} (h : RS w1 v X) : Hid (∀ w', Below w1.heap.size w1 w' → RS w' v X) := fun _ hb => h.below hb
theorem RS.slice {w : World} {a : Option Addr} {n cap : Nat} {X : List TV} (h : RS w (.slice a n cap) X) : n = X.length ∧ n ≤ cap := by
  obtain ⟨a', cap', e, hc, -⟩ := h
  simp only [Value.slice.injEq] at e
  omega

/-- a width, brought to what may be -/
def sideN (wd : Int) : Nat := (min (max wd 0) 4096).toNat
theorem sideN_eq (wd : Int) : min (max wd 0) 4096 = (sideN wd : Int) := by unfold sideN; omega
theorem sideN_le (wd : Int) : sideN wd ≤ 4096 := by unfold sideN; omega

def trimT (s : ByteArray) (wd : Int) (mark : ByteArray) (how : Int) : ByteArray :=
  let c := lineT s
  let n := sideN wd
  if wideT c ≤ n then joinT c else
  let m := (lineT mark).take (fitT (lineT mark) n)
  let r := n - wideT m
  if how = 0 then joinT m ++ joinT (c.drop (endT c r))
  else if how = 2 then
    let a := c.take (fitT c ((r + 1) / 2))
    joinT a ++ joinT m ++ joinT (c.drop (endT c (r - wideT a)))
  else joinT (c.take (fitT c r)) ++ joinT m

theorem drop_len (X : List TV) (k : Nat) : (X.drop k).length ≤ X.length := by rw [List.length_drop]; omega
theorem take_len (X : List TV) (k : Nat) : (X.take k).length ≤ X.length := by rw [List.length_take]; omega

set_option maxHeartbeats 4000000 in
theorem trim_any (s : ByteArray) (wd : Int) (mark : ByteArray) (how : Int) (w : World) (hs : s.size ≤ 17179869184) (hm : mark.size ≤ 17179869184) : Calls Try.prog 25 #[.string s, .int .i64 wd, .string mark, .int .i8 how] w fun e w' => e = .returned (.string (trimT s wd mark how)) ∧ Below w.heap.size w w' := by
  have HLS := run.hid (fun w => line_any s w (by omega))
  have HLM := run.hid (fun w => line_any mark w (by omega))
  have hoc := line_ok s
  have hom := line_ok mark
  have hlc : (lineT s).length ≤ 68719476736 := by have := line_len s; omega
  have hlm : (lineT mark).length ≤ 68719476736 := by have := line_len mark; omega
  have hn := sideN_eq wd
  have hn2 := sideN_le wd
  have HT := run.hid (show trimT s wd mark how = _ from rfl)
  unfold trimT at HT
  have HT2 : Hid (trimT s wd mark how = _) := HT
  clear HT
  generalize trimT s wd mark how = T at *
  generalize lineT s = C at *
  generalize lineT mark = M at *
  generalize sideN wd = n at *
  have OC := run.hid hoc
  have OM := run.hid hom
  clear hoc hom hs hm
  go_enter Try.func25, Try.ntmps25
  go_wp2_with fail
  refine (HLS.out _).mono ?_
  rintro e w1 ⟨v1, rfl, hr1, hb1⟩
  have HC := hr1.all
  clear HLS
  have hs1 := hb1.size
  go_wp2_with fail
  refine (wide_use _ _ _ (HC.out _ (Below.refl _ _)) OC.out (by omega)).mono ?_
  rintro e w2 ⟨rfl, hb2⟩
  by_cases hfit : wideT C ≤ n
  · have HT : Hid (T = joinT C) := by show _ = _; rw [HT2.out]; exact if_pos hfit
    generalize wideT C = wc at *
    go_wp2_with fail
    refine (join_use _ _ _ (HC.out _ hb2) OC.out (by omega)).mono ?_
    rintro e w3 ⟨rfl, hb3⟩
    have hb := hb1.trans ((hb2.trans (hb3.mono hb2.size)).mono hs1)
    go_wp2
    go_ret
    exact ⟨by rw [HT.out]; rfl, hb⟩
  · have HT := run.hid (HT2.out.trans (if_neg hfit))
    clear HT2
    generalize wideT C = wc at *
    go_wp2_with fail
    refine (HLM.out _).mono ?_
    rintro e w3 ⟨v3, rfl, hr3, hb3⟩
    obtain ⟨a, cap, rfl⟩ : ∃ a cap, v3 = .slice a M.length cap := by obtain ⟨a, cap, h, -⟩ := hr3; exact ⟨a, cap, h⟩
    have HM := hr3.all
    have hcapm := hr3.slice.2
    have hk := fitT_le M n
    have c3 := hb2.trans (hb3.mono hb2.size)
    clear HLM hr3 hb3 hb2 hr1
    have HF := run.hid (fun w' h => fit_use (.slice a M.length cap) M n w' (HM.out w' h) OM.out (by omega) (by omega))
    have HMt : Hid (∀ w', Below w3.heap.size w3 w' → RS w' (.slice a (fitT M n) cap) (M.take (fitT M n))) := fun w' h => (HM.out w' h).take _ (fitT_le M n)
    have hwm := fitT_wide M n
    generalize fitT M n = k at *
    have hlk : (M.take k).length ≤ 68719476736 := by have := take_len M k; omega
    have OMk := run.hid (OM.out.take k)
    generalize M.take k = Mk at *
    generalize M.length = N at *
    go_wp2_with fail
    refine (HF.out _ (Below.refl _ _)).mono ?_
    rintro e w4 ⟨rfl, hb4⟩
    have hkc : k ≤ cap := by omega
    have c4 := c3.trans (hb4.mono c3.size)
    clear HF
    go_wp2_with fail
    refine (wide_use _ _ _ (HMt.out _ hb4) OMk.out (by omega)).mono ?_
    rintro e w5 ⟨rfl, hb5⟩
    have d5 := hb4.trans (hb5.mono hb4.size)
    have c5 := c4.trans (hb5.mono c4.size)
    obtain ⟨r, hr⟩ : ∃ r, n - wideT Mk = r := ⟨_, rfl⟩
    rw [hr] at HT
    have hr2 : (n : Int) - (wideT Mk : Nat) = (r : Int) := by omega
    have hrn : r ≤ 4096 := by omega
    generalize wideT Mk = wm at *
    clear hr hb4 hb5
    by_cases h0 : how = 0
    · subst h0
      have HT0 := run.hid (HT.out.trans (if_pos rfl))
      clear HT
      go_wp2_with fail
      refine (join_use _ _ _ (HMt.out _ d5) OMk.out (by omega)).mono ?_
      rintro e w6 ⟨rfl, hb6⟩
      have c6 := c5.trans (hb6.mono c5.size)
      have sz1 := joinT_size OMk.out (by omega)
      have HTL := run.hid (tail_any v1 C r w6 (HC.out _ c6) (by omega) (by omega))
      have hdl := drop_len C (endT C r)
      have OD := run.hid (OC.out.drop (endT C r))
      generalize C.drop (endT C r) = D at *
      go_wp2_with fail
      refine HTL.out.mono ?_
      rintro e w6 ⟨u, rfl, hru, rfl⟩
      go_wp2_with fail
      refine (join_use _ _ _ hru OD.out (by omega)).mono ?_
      rintro e w7 ⟨rfl, hb7⟩
      have c7 := c6.trans (hb7.mono c6.size)
      have sz2 := joinT_size OD.out (by omega)
      have hb := hb1.trans (c7.mono hs1)
      generalize joinT Mk = j1 at *
      generalize joinT D = j2 at *
      have hadd : ¬ 9223372036854775807 < j1.size + j2.size := by omega
      go_wp2
      go_ret
      exact ⟨by rw [HT0.out]; rfl, hb⟩
    · by_cases h2 : how = 2
      · subst h2
        have HT0 := run.hid ((HT.out.trans (if_neg (by decide))).trans (if_pos rfl))
        clear HT
        obtain ⟨ac, capc, rfl⟩ : ∃ a cap, v1 = .slice a C.length cap := by obtain ⟨a, cap, h, -⟩ := HC.out _ (Below.refl _ _); exact ⟨a, cap, h⟩
        have hcapc := (HC.out _ (Below.refl _ _)).slice.2
        have hq : ∃ q, (r + 1) / 2 = q ∧ (((r : Int) + 1) / 2 = (q : Int)) := ⟨(r + 1) / 2, rfl, by omega⟩
        obtain ⟨q, hq1, hq2⟩ := hq
        rw [hq1] at HT0
        have hqn : q ≤ 4096 ∧ q ≤ r := by omega
        have hkc2 := fitT_le C q
        have HF := run.hid (fun w' h => fit_use (.slice ac C.length capc) C q w' (HC.out w' h) OC.out (by omega) (by omega))
        have HCt : Hid (∀ w', Below w1.heap.size w1 w' → RS w' (.slice ac (fitT C q) capc) (C.take (fitT C q))) := fun w' h => (HC.out w' h).take _ (fitT_le C q)
        have hwa := fitT_wide C q
        have HTL := run.hid (fun (m : Nat) w' h (hm : m ≤ 4096) => tail_any (.slice ac C.length capc) C m w' (HC.out w' h) (by omega) (by omega))
        generalize fitT C q = kc at *
        have hla : (C.take kc).length ≤ 68719476736 := by have := take_len C kc; omega
        have OA := run.hid (OC.out.take kc)
        generalize C.take kc = A at *
        have hdl := run.hid (fun m => drop_len C m)
        have OD := run.hid (fun m => OC.out.drop m)
        generalize C.length = NC at *
        clear hq1
        go_wp2_with fail
        refine (HF.out _ c5).mono ?_
        rintro e w6 ⟨rfl, hb6⟩
        have c6 := c5.trans (hb6.mono c5.size)
        have d6 := d5.trans (hb6.mono d5.size)
        have hkc3 : kc ≤ capc := by omega
        clear HF
        go_wp2_with fail
        refine (join_use _ _ _ (HCt.out _ c6) OA.out (by omega)).mono ?_
        rintro e w7 ⟨rfl, hb7⟩
        have c7 := c6.trans (hb7.mono c6.size)
        have d7 := d6.trans (hb7.mono d6.size)
        have sz1 := joinT_size OA.out (by omega)
        generalize joinT A = j1 at *
        go_wp2_with fail
        refine (join_use _ _ _ (HMt.out _ d7) OMk.out (by omega)).mono ?_
        rintro e w8 ⟨rfl, hb8⟩
        have c8 := c7.trans (hb8.mono c7.size)
        have sz2 := joinT_size OMk.out (by omega)
        generalize joinT Mk = j2 at *
        have hadd : ¬ 9223372036854775807 < j1.size + j2.size := by omega
        go_wp2_with fail
        refine (wide_use _ _ _ (HCt.out _ c8) OA.out (by omega)).mono ?_
        rintro e w9 ⟨rfl, hb9⟩
        have c9 := c8.trans (hb9.mono c8.size)
        obtain ⟨m, hm⟩ : ∃ m, r - wideT A = m := ⟨_, rfl⟩
        rw [hm] at HT0
        have hm2 : (r : Int) - (wideT A : Nat) = (m : Int) := by omega
        have hmn : m ≤ 4096 := by omega
        generalize wideT A = wa at *
        clear hm
        have HTL2 := run.hid (HTL.out m w9 c9 hmn)
        have hdl2 := hdl.out (endT C m)
        have OD2 := run.hid (OD.out (endT C m))
        generalize C.drop (endT C m) = D at *
        clear HTL OD hdl
        go_wp2_with fail
        refine HTL2.out.mono ?_
        rintro e w9 ⟨u, rfl, hru, rfl⟩
        go_wp2_with fail
        refine (join_use _ _ _ hru OD2.out (by omega)).mono ?_
        rintro e w10 ⟨rfl, hb10⟩
        have c10 := c9.trans (hb10.mono c9.size)
        have sz3 := joinT_size OD2.out (by omega)
        have hb := hb1.trans (c10.mono hs1)
        generalize joinT D = j3 at *
        have hsz12 : (j1 ++ j2).size = j1.size + j2.size := ByteArray.size_append
        have hadd2 : ¬ 9223372036854775807 < (j1 ++ j2).size + j3.size := by omega
        have HT1 := run.hid HT0.out
        generalize j1 ++ j2 = j12 at *
        go_wp2
        go_ret
        exact ⟨by rw [HT1.out]; rfl, hb⟩
      · have HT0 := run.hid ((HT.out.trans (if_neg h0)).trans (if_neg h2))
        clear HT
        obtain ⟨ac, capc, rfl⟩ : ∃ a cap, v1 = .slice a C.length cap := by obtain ⟨a, cap, h, -⟩ := HC.out _ (Below.refl _ _); exact ⟨a, cap, h⟩
        have hcapc := (HC.out _ (Below.refl _ _)).slice.2
        have hkc2 := fitT_le C r
        have HF := run.hid (fun w' h => fit_use (.slice ac C.length capc) C r w' (HC.out w' h) OC.out (by omega) (by omega))
        have HCt : Hid (∀ w', Below w1.heap.size w1 w' → RS w' (.slice ac (fitT C r) capc) (C.take (fitT C r))) := fun w' h => (HC.out w' h).take _ (fitT_le C r)
        generalize fitT C r = kc at *
        have hla : (C.take kc).length ≤ 68719476736 := by have := take_len C kc; omega
        have OA := run.hid (OC.out.take kc)
        generalize C.take kc = A at *
        generalize C.length = NC at *
        have h0' : (how == 0) = false := beq_eq_false_iff_ne.2 h0
        have h2' : (how == 2) = false := beq_eq_false_iff_ne.2 h2
        go_wp2_with fail
        refine (HF.out _ c5).mono ?_
        rintro e w6 ⟨rfl, hb6⟩
        have c6 := c5.trans (hb6.mono c5.size)
        have d6 := d5.trans (hb6.mono d5.size)
        have hkc3 : kc ≤ capc := by omega
        clear HF
        go_wp2_with fail
        refine (join_use _ _ _ (HCt.out _ c6) OA.out (by omega)).mono ?_
        rintro e w7 ⟨rfl, hb7⟩
        have c7 := c6.trans (hb7.mono c6.size)
        have d7 := d6.trans (hb7.mono d6.size)
        have sz1 := joinT_size OA.out (by omega)
        generalize joinT A = j1 at *
        go_wp2_with fail
        refine (join_use _ _ _ (HMt.out _ d7) OMk.out (by omega)).mono ?_
        rintro e w8 ⟨rfl, hb8⟩
        have c8 := c7.trans (hb8.mono c7.size)
        have sz2 := joinT_size OMk.out (by omega)
        have hb := hb1.trans (c8.mono hs1)
        generalize joinT Mk = j2 at *
        have hadd : ¬ 9223372036854775807 < j1.size + j2.size := by omega
        go_wp2
        go_ret
        exact ⟨by rw [HT0.out]; rfl, hb⟩

end Go.Proofs.Ytmjmmoecplndmaa.wrp
