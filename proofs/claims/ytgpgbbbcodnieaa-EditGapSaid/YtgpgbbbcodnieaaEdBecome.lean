/-
  The editor's become: what is alike ahead and behind, the step, the turn.
-/
import Derived.Test.YtgpgbbbcodnieaaEdC
import Derived.Deep.CutBlock
namespace Go.Proofs.Ytgpgbbbcodnieaa.ed
open Go Go.RowKit Go.Proofs
set_option linter.unusedVariables false
/-- a row of clusters to be read -/
def RdC (w : World) (a : Option Addr) (F : List TV) : Prop := ∀ i, i < F.length → ∃ b off, a = some ⟨b, off, none⟩ ∧ b < w.heap.size ∧ w.cell? ⟨b, off + i * 2, none⟩ = some (.string (F.getD i tv0).1) ∧ w.cell? ⟨b, off + i * 2 + 1, none⟩ = some (.int .i64 ((F.getD i tv0).2 : Nat))
theorem rdC_src {w : World} {a : Option Addr} {c : Nat} {F : List TV} (h : Src 2 w a F.length c (cellsT F)) : RdC w a F := by
  intro i hi
  rcases h.at' with ⟨-, h0, -⟩ | ⟨b, off, e, hlt, hc⟩
  · omega
  · obtain ⟨h1, h2⟩ := cellsT_at F i hi
    exact ⟨b, off, e, hlt, hc _ _ h1, hc _ _ h2⟩
theorem RdC.below {w w' : World} {a : Option Addr} {F : List TV} (h : RdC w a F) (hb : Below w.heap.size w w') : RdC w' a F := by
  intro i hi
  obtain ⟨b, off, e, hlt, h1, h2⟩ := h i hi
  exact ⟨b, off, e, Nat.lt_of_lt_of_le hlt hb.size, (hb.cell (p := ⟨b, off + i * 2, none⟩) hlt).trans h1, (hb.cell (p := ⟨b, off + i * 2 + 1, none⟩) hlt).trans h2⟩
theorem take_next {A B : List TV} {i : Nat} (h : A.take i = B.take i) (hA : i < A.length) (hB : i < B.length) (e : A.getD i tv0 = B.getD i tv0) : A.take (i + 1) = B.take (i + 1) := by
  rw [List.take_succ_eq_append_getElem hA, List.take_succ_eq_append_getElem hB, h]
  simp only [List.getD_eq_getElem?_getD, List.getElem?_eq_getElem hA, List.getElem?_eq_getElem hB, Option.getD_some] at e
  rw [e]
theorem drop_next {A B : List TV} {i j : Nat} (h : A.drop (A.length - j) = B.drop (B.length - j)) (hA : j < A.length) (hB : j < B.length) (e : A.getD (A.length - 1 - j) tv0 = B.getD (B.length - 1 - j) tv0) : A.drop (A.length - (j + 1)) = B.drop (B.length - (j + 1)) := by
  rw [show A.length - (j + 1) = A.length - 1 - j by omega, show B.length - (j + 1) = B.length - 1 - j by omega]
  rw [List.drop_eq_getElem_cons (show A.length - 1 - j < A.length by omega), List.drop_eq_getElem_cons (show B.length - 1 - j < B.length by omega)]
  simp only [List.getD_eq_getElem?_getD, List.getElem?_eq_getElem (show A.length - 1 - j < A.length by omega), List.getElem?_eq_getElem (show B.length - 1 - j < B.length by omega), Option.getD_some] at e
  rw [e, show A.length - 1 - j + 1 = A.length - j by omega, show B.length - 1 - j + 1 = B.length - j by omega, h]
/-- the last 256 steps -/
def lim (L : List St) : List St := if 256 < L.length then L.drop 1 else L
def becomeT (s : Sta) (B : List TV) (caret : Nat) (always : Bool) : Bool × Sta :=
  if s.F = B ∧ caret = s.ca ∧ always = false then (false, s)
  else (true, ⟨B, caret, -1, lim (s.L.take s.dn ++ [⟨s.F, s.ca, B, caret⟩]), (lim (s.L.take s.dn ++ [⟨s.F, s.ca, B, caret⟩])).length⟩)
theorem parts3 (F : List TV) {i j : Nat} (h : j + i ≤ F.length) : F = F.take i ++ (F.drop i).take (F.length - j - i) ++ F.drop (F.length - j) := by
  have e : (F.drop i).drop (F.length - j - i) = F.drop (F.length - j) := by rw [List.drop_drop]; congr 1; omega
  rw [← e, List.append_assoc, List.take_append_drop, List.take_append_drop]
theorem all_alike {F B : List TV} {i j : Nat} (h : j + i ≤ F.length) (h' : j + i ≤ B.length) (ht : F.take i = B.take i) (hd : F.drop (F.length - j) = B.drop (B.length - j)) (hne : i < F.length → i < B.length → F.getD i tv0 ≠ B.getD i tv0) :
    F = B ↔ F.length - j - i = 0 ∧ B.length - j - i = 0 := by
  constructor
  · rintro rfl
    by_cases hi : i < F.length
    · exact absurd rfl (hne hi hi)
    · omega
  · rintro ⟨h1, h2⟩
    rw [parts3 F h, parts3 B h', h1, h2, ht, hd]
    rfl
set_option maxRecDepth 100000 in
set_option maxHeartbeats 8000000 in
theorem become_any {S : Nat → Prop} {b g lb : Nat} {s : Sta} {w : World} (h : EdS S b g lb s w) (al : Option Addr) (cl : Nat) (B : List TV) (caret : Nat) (always : Bool) (hs : Src 2 w al B.length cl (cellsT B)) (hcl : B.length ≤ cl) (hal : ∀ k off, al = some ⟨k, off, none⟩ → ¬ S k) (hSlt : ∀ k, S k → k < w.heap.size) (hF : s.F.length ≤ 1048576) (hB : B.length ≤ 1048576) (hdn : s.dn ≤ s.L.length) (hdm : s.dn ≤ 4096) :
    Calls Try.prog 45 #[.pointer (some ⟨b, 0, none⟩), .slice al B.length cl, .int .i64 (caret : Nat), .bool always] w fun e w' => e = .returned (.bool (becomeT s B caret always).1) ∧ After S b g lb (becomeT s B caret always).2 w w' := by
  have HSTAY := run.hid (fun (X : World) (hX : Kept (fun _ => False) w X) => After.stay h hX)
  obtain ⟨⟨sv, hE, hS⟩, sb, sg, sl⟩ := h
  obtain ⟨F, ca, an, L, dn⟩ := s
  dsimp only at hE hS hF hdn hdm HSTAY
  obtain ⟨it, hinf, -, hsz, -⟩ := info_parts edC.info
  obtain ⟨itc, hinfc, -, hszc, -⟩ := info_parts info_change
  have HBT := run.hid (And.intro (fun (h : F = B ∧ caret = ca ∧ always = false) => show becomeT ⟨F, ca, an, L, dn⟩ B caret always = (false, ⟨F, ca, an, L, dn⟩) from if_pos h) (fun (h : ¬ (F = B ∧ caret = ca ∧ always = false)) => show becomeT ⟨F, ca, an, L, dn⟩ B caret always = (true, ⟨B, caret, -1, lim (L.take dn ++ [⟨F, ca, B, caret⟩]), (lim (L.take dn ++ [⟨F, ca, B, caret⟩])).length⟩) from if_neg h))
  generalize becomeT ⟨F, ca, an, L, dn⟩ B caret always = BT at *
  have HSS := run.hid (And.intro hS (And.intro sb (And.intro sg sl)))
  have HFAR := run.hid (And.intro hal hSlt)
  have hblt := (Array.getElem?_eq_some_iff.1 hE.box).1
  clear hS sb sg sl hal hSlt
  obtain ⟨n, cap, f, u, GA, hG, hc, hn, hl⟩ := hE.gap
  have HALL := run.hid (edC.all_any hG hc (cellsT_one F) hn)
  rw [hl] at HALL
  have HB := run.hid (rdC_src hs)
  have c0 := blk_cell hE.box 0
  change w.cell? _ = some (.pointer (some ⟨g, 0, none⟩)) at c0
  have HPR := run.hid (And.intro (fun i h hA hB e => @take_next F B i h hA hB e) (fun j h hA hB e => @drop_next F B 0 j h hA hB e))
  have HSO := run.hid (fun (X : World) (a : Option Addr) (c : Nat) (ho : X.ownsRow w.heap.size 74 2 (.slice a F.length c) F.length (cellsT F)) => src_own ho rfl (Nat.le_refl _))
  have HTK := run.hid (show F.take F.length = F from List.take_of_length_le (Nat.le_refl _))
  rw [HTK.out] at HSO
  have HRD := run.hid (fun (X : World) (a : Option Addr) (c : Nat) (h : Src 2 X a F.length c (cellsT F)) => rdC_src h)
  have H0 := run.hid (And.intro hs hE)
  clear hG hc hl hs hE
  generalize hNA : F.length = NA at *
  generalize hNB : B.length = NB at *
  have HN := run.hid (And.intro hNA hNB)
  clear hNA hNB
  go_enter Try.func45, Try.ntmps45
  go_wp2_with fail
  refine HALL.out.mono ?_
  rintro e w1 ⟨v, rfl, hown, hb1⟩
  obtain ⟨a, c, rfl⟩ := run.own_value hown
  have HSA := run.hid (HSO.out w1 a c hown)
  have HOWN := run.hid (show ∀ k off x, a = some ⟨k, off, x⟩ → w.heap.size ≤ k from by
    intro k off x e
    rcases hown.2 with ⟨h1, -⟩ | ⟨g3, cap3, cur3, h1, h2, -⟩
    · simp only [Value.slice.injEq] at h1; rw [h1.1] at e; cases e
    · simp only [Value.slice.injEq] at h1
      rw [h1.1] at e
      simp only [Option.some.injEq, Addr.mk.injEq] at e
      omega)
  have HCAP := run.hid (show NA ≤ c from by
    rcases hown.2 with ⟨h1, h0⟩ | ⟨g3, cap3, cur3, h1, -, -, h2, -⟩
    · omega
    · simp only [Value.slice.injEq] at h1; omega)
  have HA := run.hid (HRD.out w1 a c HSA.out)
  have HB1 := run.hid (HB.out.below hb1)
  unfold RdC at HA HB1
  rw [HN.out.1] at HA
  rw [HN.out.2] at HB1
  clear HALL HB HSO HRD HTK hown
  go_upto_block 0 with fail
  go_cut [10] (fun p wx => ∃ i : Nat, p = .int .i64 i ∧ i ≤ NA ∧ i ≤ NB ∧ Hid (F.take i = B.take i) ∧ (i < NA → i < NB → Hid (F.getD i tv0 ≠ B.getD i tv0)) ∧ Same w1 wx)
  case first =>
    go_wp2
    go_loopw [10] (fun p wr => ∃ i : Nat, p = .int .i64 i ∧ i ≤ NA ∧ i ≤ NB ∧ Hid (F.take i = B.take i) ∧ Same w1 wr) (fun p _ => ((NA : Int) - intOf p).toNat)
    case atStart => exact ⟨0, rfl, Nat.zero_le _, Nat.zero_le _, run.hid rfl, Same.refl _⟩
    case round =>
      obtain ⟨i, rfl, hiA, hiB, HT, hsm⟩ := hrel
      by_cases h1 : i < NA
      · by_cases h2 : i < NB
        · obtain ⟨b1, off1, rfl, hlt1, x0, x1⟩ := HA.out i h1
          obtain ⟨b2, off2, rfl, hlt2, y0, y1⟩ := HB1.out i h2
          have z0 := (World.cell?_of_block (a := ⟨b1, off1 + i * 2, none⟩) (by rw [hsm.heap])).trans x0
          have z1 := (World.cell?_of_block (a := ⟨b1, off1 + i * 2 + 1, none⟩) (by rw [hsm.heap])).trans x1
          have u0 := (World.cell?_of_block (a := ⟨b2, off2 + i * 2, none⟩) (by rw [hsm.heap])).trans y0
          have u1 := (World.cell?_of_block (a := ⟨b2, off2 + i * 2 + 1, none⟩) (by rw [hsm.heap])).trans y1
          have HE := run.hid (HPR.out.1 i HT.out h1 h2)
          clear x0 x1 y0 y1
          obtain ⟨⟨ta, na⟩, hqa⟩ : ∃ q, F.getD i tv0 = q := ⟨_, rfl⟩
          obtain ⟨⟨tb, nb⟩, hqb⟩ : ∃ q, B.getD i tv0 = q := ⟨_, rfl⟩
          rw [hqa] at z0 z1 HE
          rw [hqb] at u0 u1 HE
          have HQ := run.hid (And.intro hqa hqb)
          clear hqa hqb
          dsimp only at z0 z1 u0 u1
          by_cases e : ta = tb ∧ na = nb
          · obtain ⟨rfl, rfl⟩ := e
            have HE2 := run.hid (HE.out rfl)
            have g1 : decide ((i : Int) < (NA : Int)) = true := decide_eq_true (by omega)
            have g2 : decide ((i : Int) < (NB : Int)) = true := decide_eq_true (by omega)
            clear HE
            go_upto_region 3 with fail
            go_quiet (fail)
            go_wp2
            go_roundw
            case rel => exact ⟨i + 1, by go_num, by omega, by omega, HE2, ⟨hsm.heap, hsm.os, hsm.tape, hsm.output⟩⟩
            case measure => simp [intOf]; omega
          · have g1 : decide ((i : Int) < (NA : Int)) = true := decide_eq_true (by omega)
            have g2 : decide ((i : Int) < (NB : Int)) = true := decide_eq_true (by omega)
            have HE2 := run.hid (show F.getD i tv0 ≠ B.getD i tv0 from by rw [HQ.out.1, HQ.out.2]; exact fun h => e (by simpa using h))
            clear HE
            by_cases et : ta = tb
            · subst et
              have hn2 : ((na : Int) == (nb : Int)) = false := by simp only [beq_eq_false_iff_ne, ne_eq]; intro h; exact e ⟨rfl, by omega⟩
              clear e
              go_upto_region 3 with fail
              go_quiet (fail)
              go_wp2
              go_meet
              exact ⟨i, rfl, by omega, by omega, HT, fun _ _ => HE2, ⟨hsm.heap, hsm.os, hsm.tape, hsm.output⟩⟩
            · have hq1 : (ta.toList == tb.toList) = false := by rw [utf.toList_eq_iff]; exact decide_eq_false et
              clear e
              go_upto_region 3 with fail
              go_quiet (fail)
              go_wp2
              go_meet
              exact ⟨i, rfl, by omega, by omega, HT, fun _ _ => HE2, ⟨hsm.heap, hsm.os, hsm.tape, hsm.output⟩⟩
        · have g1 : decide ((i : Int) < (NA : Int)) = true := decide_eq_true (by omega)
          have g2 : decide ((i : Int) < (NB : Int)) = false := decide_eq_false (by omega)
          go_upto_region 3 with fail
          go_quiet (fail)
          go_wp2
          go_meet
          exact ⟨i, rfl, by omega, by omega, HT, fun _ h => absurd h h2, ⟨hsm.heap, hsm.os, hsm.tape, hsm.output⟩⟩
      · have g1 : decide ((i : Int) < (NA : Int)) = false := decide_eq_false (by omega)
        go_upto_region 3 with fail
        go_quiet (fail)
        go_wp2
        go_meet
        exact ⟨i, rfl, by omega, by omega, HT, fun h _ => absurd h h1, ⟨hsm.heap, hsm.os, hsm.tape, hsm.output⟩⟩
  case rest =>
    obtain ⟨i, rfl, hiA, hiB, HT, hne, hsm⟩ := hcut
    have HNE := run.hid hne
    clear hne
    go_upto_block 2 with fail
    go_cut [11] (fun p wx => ∃ j : Nat, p = .int .i64 j ∧ j + i ≤ NA ∧ j + i ≤ NB ∧ Hid (F.drop (NA - j) = B.drop (NB - j)) ∧ Same w1 wx)
    case first =>
      have HS0 := run.hid hsm
      have hd0 : F.drop (NA - 0) = B.drop (NB - 0) := by
        rw [Nat.sub_zero, Nat.sub_zero, ← HN.out.1, ← HN.out.2, List.drop_length, List.drop_length]
      have HD0 := run.hid hd0
      clear hsm hd0
      go_wp2
      go_loopw [11] (fun p wr => ∃ j : Nat, p = .int .i64 j ∧ j + i ≤ NA ∧ j + i ≤ NB ∧ Hid (F.drop (NA - j) = B.drop (NB - j)) ∧ Same w1 wr) (fun p _ => ((NA : Int) - intOf p).toNat)
      case atStart => exact ⟨0, rfl, by omega, by omega, HD0, HS0.out⟩
      case round =>
        obtain ⟨j, rfl, hjA, hjB, HD, hsm⟩ := hrel
        clear HS0 HD0
        by_cases h1 : j < NA - i
        · by_cases h2 : j < NB - i
          · obtain ⟨pa, hpa⟩ : ∃ p : Nat, p = NA - 1 - j := ⟨_, rfl⟩
            obtain ⟨pb, hpb⟩ : ∃ p : Nat, p = NB - 1 - j := ⟨_, rfl⟩
            have hpaI : (NA : Int) - 1 - (j : Int) = (pa : Int) := by omega
            have hpbI : (NB : Int) - 1 - (j : Int) = (pb : Int) := by omega
            have hpaN : pa < NA := by omega
            have hpbN : pb < NB := by omega
            obtain ⟨b1, off1, rfl, hlt1, x0, x1⟩ := HA.out pa hpaN
            obtain ⟨b2, off2, rfl, hlt2, y0, y1⟩ := HB1.out pb hpbN
            have z0 := (World.cell?_of_block (a := ⟨b1, off1 + pa * 2, none⟩) (by rw [hsm.heap])).trans x0
            have z1 := (World.cell?_of_block (a := ⟨b1, off1 + pa * 2 + 1, none⟩) (by rw [hsm.heap])).trans x1
            have u0 := (World.cell?_of_block (a := ⟨b2, off2 + pb * 2, none⟩) (by rw [hsm.heap])).trans y0
            have u1 := (World.cell?_of_block (a := ⟨b2, off2 + pb * 2 + 1, none⟩) (by rw [hsm.heap])).trans y1
            have hE := HPR.out.2 j HD.out (by omega) (by omega)
            rw [← hpa, ← hpb] at hE
            have HE := run.hid hE
            clear x0 x1 y0 y1 hE hpa hpb
            obtain ⟨⟨ta, na⟩, hqa⟩ : ∃ q, F.getD pa tv0 = q := ⟨_, rfl⟩
            obtain ⟨⟨tb, nb⟩, hqb⟩ : ∃ q, B.getD pb tv0 = q := ⟨_, rfl⟩
            rw [hqa] at z0 z1 HE
            rw [hqb] at u0 u1 HE
            clear hqa hqb
            dsimp only at z0 z1 u0 u1
            have g1 : decide ((j : Int) < (NA : Int) - (i : Int)) = true := decide_eq_true (by omega)
            have g2 : decide ((j : Int) < (NB : Int) - (i : Int)) = true := decide_eq_true (by omega)
            by_cases e : ta = tb ∧ na = nb
            · obtain ⟨rfl, rfl⟩ := e
              have HE2 := run.hid (HE.out rfl)
              clear HE
              go_upto_region 6 with fail
              go_quiet (fail)
              go_wp2
              go_roundw
              case rel => exact ⟨j + 1, by go_num, by omega, by omega, HE2, ⟨hsm.heap, hsm.os, hsm.tape, hsm.output⟩⟩
              case measure => simp [intOf]; omega
            · clear HE
              by_cases et : ta = tb
              · subst et
                have hn2 : ((na : Int) == (nb : Int)) = false := by simp only [beq_eq_false_iff_ne, ne_eq]; intro h; exact e ⟨rfl, by omega⟩
                clear e
                go_upto_region 6 with fail
                go_quiet (fail)
                go_wp2
                go_meet
                exact ⟨j, rfl, by omega, by omega, HD, ⟨hsm.heap, hsm.os, hsm.tape, hsm.output⟩⟩
              · have hq1 : (ta.toList == tb.toList) = false := by rw [utf.toList_eq_iff]; exact decide_eq_false et
                clear e
                go_upto_region 6 with fail
                go_quiet (fail)
                go_wp2
                go_meet
                exact ⟨j, rfl, by omega, by omega, HD, ⟨hsm.heap, hsm.os, hsm.tape, hsm.output⟩⟩
          · have g1 : decide ((j : Int) < (NA : Int) - (i : Int)) = true := decide_eq_true (by omega)
            have g2 : decide ((j : Int) < (NB : Int) - (i : Int)) = false := decide_eq_false (by omega)
            go_upto_region 6 with fail
            go_quiet (fail)
            go_wp2
            go_meet
            exact ⟨j, rfl, by omega, by omega, HD, ⟨hsm.heap, hsm.os, hsm.tape, hsm.output⟩⟩
        · have g1 : decide ((j : Int) < (NA : Int) - (i : Int)) = false := decide_eq_false (by omega)
          go_upto_region 6 with fail
          go_quiet (fail)
          go_wp2
          go_meet
          exact ⟨j, rfl, by omega, by omega, HD, ⟨hsm.heap, hsm.os, hsm.tape, hsm.output⟩⟩
    case rest =>
      clear hsm
      obtain ⟨j, rfl, hjA, hjB, HD, hsm⟩ := hcut
      have hboxw : w1.heap[b]? = _ := (hb1.block b hblt).trans H0.out.2.box
      have hcap : NA ≤ c := by
        rcases HSA.out.at' with ⟨-, h1, -⟩ | ⟨b0, off0, e0, -⟩
        · omega
        · exact HCAP.out
      have hAdrA := HSA.out.adr
      have hAdrB := H0.out.1.adr
      obtain ⟨oa, hoa⟩ : ∃ oa, oa = cutAt 2 a c i := ⟨_, rfl⟩
      obtain ⟨OL, hOL⟩ : ∃ OL, OL = NA - j - i := ⟨_, rfl⟩
      obtain ⟨oc, hoc⟩ : ∃ oc, oc = c - i := ⟨_, rfl⟩
      obtain ⟨ia, hia⟩ : ∃ ia, ia = cutAt 2 al cl i := ⟨_, rfl⟩
      obtain ⟨IL, hIL⟩ : ∃ IL, IL = NB - j - i := ⟨_, rfl⟩
      obtain ⟨ic, hic⟩ : ∃ ic, ic = cl - i := ⟨_, rfl⟩
      have HSL := run.hid (And.intro
        (show ∀ (o : Oper) (ρ : Operand → Value) (X : World) (p q q' : Operand), o.op = .slice 86 p (some q) (some q') none → ρ p = .slice a NA c → ρ q = .int .i64 (i : Nat) → ρ q' = .int .i64 ((NA - j : Nat) : Int) → (execOp ρ o).run Try.prog X = .ok (.value (.slice oa OL oc)) X from fun o ρ X p q q' h1 h2 h3 h4 => by rw [hoa, hOL, hoc]; exact run_partA h1 h2 h3 h4 hAdrA (by omega) (by omega) Try.underlying86 hinf hsz)
        (show ∀ (o : Oper) (ρ : Operand → Value) (X : World) (p q q' : Operand), o.op = .slice 86 p (some q) (some q') none → ρ p = .slice al NB cl → ρ q = .int .i64 (i : Nat) → ρ q' = .int .i64 ((NB - j : Nat) : Int) → (execOp ρ o).run Try.prog X = .ok (.value (.slice ia IL ic)) X from fun o ρ X p q q' h1 h2 h3 h4 => by rw [hia, hIL, hic]; exact run_partA h1 h2 h3 h4 hAdrB (by omega) (by omega) Try.underlying86 hinf hsz))
      have HSRC := run.hid (show Src 2 w1 oa OL oc (cellsT ((F.drop i).take OL)) ∧ Src 2 w ia IL ic (cellsT ((B.drop i).take IL)) ∧ (∀ k off, oa = some ⟨k, off, none⟩ → w.heap.size ≤ k) ∧ (∀ k off, ia = some ⟨k, off, none⟩ → ¬ S k) from by
        refine ⟨?_, ?_, ?_, ?_⟩
        · rw [hoa, hOL, hoc]
          exact src_cut HSA.out HN.out.1 (by omega) (by omega) hcap
        · rw [hia, hIL, hic]
          exact src_cut H0.out.1 HN.out.2 (by omega) (by omega) hcl
        · intro k off e
          rw [hoa] at e
          obtain ⟨off', h1 | ⟨x, h1⟩⟩ := cutAt_blk e
          · exact HOWN.out k off' none h1
          · exact HOWN.out k off' x h1
        · intro k off e
          rw [hia] at e
          obtain ⟨off', h1 | ⟨x, h1⟩⟩ := cutAt_blk e
          · exact HFAR.out.1 k off' h1
          · rcases hAdrB with ⟨h2, -⟩ | ⟨b2, off2, h2⟩
            · rw [h2] at h1; cases h1
            · rw [h2] at h1
              simp only [Option.some.injEq, Addr.mk.injEq] at h1
              obtain ⟨rfl, rfl, rfl⟩ := h1
              exact HFAR.out.1 _ _ h2)
      have hal2 := all_alike (F := F) (B := B) (i := i) (j := j) (by rw [HN.out.1]; exact hjA) (by rw [HN.out.2]; exact hjB) HT.out (by rw [HN.out.1, HN.out.2]; exact HD.out) (fun h1 h2 => (HNE.out (by rw [← HN.out.1]; exact h1) (by rw [← HN.out.2]; exact h2)).out)
      have hpA := parts3 F (i := i) (j := j) (by rw [HN.out.1]; exact hjA)
      have hpB := parts3 B (i := i) (j := j) (by rw [HN.out.2]; exact hjB)
      rw [HN.out.1, HN.out.2, ← hOL, ← hIL] at hal2
      rw [HN.out.1, ← hOL] at hpA
      rw [HN.out.2, ← hIL, ← HT.out, ← HD.out] at hpB
      have HAL := run.hid (And.intro hal2 (And.intro hpA hpB))
      have hsm8 : Same w1 wc.drew := hsm.drew
      obtain ⟨wd, hwd⟩ : ∃ wd, wd = wc.drew := ⟨_, rfl⟩
      rw [← hwd] at hsm8
      have HWD := run.hid hwd
      have hbd : wd.heap[b]? = _ := hsm8.blk hboxw
      have hbdl := (Array.getElem?_eq_some_iff.1 hbd).1
      have hB2 : ∀ o : Obj, (wd.alloc o).heap[b]? = _ := fun o => (blk_old o hbdl).trans hbd
      have HBX := run.hid (And.intro (blk_cell hbd 1) (And.intro (blk_cell (hB2 zeroStep) 1) (blk_cell (hB2 (.cells #[.int .i64 (i : Nat), .slice oa OL oc, .slice ia IL ic, .int .i64 (ca : Nat), .int .i64 (caret : Nat)] 94)) 1)))
      have HB8 := run.hid (And.intro hbdl (hB2 (.cells #[.int .i64 (i : Nat), .slice oa OL oc, .slice ia IL ic, .int .i64 (ca : Nat), .int .i64 (caret : Nat)] 94)))
      have HSM := run.hid hsm8
      have HIO := run.hid (And.intro hOL (And.intro hIL (And.intro hiA hiB)))
      clear hoa hoc hia hic hOL hIL hsm hsm8 hwd hbd hbdl hB2 hboxw hAdrA hAdrB hal2 hpA hpB HA HB1 HPR HT HD HNE
      go_upto_region 8 with fail
      have FB : ∀ (D : Nat → Bool) (X : World), (fun D X => (D 22 = true → D 21 = true) ∧ (D 21 = false → X = wd) ∧ (D 21 = true → D 22 = false → X = wd.alloc zeroStep) ∧ (D 22 = true → X = wd.alloc (.cells #[.int .i64 (i : Nat), .slice oa OL oc, .slice ia IL ic, .int .i64 (ca : Nat), .int .i64 (caret : Nat)] 94))) D X → X.cell? ⟨b, 1, none⟩ = some (.int .i64 (ca : Nat)) := by
        rintro D X ⟨q1, q2, q3, q4⟩
        obtain ⟨b1, b2, b3⟩ := HBX.out
        cases h22 : D 22 with
        | true => rw [q4 h22]; exact b3
        | false =>
          cases h21 : D 21 with
          | true => rw [q3 h21 h22]; exact b2
          | false => rw [q2 h21]; exact b1
      refine lx.region (fun D X => (D 22 = true → D 21 = true) ∧ (D 21 = false → X = wd) ∧ (D 21 = true → D 22 = false → X = wd.alloc zeroStep) ∧ (D 22 = true → X = wd.alloc (.cells #[.int .i64 (i : Nat), .slice oa OL oc, .slice ia IL ic, .int .i64 (ca : Nat), .int .i64 (caret : Nat)] 94))) (by kernel_rfl) (by kernel_rfl) (by kernel_rfl) ⟨fun h => (by cases h), fun _ => HWD.out.symm, fun h => (by cases h), fun h => (by cases h)⟩ ?_
      refine lx.begin 170 rfl ?_
      refine lx.o_pure (.int .i64 (i : Nat)) (fun _ _ h => by first | rfl | kernel_rfl) ?_
      refine lx.o_pure (.slice a NA c) (fun _ _ h => by first | rfl | kernel_rfl) ?_
      refine lx.o_pure (.int .i64 (i : Nat)) (fun _ _ h => by first | rfl | kernel_rfl) ?_
      refine lx.o_pure (.slice a NA c) (fun _ _ h => by first | rfl | kernel_rfl) ?_
      refine lx.o_pure (.int .i64 (NA : Nat)) (fun D X hC => edC.run_lenA rfl rfl) ?_
      refine lx.o_pure (.int .i64 (j : Nat)) (fun _ _ h => by first | rfl | kernel_rfl) ?_
      refine lx.o_pure (.int .i64 ((NA - j : Nat) : Int)) (fun D X hC => lx.run_sub rfl rfl rfl (by omega) (by omega)) ?_
      refine lx.o_pure (.slice oa OL oc) (fun D X hC => HSL.out.1 _ _ _ _ _ _ rfl rfl rfl rfl) ?_
      refine lx.o_pure (.slice al NB cl) (fun _ _ h => by first | rfl | kernel_rfl) ?_
      refine lx.o_pure (.int .i64 (i : Nat)) (fun _ _ h => by first | rfl | kernel_rfl) ?_
      refine lx.o_pure (.slice al NB cl) (fun _ _ h => by first | rfl | kernel_rfl) ?_
      refine lx.o_pure (.int .i64 (NB : Nat)) (fun D X hC => edC.run_lenA rfl rfl) ?_
      refine lx.o_pure (.int .i64 (j : Nat)) (fun _ _ h => by first | rfl | kernel_rfl) ?_
      refine lx.o_pure (.int .i64 ((NB - j : Nat) : Int)) (fun D X hC => lx.run_sub rfl rfl rfl (by omega) (by omega)) ?_
      refine lx.o_pure (.slice ia IL ic) (fun D X hC => HSL.out.2 _ _ _ _ _ _ rfl rfl rfl rfl) ?_
      refine lx.o_pure (.pointer (some ⟨b, 0, none⟩)) (fun _ _ h => by first | rfl | kernel_rfl) ?_
      refine lx.o_pure (.pointer (some ⟨b, 0, none⟩)) (fun _ _ h => by first | rfl | kernel_rfl) ?_
      refine lx.o_pure (.pointer (some ⟨b, 1, none⟩)) (fun _ _ h => by first | rfl | kernel_rfl) ?_
      refine lx.o_pure (.int .i64 (ca : Nat)) (fun D X hC => lx.run_load rfl rfl Try.underlying3 rfl (FB D X hC)) ?_
      refine lx.o_pure (.int .i64 (caret : Nat)) (fun _ _ h => by first | rfl | kernel_rfl) ?_
      refine lx.o_pure (.agg #[.int .i64 (i : Nat), .slice oa OL oc, .slice ia IL ic, .int .i64 (ca : Nat), .int .i64 (caret : Nat)]) (fun D X hC => run_build5 rfl rfl rfl rfl rfl rfl) ?_
      refine lx.o_eff (.pointer (some ⟨wd.heap.size, 0, none⟩)) (fun D X h0 hdep hC => ?_) ?_
      · obtain ⟨q1, q2, q3, q4⟩ := hC
        obtain rfl := q2 h0
        have h22 : D 22 = false := by
          cases h : D 22 with
          | false => rfl
          | true => have := q1 h; rw [h0] at this; cases this
        exact ⟨_, run_alloc5 rfl, fun _ => rfl, (fun h => by cases h), fun _ _ => rfl, (fun h => by have h9 : D 22 = true := h; rw [h22] at h9; cases h9)⟩
      refine lx.o_put (fun D X h0 hdep hC => ?_) ?_
      · obtain ⟨q1, q2, q3, q4⟩ := hC
        have h21 : D 21 = true := hdep ⟨21, .data⟩ (by simp) rfl
        obtain rfl := q3 h21 h0
        exact ⟨_, run_store5 rfl rfl rfl, fun _ => h21, (fun h => by have h9 : D 21 = false := h; rw [h21] at h9; cases h9), (fun _ h => by cases h), fun _ => rfl⟩
      refine lx.o_end ?_
      simp only [lx.ov]
      rintro X8 d9 hd9 ⟨-, -, -, hX8⟩
      replace hX8 := hX8 (hd9 22 (by decide))
      clear hd9 FB HBX
      subst hX8
      go_simp
      obtain ⟨w8, hw8⟩ : ∃ w8, w8 = wd.alloc (.cells #[.int .i64 (i : Nat), .slice oa OL oc, .slice ia IL ic, .int .i64 (ca : Nat), .int .i64 (caret : Nat)] 94) := ⟨_, rfl⟩
      have hk8 : w8.heap[wd.heap.size]? = some (.cells #[.int .i64 (i : Nat), .slice oa OL oc, .slice ia IL ic, .int .i64 (ca : Nat), .int .i64 (caret : Nat)] 94 (0, 0)) := by rw [hw8]; exact heap_alloc_new _ _
      have hb8 : w8.heap[b]? = some (.cells #[.pointer (some ⟨g, 0, none⟩), .int .i64 (ca : Nat), .int .i64 an, sv, .int .i64 (dn : Nat)] 72 (0, 0)) := by rw [hw8]; exact HB8.out.2
      have hkb : b < wd.heap.size := HB8.out.1
      have hkd : Kept (fun _ => False) wd w8 := by rw [hw8]; exact (Kept.refl _ wd).alloc _
      rw [← hw8]
      have hs8 : w8.heap.size = wd.heap.size + 1 := by rw [hw8, World.size_alloc]
      have hK8 : Kept (fun _ => False) w w8 := ((Kept.of_below hb1).trans (Same.kept (Kept.refl _ w1) HSM.out) (fun _ _ h => h)).trans hkd (fun _ _ h => h)
      have hK18 : Kept (fun _ => False) w1 w8 := (Same.kept (Kept.refl _ w1) HSM.out).trans hkd (fun _ _ h => h)
      have HK8 := run.hid (And.intro hK8 (And.intro hkd (And.intro hs8 hK18)))
      have hwsz : w.heap.size ≤ wd.heap.size := by have := hb1.size; have := HSM.out.heap; rw [this]; omega
      obtain ⟨kb, hkbe⟩ : ∃ kb, kb = wd.heap.size := ⟨_, rfl⟩
      rw [← hkbe] at hk8 hkb hwsz ⊢
      have HKB := run.hid hkbe
      clear hw8 HB8 hkd hK8 hK18 hs8 hkbe HWD HSL
      have s0 := blk_cell hk8 0
      have s1 := blk_cell hk8 1
      have s2 := blk_cell hk8 2
      have s3 := blk_cell hk8 3
      have s4 := blk_cell hk8 4
      change w8.cell? _ = some (.int .i64 (i : Nat)) at s0
      change w8.cell? _ = some (.slice oa OL oc) at s1
      change w8.cell? _ = some (.slice ia IL ic) at s2
      change w8.cell? _ = some (.int .i64 (ca : Nat)) at s3
      change w8.cell? _ = some (.int .i64 (caret : Nat)) at s4
      have d1 := blk_cell hb8 1
      change w8.cell? _ = some (.int .i64 (ca : Nat)) at d1
      obtain ⟨cd, hcd⟩ : ∃ cd : Bool, cd = decide (OL = 0 ∧ IL = 0 ∧ caret = ca ∧ always = false) := ⟨_, rfl⟩
      have HCD := run.hid hcd
      have HH8 := run.hid (And.intro hb8 hk8)
      clear hcd hb8 hk8
      go_upto_region 9 with fail
      go_cut [118] (fun p wx => p = .bool cd ∧ wx = w8)
      case first =>
        clear HH8 HK8 HSRC HAL HSTAY HBT HSS HSM HSA HOWN HCAP HFAR H0
        by_cases h1 : OL = 0
        · subst h1
          by_cases h2 : IL = 0
          · subst h2
            by_cases h3 : caret = ca
            · subst h3
              have h33 : ((caret : Int) == (caret : Int)) = true := by simp
              cases always
              · go_wp2
                go_meet
                exact ⟨by rw [HCD.out]; rfl, rfl⟩
              · go_wp2
                go_meet
                exact ⟨by rw [HCD.out]; simp, rfl⟩
            · have h33 : ((caret : Int) == (ca : Int)) = false := by simp only [beq_eq_false_iff_ne, ne_eq]; omega
              go_wp2
              go_meet
              exact ⟨by rw [HCD.out]; simp [h3], rfl⟩
          · have h22 : ((IL : Int) == 0) = false := by simp only [beq_eq_false_iff_ne, ne_eq]; omega
            go_wp2
            go_meet
            exact ⟨by rw [HCD.out]; simp [h2], rfl⟩
        · have h11 : ((OL : Int) == 0) = false := by simp only [beq_eq_false_iff_ne, ne_eq]; omega
          go_wp2
          go_meet
          exact ⟨by rw [HCD.out]; simp [h1], rfl⟩
      case rest =>
        obtain ⟨rfl, hwc⟩ := hcut
        rw [hwc]
        clear hwc
        cases hcd : cd with
        | true =>
          subst hcd
          have hc1 := HCD.out.symm
          rw [decide_eq_true_iff] at hc1
          have hBT := HBT.out.1 ⟨HAL.out.1.2 ⟨hc1.1, hc1.2.1⟩, hc1.2.2⟩
          have HF := run.hid (And.intro hBT (HSTAY.out _ HK8.out.1))
          clear HCD HAL HBT HSTAY HH8 HK8 HSRC HSS HSM HSA HOWN HCAP HFAR H0 s0 s1 s2 s3 s4 d1 hBT hc1
          go_wp2
          go_ret
          rw [HF.out.1]
          exact ⟨rfl, HF.out.2⟩
        | false =>
          subst hcd
          have hc1 := HCD.out.symm
          rw [decide_eq_false_iff_not] at hc1
          have hBT := HBT.out.2 (fun h => hc1 ⟨(HAL.out.1.1 h.1).1, (HAL.out.1.1 h.1).2, h.2.1, h.2.2⟩)
          have HB9 := run.hid hBT
          clear HCD HBT HSTAY hc1 hBT
          have hk8 : Kept (fun _ => False) w w8.drew := HK8.out.1.drew
          have hk18 : Kept (fun _ => False) w1 w8.drew := HK8.out.2.2.2.drew
          have hb8 : w8.drew.heap[b]? = _ := HH8.out.1
          have hq8 : w8.drew.heap[kb]? = _ := HH8.out.2
          have hsz8 : w8.drew.heap.size = kb + 1 := by rw [HKB.out]; exact HK8.out.2.2.1
          obtain ⟨wd2, hwd2⟩ : ∃ wd2, wd2 = w8.drew := ⟨_, rfl⟩
          rw [← hwd2] at hk8 hk18 hb8 hq8 hsz8
          have HWD2 := run.hid hwd2
          obtain ⟨w15, hw15⟩ : ∃ w15, w15 = wd2.alloc (.cells #[.int .i64 (i : Nat), .slice oa OL oc, .slice ia IL ic, .int .i64 (ca : Nat), .int .i64 (caret : Nat)] 94) := ⟨_, rfl⟩
          have hk15 : Kept (fun _ => False) w w15 := by rw [hw15]; exact hk8.alloc _
          have hk115 : Kept (fun _ => False) w1 w15 := by rw [hw15]; exact hk18.alloc _
          have hr15 : w15.heap[wd2.heap.size]? = some (.cells #[.int .i64 (i : Nat), .slice oa OL oc, .slice ia IL ic, .int .i64 (ca : Nat), .int .i64 (caret : Nat)] 94 (0, 0)) := by rw [hw15]; exact heap_alloc_new _ _
          have hb15 : w15.heap[b]? = wd2.heap[b]? := by rw [hw15]; exact blk_old _ (by omega)
          rw [hb8] at hb15
          have hq15 : w15.heap[kb]? = wd2.heap[kb]? := by rw [hw15]; exact blk_old _ (by omega)
          rw [hq8] at hq15
          have hsz15 : w15.heap.size = kb + 2 := by rw [hw15, World.size_alloc]; omega
          obtain ⟨sa, ac, c6, w6, hsv, hLac, hAdr, hap, hc6, hk6, hs6, hold, n0, n1, n2, n3, n4⟩ := steps_append HSS.out.1 hdn hdm hk15 (fun _ h => h.elim) hr15 70
          subst hsv
          have HAP := run.hid hap
          have HAS := run.hid (And.intro hAdr (Nat.le_trans hdn hLac))
          have HW15 := run.hid hw15
          obtain ⟨kR, hkR⟩ : ∃ kR, kR = w15.heap.size := ⟨_, rfl⟩
          rw [← hkR] at HAP hold n0 n1 n2 n3 n4
          have hb6 := (hk6.block b (by omega) (fun h => h)).trans hb15
          have hq6 := (hk6.block kb (by omega) (fun h => h)).trans hq15
          have hb19 : (w6.setCell ⟨b, 3, none⟩ (.slice (some ⟨kR, 0, none⟩) (dn + 1) c6)).heap[b]? = some (.cells #[.pointer (some ⟨g, 0, none⟩), .int .i64 (ca : Nat), .int .i64 an, .slice (some ⟨kR, 0, none⟩) (dn + 1) c6, .int .i64 (dn : Nat)] 72 (0, 0)) := heap_setCell_same _ _ 3 _ _ _ hb6
          have hq19 : (w6.setCell ⟨b, 3, none⟩ (.slice (some ⟨kR, 0, none⟩) (dn + 1) c6)).heap[kb]? = _ := (Below.heap_setCell w6 ⟨b, 3, none⟩ (.slice (some ⟨kR, 0, none⟩) (dn + 1) c6) kb (by show kb ≠ b; omega)).trans hq6
          have fb : ∀ X : World, X.heap[b]? = some (.cells #[.pointer (some ⟨g, 0, none⟩), .int .i64 (ca : Nat), .int .i64 an, .slice sa L.length ac, .int .i64 (dn : Nat)] 72 (0, 0)) → X.cell? ⟨b, 3, none⟩ = some (.slice sa L.length ac) ∧ X.frozen? ⟨b, 3, none⟩ = false ∧ (X.cell? ⟨b, 3, none⟩).isSome = true := fun X h => ⟨blk_cell h 3, blk_free h 3, by rw [blk_cell h 3]; rfl⟩
          have f4 : ∀ (X : World) (v3 : Value), X.heap[b]? = some (.cells #[.pointer (some ⟨g, 0, none⟩), .int .i64 (ca : Nat), .int .i64 an, v3, .int .i64 (dn : Nat)] 72 (0, 0)) → X.cell? ⟨b, 4, none⟩ = some (.int .i64 (dn : Nat)) := fun X v3 h => blk_cell h 4
          have HB11 := run.hid (And.intro (fb _ hb8) (And.intro (fb _ hb15) (And.intro (fb _ hb6) (And.intro (And.intro (f4 _ _ hb8) hq8) (And.intro (And.intro (f4 _ _ hb15) hq15) (And.intro (And.intro (f4 _ _ hb6) hq6) (And.intro (f4 _ _ hb19) hq19)))))))
          have HN6 := run.hid (And.intro n0 (And.intro n1 (And.intro n2 (And.intro n3 (And.intro n4 hold)))))
          have HK6 := run.hid (show Kept (fun _ => False) w w6 ∧ w.heap.size ≤ kR ∧ kR < w6.heap.size ∧ dn + 1 ≤ c6 ∧ Kept (fun _ => False) w1 w6 from ⟨hk15.trans hk6 (fun _ _ h => h.elim), by have := hk15.size; omega, by omega, hc6, hk115.trans hk6 (fun _ _ h => h.elim)⟩)
          have H19 := run.hid (And.intro hb19 hq19)
          have hbkb : b ≠ kb := by omega
          clear fb f4 hk8 hk18 hk115 hb8 hq8 hsz8 hwd2 hk15 hr15 hb15 hq15 hsz15 hAdr hap hk6 hs6 hold n0 n1 n2 n3 n4 hb6 hq6 hb19 hq19 hkR hw15 hLac HH8 HK8 s0 s1 s2 s3 s4 d1 HSM
          go_upto_region 11 with fail
          have FB : ∀ (D : Nat → Bool) (X : World), (fun D X => (D 19 = true → D 16 = true) ∧ (D 16 = true → D 15 = true ∧ D 13 = true) ∧ (D 13 = true → D 4 = true) ∧ (D 15 = false → X = wd2) ∧ (D 15 = true → D 16 = false → X = w15) ∧ (D 16 = true → D 19 = false → X = w6) ∧ (D 19 = true → X = w6.setCell ⟨b, 3, none⟩ (.slice (some ⟨kR, 0, none⟩) (dn + 1) c6))) D X → D 19 = false → X.cell? ⟨b, 3, none⟩ = some (.slice sa L.length ac) ∧ X.frozen? ⟨b, 3, none⟩ = false ∧ (X.cell? ⟨b, 3, none⟩).isSome = true := by
            rintro D X ⟨q1, q2, q3, q4, q5, q6, q7⟩ h19
            obtain ⟨b1, b2, b3, -⟩ := HB11.out
            cases h16 : D 16 with
            | true => rw [q6 h16 h19]; exact b3
            | false =>
              cases h15 : D 15 with
              | true => rw [q5 h15 h16]; exact b2
              | false => rw [q4 h15]; exact b1
          have F4 : ∀ (D : Nat → Bool) (X : World), (fun D X => (D 19 = true → D 16 = true) ∧ (D 16 = true → D 15 = true ∧ D 13 = true) ∧ (D 13 = true → D 4 = true) ∧ (D 15 = false → X = wd2) ∧ (D 15 = true → D 16 = false → X = w15) ∧ (D 16 = true → D 19 = false → X = w6) ∧ (D 19 = true → X = w6.setCell ⟨b, 3, none⟩ (.slice (some ⟨kR, 0, none⟩) (dn + 1) c6))) D X → X.cell? ⟨b, 4, none⟩ = some (.int .i64 (dn : Nat)) ∧ X.heap[kb]? = some (.cells #[.int .i64 (i : Nat), .slice oa OL oc, .slice ia IL ic, .int .i64 (ca : Nat), .int .i64 (caret : Nat)] 94 (0, 0)) := by
            rintro D X ⟨q1, q2, q3, q4, q5, q6, q7⟩
            obtain ⟨-, -, -, b4, b5, b6, b7⟩ := HB11.out
            cases h19 : D 19 with
            | true => rw [q7 h19]; exact b7
            | false =>
              cases h16 : D 16 with
              | true => rw [q6 h16 h19]; exact b6
              | false =>
                cases h15 : D 15 with
                | true => rw [q5 h15 h16]; exact b5
                | false => rw [q4 h15]; exact b4
          refine lx.region (fun D X => (D 19 = true → D 16 = true) ∧ (D 16 = true → D 15 = true ∧ D 13 = true) ∧ (D 13 = true → D 4 = true) ∧ (D 15 = false → X = wd2) ∧ (D 15 = true → D 16 = false → X = w15) ∧ (D 16 = true → D 19 = false → X = w6) ∧ (D 19 = true → X = w6.setCell ⟨b, 3, none⟩ (.slice (some ⟨kR, 0, none⟩) (dn + 1) c6))) (by kernel_rfl) (by kernel_rfl) (by kernel_rfl) ⟨fun h => (by cases h), fun h => (by cases h), fun h => (by cases h), fun _ => HWD2.out.symm, fun h => (by cases h), fun h => (by cases h), fun h => (by cases h)⟩ ?_
          refine lx.begin 170 rfl ?_
          refine lx.o_pure (.pointer (some ⟨b, 0, none⟩)) (fun _ _ h => by first | rfl | kernel_rfl) ?_
          refine lx.o_pure (.pointer (some ⟨b, 0, none⟩)) (fun _ _ h => by first | rfl | kernel_rfl) ?_
          refine lx.o_pure (.pointer (some ⟨b, 0, none⟩)) (fun _ _ h => by first | rfl | kernel_rfl) ?_
          refine lx.o_pure (.pointer (some ⟨b, 3, none⟩)) (fun _ _ h => by first | rfl | kernel_rfl) ?_
          refine lx.o_eff (.slice sa L.length ac) (fun D X h0 hdep hC => ?_) ?_
          · have h19 : D 19 = false := by
              cases h : D 19 with
              | false => rfl
              | true =>
                exfalso
                obtain ⟨q1, q2, q3, -⟩ := hC
                have := q3 (q2 (q1 h)).2
                rw [this] at h0; cases h0
            refine ⟨X, lx.run_load rfl rfl Try.underlying70 rfl (FB D X hC h19).1, ?_⟩
            obtain ⟨q1, q2, q3, q4, q5, q6, q7⟩ := hC
            exact ⟨q1, q2, fun _ => rfl, q4, q5, q6, q7⟩
          refine lx.o_pure (.pointer (some ⟨b, 0, none⟩)) (fun _ _ h => by first | rfl | kernel_rfl) ?_
          refine lx.o_pure (.pointer (some ⟨b, 0, none⟩)) (fun _ _ h => by first | rfl | kernel_rfl) ?_
          refine lx.o_pure (.pointer (some ⟨b, 4, none⟩)) (fun _ _ h => by first | rfl | kernel_rfl) ?_
          refine lx.o_pure (.int .i64 (dn : Nat)) (fun D X hC => lx.run_load rfl rfl Try.underlying3 rfl (F4 D X hC).1) ?_
          refine lx.o_pure (.pointer (some ⟨b, 0, none⟩)) (fun _ _ h => by first | rfl | kernel_rfl) ?_
          refine lx.o_pure (.pointer (some ⟨b, 0, none⟩)) (fun _ _ h => by first | rfl | kernel_rfl) ?_
          refine lx.o_pure (.pointer (some ⟨b, 4, none⟩)) (fun _ _ h => by first | rfl | kernel_rfl) ?_
          refine lx.o_pure (.int .i64 (dn : Nat)) (fun D X hC => lx.run_load rfl rfl Try.underlying3 rfl (F4 D X hC).1) ?_
          refine lx.o_eff (.slice sa dn dn) (fun D X h0 hdep hC => ?_) ?_
          · refine ⟨X, run_headA rfl rfl rfl rfl HAS.out.1 HAS.out.2 Try.underlying70 hinfc hszc, ?_⟩
            obtain ⟨q1, q2, q3, q4, q5, q6, q7⟩ := hC
            exact ⟨q1, fun h => ⟨(q2 h).1, rfl⟩, fun _ => hdep ⟨4, .data⟩ (by simp) rfl, q4, q5, q6, q7⟩
          refine lx.o_pure (.agg #[.int .i64 (i : Nat), .slice oa OL oc, .slice ia IL ic, .int .i64 (ca : Nat), .int .i64 (caret : Nat)]) (fun D X hC => run_load5 rfl rfl (F4 D X hC).2) ?_
          refine lx.o_eff (.slice (some ⟨wd2.heap.size, 0, none⟩) 1 1) (fun D X h0 hdep hC => ?_) ?_
          · obtain ⟨q1, q2, q3, q4, q5, q6, q7⟩ := hC
            obtain rfl := q4 h0
            have h16 : D 16 = false := by
              cases h : D 16 with
              | false => rfl
              | true => have := (q2 h).1; rw [h0] at this; cases this
            have h19 : D 19 = false := by
              cases h : D 19 with
              | false => rfl
              | true => have := q1 h; rw [h16] at this; cases this
            exact ⟨_, run_buildS rfl rfl, q1, fun h => ⟨rfl, (q2 h).2⟩, q3, (fun h => by cases h), fun _ _ => HW15.out.symm, (fun h => by have h9 : D 16 = true := h; rw [h16] at h9; cases h9), (fun h => by have h9 : D 19 = true := h; rw [h19] at h9; cases h9)⟩
          refine lx.o_eff (.slice (some ⟨kR, 0, none⟩) (dn + 1) c6) (fun D X h0 hdep hC => ?_) ?_
          · obtain ⟨q1, q2, q3, q4, q5, q6, q7⟩ := hC
            have h15 : D 15 = true := hdep ⟨15, .data⟩ (by simp) rfl
            have h13 : D 13 = true := hdep ⟨13, .data⟩ (by simp) rfl
            obtain rfl := q5 h15 h0
            have h19 : D 19 = false := by
              cases h : D 19 with
              | false => rfl
              | true => have := q1 h; rw [h0] at this; cases this
            exact ⟨_, edC.run_appG rfl rfl rfl HAP.out, fun _ => rfl, fun _ => ⟨h15, h13⟩, q3, (fun h => by have h9 : D 15 = false := h; rw [h15] at h9; cases h9), (fun _ h => by cases h), fun _ _ => rfl, (fun h => by have h9 : D 19 = true := h; rw [h19] at h9; cases h9)⟩
          refine lx.o_pure (.pointer (some ⟨b, 0, none⟩)) (fun _ _ h => by first | rfl | kernel_rfl) ?_
          refine lx.o_pure (.pointer (some ⟨b, 3, none⟩)) (fun _ _ h => by first | rfl | kernel_rfl) ?_
          refine lx.o_put (fun D X h0 hdep hC => ?_) ?_
          · have hb := FB D X hC h0
            obtain ⟨q1, q2, q3, q4, q5, q6, q7⟩ := hC
            have h16 : D 16 = true := hdep ⟨16, .data⟩ (by simp) rfl
            obtain rfl := q6 h16 h0
            exact ⟨_, run_storeS rfl rfl rfl hb.1 hb.2.1, fun _ => h16, q2, q3, (fun h => by have h9 : D 15 = false := h; rw [(q2 h16).1] at h9; cases h9), (fun _ h => by have h9 : D 16 = false := h; rw [h16] at h9; cases h9), (fun _ h => by cases h), fun _ => rfl⟩
          refine lx.o_end ?_
          simp only [lx.ov]
          rintro X19 d9 hd9 ⟨-, -, -, -, -, -, hX19⟩
          replace hX19 := hX19 (hd9 19 (by decide))
          clear hd9 FB F4 HB11
          subst hX19
          go_simp
          obtain ⟨w19, hw19⟩ : ∃ w19, w19 = w6.setCell ⟨b, 3, none⟩ (.slice (some ⟨kR, 0, none⟩) (dn + 1) c6) := ⟨_, rfl⟩
          have hk19 : Kept (fun k => k = b) w6 w19 := by rw [hw19]; exact Kept.setCell (Kept.refl (fun k => k = b) w6) (.inl rfl) _
          rw [← hw19] at H19 ⊢
          clear HAP HAS HW15 HWD2 hw19
          have hjl : (F.take i).length = i := by rw [List.length_take, HN.out.1]; omega
          have hOLl : ((F.drop i).take OL).length = OL := by rw [List.length_take, List.length_drop, HN.out.1, HIO.out.1]; omega
          have hILl : ((B.drop i).take IL).length = IL := by rw [List.length_take, List.length_drop, HN.out.2, HIO.out.2.1]; omega
          have hk0 := HK6.out.1
          have hkRS : ¬ S kR := fun h => by have := HFAR.out.2 kR h; have := HK6.out.2.1; omega
          have hdnl : (L.take dn).length = dn := by rw [List.length_take]; omega
          have hk1d : Kept (fun _ => False) w1 w6 := HK6.out.2.2.2.2
          have hnew : StepAt S ⟨F, ca, B, caret⟩ kR (dn * 5) w6 := by
            refine ⟨F.take i, (F.drop i).take OL, (B.drop i).take IL, F.drop (NA - j), oa, oc, ia, ic, HAL.out.2.1, HAL.out.2.2, ?_, ?_, ?_, HN6.out.2.2.2.1, HN6.out.2.2.2.2.1, ?_, ?_⟩
            · rw [hjl]; exact HN6.out.1
            · rw [hOLl]; exact HN6.out.2.1
            · rw [hILl]; exact HN6.out.2.2.1
            · refine ⟨?_, fun k off e h => by have := HSRC.out.2.2.1 k off e; have := HFAR.out.2 k h; omega⟩
              rw [hOLl]
              exact HSRC.out.1.kept hk1d (fun _ _ _ h => h)
            · refine ⟨?_, HSRC.out.2.2.2⟩
              rw [hILl]
              exact HSRC.out.2.1.kept hk0 (fun _ _ _ h => h)
          have hst6 : StepsAt S (.slice (some ⟨kR, 0, none⟩) (dn + 1) c6) (L.take dn ++ [⟨F, ca, B, caret⟩]) w6 := by
            refine ⟨some ⟨kR, 0, none⟩, c6, by rw [List.length_append, hdnl]; rfl, by rw [List.length_append, hdnl]; exact HK6.out.2.2.2.1, .inr ⟨kR, 0, rfl, HK6.out.2.2.1, hkRS, fun jj x hx => ?_⟩⟩
            rw [Nat.zero_add]
            rcases Nat.lt_or_ge jj dn with h | h
            · rw [List.getElem?_append_left (by rw [hdnl]; exact h)] at hx
              exact HN6.out.2.2.2.2.2 S (fun k hk => .inl hk) jj x hx
            · rw [List.getElem?_append_right (by rw [hdnl]; exact h), hdnl] at hx
              have hj0 : jj - dn = 0 := by
                have := (List.getElem?_eq_some_iff.1 hx).1
                simpa using this
              rw [hj0] at hx
              simp only [List.getElem?_cons_zero, Option.some.injEq] at hx
              subst hx
              rw [show jj = dn by omega]
              exact hnew
          have hst19 : StepsAt S (.slice (some ⟨kR, 0, none⟩) (dn + 1) c6) (L.take dn ++ [⟨F, ca, B, caret⟩]) w19 := hst6.kept hk19 (fun k h => h ▸ HSS.out.2.1) (fun k h => .inl h)
          have HST := run.hid hst19
          have hk019 : Kept (fun k => k = b) w w19 := (hk0.more (S' := fun k => k = b) (fun _ _ h => h.elim)).trans hk19 (fun _ _ h => h)
          have HK19 := run.hid hk019
          have hc6 : dn + 1 ≤ c6 := HK6.out.2.2.2.1
          clear hk0 hk1d hnew hst6 hst19 hk019 hk19 HN6 HK6
          have hapl : (L.take dn ++ [(⟨F, ca, B, caret⟩ : St)]).length = dn + 1 := by rw [List.length_append, hdnl]; rfl
          obtain ⟨LIM, hLIM⟩ : ∃ LIM, LIM = lim (L.take dn ++ [⟨F, ca, B, caret⟩]) := ⟨_, rfl⟩
          have hlim : (256 < dn + 1 → LIM = (L.take dn ++ [(⟨F, ca, B, caret⟩ : St)]).drop 1 ∧ LIM.length = dn) ∧ (¬ 256 < dn + 1 → LIM = L.take dn ++ [⟨F, ca, B, caret⟩] ∧ LIM.length = dn + 1) := by
            rw [hLIM]
            unfold lim
            rw [hapl]
            refine ⟨fun h => ?_, fun h => ?_⟩
            · rw [if_pos h]; exact ⟨rfl, by rw [List.length_drop, hapl]; rfl⟩
            · rw [if_neg h]; exact ⟨rfl, hapl⟩
          have HL1 := run.hid hlim
          have HL0 := run.hid hLIM
          have hboxA := H19.out.1
          have e3 := blk_cell hboxA 3
          change w19.cell? _ = some (.slice (some ⟨kR, 0, none⟩) (dn + 1) c6) at e3
          have f3 := blk_free hboxA 3
          clear hlim hLIM hboxA hapl hjl hOLl hILl hdnl hkRS HSA HOWN HCAP
          go_upto_if 143 with fail
          go_cut [8] (fun p wx => ∃ off2 n2 c2, wx.heap[b]? = some (.cells #[.pointer (some ⟨g, 0, none⟩), .int .i64 (ca : Nat), .int .i64 an, .slice (some ⟨kR, off2, none⟩) n2 c2, .int .i64 (dn : Nat)] 72 (0, 0)) ∧ Hid (StepsAt S (.slice (some ⟨kR, off2, none⟩) n2 c2) LIM wx) ∧ Kept (fun k => k = b) w19 wx ∧ Hid (n2 = LIM.length))
          case first =>
            by_cases h256 : 256 < dn + 1
            · have h256i : (256 : Int) < ((dn + 1 : Nat) : Int) := by omega
              have hc1 : ¬ c6 = 1 := by omega
              have hL := HL1.out.1 h256
              have htl := HST.out.tail
              rw [← hL.1] at htl
              have HT2 := run.hid (show StepsAt S (.slice (some ⟨kR, 5, none⟩) dn (c6 - 1)) LIM (w19.setCell ⟨b, 3, none⟩ (.slice (some ⟨kR, 5, none⟩) dn (c6 - 1))) from htl.kept (Kept.setCell (b := b) (i := 3) (Kept.refl (fun k => k = b) w19) (.inl rfl) _) (fun k h => h ▸ HSS.out.2.1) (fun k h => .inl h))
              have HT3 := run.hid (show (w19.setCell ⟨b, 3, none⟩ (.slice (some ⟨kR, 5, none⟩) dn (c6 - 1))).heap[b]? = some (.cells #[.pointer (some ⟨g, 0, none⟩), .int .i64 (ca : Nat), .int .i64 an, .slice (some ⟨kR, 5, none⟩) dn (c6 - 1), .int .i64 (dn : Nat)] 72 (0, 0)) from heap_setCell_same _ _ 3 _ _ _ H19.out.1)
              have HT4 := run.hid hL.2
              clear hL htl HST HL1 HL0 HB9 HAL HSS HFAR H0 HSRC HK19 HIO
              go_wp2
              go_meet
              exact ⟨5, dn, c6 - 1, HT3.out, HT2, Kept.setCell (b := b) (i := 3) (Kept.refl (fun k => k = b) w19) (.inl rfl) _, run.hid HT4.out.symm⟩
            · have h256i : ¬ (256 : Int) < ((dn + 1 : Nat) : Int) := by omega
              have hL := HL1.out.2 h256
              have htl := HST.out
              rw [← hL.1] at htl
              have HT2 := run.hid htl
              have HT4 := run.hid hL.2
              clear hL htl HST HL1 HL0 HB9 HAL HSS HFAR H0 HSRC HK19 HIO
              go_wp2
              go_meet
              exact ⟨0, dn + 1, c6, H19.out.1, HT2, Kept.refl _ _, run.hid HT4.out.symm⟩
          case rest =>
            obtain ⟨off2, n2, c2, hbx, HSTX, hkx, HN2⟩ := hcut
            obtain ⟨w14, hw14⟩ : ∃ w14, w14 = wc.setCell ⟨b, 4, none⟩ (.int .i64 (n2 : Nat)) := ⟨_, rfl⟩
            have hk14 : Kept (fun k => k = b) wc w14 := by rw [hw14]; exact Kept.setCell (Kept.refl (fun k => k = b) wc) (.inl rfl) _
            have hkA : Kept (fun k => k = b) w w14 := (HK19.out.trans hkx (fun _ _ h => h)).trans hk14 (fun _ _ h => h)
            have hq14 : w14.heap[kb]? = some (.cells #[.int .i64 (i : Nat), .slice oa OL oc, .slice ia IL ic, .int .i64 (ca : Nat), .int .i64 (caret : Nat)] 94 (0, 0)) := by
              have h1 := (hkx.block kb (Array.getElem?_eq_some_iff.1 H19.out.2).1 (by omega)).trans H19.out.2
              exact (hk14.block kb (Array.getElem?_eq_some_iff.1 h1).1 (by omega)).trans h1
            have hb14 : w14.heap[b]? = some (.cells #[.pointer (some ⟨g, 0, none⟩), .int .i64 (ca : Nat), .int .i64 an, .slice (some ⟨kR, off2, none⟩) n2 c2, .int .i64 (n2 : Nat)] 72 (0, 0)) := by rw [hw14]; exact heap_setCell_same _ _ 4 _ _ _ hbx
            have hE14 : Ed b g lb F (ca : Nat) an (.slice (some ⟨kR, off2, none⟩) n2 c2) (n2 : Nat) w14 := by
              obtain ⟨gn, gcap, gf, gu, gA, hG, hr⟩ := H0.out.2.gap
              exact ⟨hb14, ⟨gn, gcap, gf, gu, gA, hG.kept hkA H0.out.2.bg.symm H0.out.2.bl.symm, hr⟩, H0.out.2.bg, H0.out.2.bl⟩
            have hILl : ((B.drop i).take IL).length = IL := by rw [List.length_take, List.length_drop, HN.out.2, HIO.out.2.1]; omega
            have hOLe := HIO.out.1
            have hT := turn_any hE14 (H := (B.drop i).take IL) i OL ia ic (caret : Nat) (by rw [hILl]; exact HSRC.out.2.1.kept hkA (fun k off e h => HSRC.out.2.2.2 k off e (h ▸ HSS.out.2.1))) (by rw [HN.out.1]; omega) (by rw [HN.out.1]; exact hF) (by rw [hILl, HIO.out.2.1]; omega) (fun k off e => ⟨fun h => HSRC.out.2.2.2 k off e (h ▸ HSS.out.2.2.1), fun h => HSRC.out.2.2.2 k off e (h ▸ HSS.out.2.2.2)⟩)
            rw [hILl] at hT
            have HT := run.hid hT
            have HZ := run.hid (show F.take i ++ (B.drop i).take IL ++ F.drop (i + OL) = B from by
              rw [show i + OL = NA - j by omega]
              exact HAL.out.2.2.symm)
            have HSTY := run.hid (show StepsAt S (.slice (some ⟨kR, off2, none⟩) n2 c2) LIM w14 from HSTX.out.kept hk14 (fun k h => h ▸ HSS.out.2.1) (fun k h => .inl h))
            have HKA := run.hid (And.intro hkA (hkA.size))
            have s0 := blk_cell hq14 0
            have s1 := blk_cell hq14 1
            have s2 := blk_cell hq14 2
            change w14.cell? _ = some (.int .i64 (i : Nat)) at s0
            change w14.cell? _ = some (.slice oa OL oc) at s1
            change w14.cell? _ = some (.slice ia IL ic) at s2
            have e3 := blk_cell hbx 3
            have e4 := blk_cell hbx 4
            change wc.cell? _ = some (.slice (some ⟨kR, off2, none⟩) n2 c2) at e3
            change wc.cell? _ = some (.int .i64 (dn : Nat)) at e4
            have f4 := blk_free hbx 4
            clear hb14 hE14 hILl hOLe hT hq14 hk14 hkA hbx HSTX hkx H0 HAL HSRC HIO HST HL1 H19 HK19
            go_upto_region 15 with fail
            rw [← hw14]
            clear hw14 e3 e4 f4
            go_wp2_with fail
            refine HT.out.mono ?_
            rintro e w9 ⟨rfl, lb2, hE2, hlb2, hk2⟩
            rw [HZ.out] at hE2
            obtain ⟨hkA, hsA⟩ := HKA.out
            obtain ⟨-, sb, sg, sl⟩ := HSS.out
            have hown : ∀ k, Own b g lb k → S k := by
              rintro k (rfl | rfl | rfl)
              · exact sb
              · exact sg
              · exact sl
            have hfin : After S b g lb ⟨B, caret, -1, LIM, LIM.length⟩ w w9 := by
              refine ⟨lb2, ⟨⟨_, ?_, HSTY.out.kept hk2 hown (fun k h => ?_)⟩, .inl sb, .inl sg, .inr rfl⟩, hlb2.elim .inl (fun h => .inr (by omega)), (hkA.more (S' := Own b g lb) (fun k _ h => .inl h)).trans hk2 (fun k _ h => h)⟩
              · dsimp only
                rw [← HN2.out]
                exact hE2
              · rcases h with h | rfl
                · exact .inl h
                · exact hlb2.elim (fun h => .inl (h ▸ sl)) .inr
            rw [HL0.out] at hfin
            have hBT := HB9.out
            rw [← HL0.out] at hBT hfin
            have HF := run.hid (And.intro hBT hfin)
            clear hE2 hk2 hkA hfin hBT hown HT HZ HSTY HKA HSS HL0 HB9 s0 s1 s2
            go_wp2
            go_ret
            rw [HF.out.1]
            exact ⟨rfl, HF.out.2⟩
end Go.Proofs.Ytgpgbbbcodnieaa.ed
