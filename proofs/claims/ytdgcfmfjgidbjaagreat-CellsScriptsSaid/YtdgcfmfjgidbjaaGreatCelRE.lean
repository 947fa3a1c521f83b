/-
  The document's buffer: edges. (Its regions printed by gen_celre.py.)
-/
import Derived.Test.YtdgcfmfjgidbjaaGreatCelRQ
namespace Go.Proofs.YtdgcfmfjgidbjaaGreat.cel
open Go Go.RowKit Go.Proofs
set_option linter.unusedVariables false
/-- pairs that a rectangle parts are broken, place by place -/
def edT (W : Nat) (r : RT) (L : List CV) : Nat → List CV
  | 0 => L
  | k + 1 => if k % W + 1 < W ∧ wd (edT W r L k) k = 2 ∧ hasT r ((k % W : Nat) : Int) ((k / W : Nat) : Int) ≠ hasT r (((k % W : Nat) : Int) + 1) ((k / W : Nat) : Int) then brokenT (edT W r L k) k else edT W r L k
theorem set_self {L : List CV} {i : Nat} {c : CV} (hi : i < L.length) (h : L.getD i z0 = c) : L.set i c = L := by
  apply List.ext_getElem?
  intro j
  rw [List.getElem?_set]
  split
  · rename_i e
    subst e
    rw [← h, List.getD_eq_getElem?_getD, List.getElem?_eq_getElem hi]
    rfl
  · rfl
theorem broken_set {L : List CV} {i : Nat} (hi : i + 1 < L.length) (h : wd L i = 2) : brokenT L i = setT L i (blankT (gf L i).sty) := by
  unfold setT
  rw [set_self]
  · rw [broken_length]; omega
  · unfold brokenT headOf
    change (L.getD i z0).wide = 2 at h
    rw [if_pos (.inr h), if_neg (by omega), getD_set (by rw [List.length_set]; omega), if_neg (by omega), getD_set (by omega), if_pos rfl]
    rfl
theorem strong_broken {W H : Nat} {L : List CV} (h : Strong W H L) {i : Nat} (hi : i < W * H) (h2 : wd L i = 2) : Strong W H (brokenT L i) := by
  have hN := h.nice (fun _ => True)
  have hp := (good_pre hN.good hi).2 h2
  rw [broken_set (by rw [h.1]; exact hp) h2]
  exact (hN.set hi (unit1_blank _) (.inl trivial)).strong
theorem strong_ed {W H : Nat} {r : RT} {L : List CV} (h : Strong W H L) : ∀ k, k ≤ W * H → Strong W H (edT W r L k)
  | 0, _ => h
  | k + 1, hk => by
    have h1 := strong_ed (r := r) h k (by omega)
    unfold edT
    split
    · rename_i h2
      exact strong_broken h1 (by omega) h2.2.1
    · exact h1
theorem ed_at {W : Nat} {r : RT} {L : List CV} {y x : Nat} (hx : x + 1 < W) : edT W r L (y * W + x + 1) = if wd (edT W r L (y * W + x)) (y * W + x) = 2 ∧ hasT r ((x : Nat) : Int) ((y : Nat) : Int) ≠ hasT r ((x : Nat) + 1 : Int) ((y : Nat) : Int) then brokenT (edT W r L (y * W + x)) (y * W + x) else edT W r L (y * W + x) := by
  have h1 : (y * W + x) % W = x := mod_at (by omega)
  have h2 : (y * W + x) / W = y := div_at (by omega)
  show (if _ then _ else _) = _
  rw [h1, h2]
  by_cases h : wd (edT W r L (y * W + x)) (y * W + x) = 2 ∧ hasT r ((x : Nat) : Int) ((y : Nat) : Int) ≠ hasT r ((x : Nat) + 1 : Int) ((y : Nat) : Int)
  · rw [if_pos h, if_pos ⟨hx, h⟩]
  · rw [if_neg h, if_neg (fun h3 => h h3.2)]
theorem ed_row {W : Nat} {r : RT} {L : List CV} {y x : Nat} (hx : ¬ x + 1 < W) (hx2 : x ≤ W) (hx3 : x + 1 ≤ W ∨ W = 0) : edT W r L (y * W + x) = edT W r L ((y + 1) * W) := by
  rcases hx3 with h | h
  · obtain rfl : W = x + 1 := by omega
    have e : (y + 1) * (x + 1) = y * (x + 1) + x + 1 := by rw [Nat.add_mul, Nat.one_mul]; omega
    rw [e]
    have h1 : (y * (x + 1) + x) % (x + 1) = x := mod_at (by omega)
    show _ = (if _ then _ else _)
    rw [if_neg (by rw [h1]; omega)]
  · subst h
    rw [show x = 0 by omega]
    rfl
set_option maxRecDepth 100000 in
set_option maxHeartbeats 8000000 in
theorem redges_any (B r W H : Nat) (v : Value) (L : List CV) (clip : RT) (w : World) (h : RB w B r v W H L) (hS : Strong W H L) (hclip : clip.wf) :
    Calls Tryz.prog 44 #[.pointer (some ⟨r, 0, none⟩), clip.val] w fun e w' => e = .returned (.tuple #[]) ∧ RB w' B r v W H (edT W clip L (W * H)) ∧ w.grownBy w' v.ownBlock := by
  obtain ⟨it, hinf, -, hsz, -⟩ := info_parts info_cell
  have hWb := h.wide
  have hHb := h.high
  have HHAS := run.hid (fun (x y : Int) (w : World) => refhas_any clip x y w hclip)
  have HST := run.hid (fun k hk => strong_ed (r := clip) hS k hk)
  have HAT := run.hid (fun y x hx => @ed_at W clip L y x hx)
  have HROW := run.hid (fun y x h1 h2 h3 => @ed_row W clip L y x h1 h2 h3)
  have HBR := run.hid (fun (w : World) (g cap : Nat) (L : List CV) (i : Nat) (h : RB w B r (.slice (some ⟨g, 0, none⟩) (W * H : Nat) cap) W H L) (hS : Strong W H L) hi => rbreak_any B r g cap W H (W * H) L i w h rfl (hS.nice (fun _ => False)).good (strong_wf hS) hi)
  have HED0 : Hid (edT W clip L 0 = L) := rfl
  generalize hasT clip = has at *
  generalize edT W clip L = ED at *
  obtain ⟨r1, r2, r3, r4⟩ := clip
  change Hid (∀ x y w, Calls _ _ #[.agg #[.int .i64 r1, .int .i64 r2, .int .i64 r3, .int .i64 r4], .int .i64 x, .int .i64 y] _ _) at HHAS
  show Calls _ _ #[_, .agg #[.int .i64 r1, .int .i64 r2, .int .i64 r3, .int .i64 r4]] _ _
  have hR1 := (RV.start h).box #[.int .i64 r1, .int .i64 r2, .int .i64 r3, .int .i64 r4] 34
  clear h hclip hS
  go_enter Tryz.func44, Tryz.ntmps44
  go_upto_region 1 with fail
  generalize w.alloc (.cells #[.int .i64 r1, .int .i64 r2, .int .i64 r3, .int .i64 r4] 34) = w1 at *
  generalize w.heap.size = m at *
  have HV1 := run.hid hR1
  clear hR1
  go_wp2
  go_loopw [4, 5] (fun vy vx0 wr => ∃ y : Nat, y ≤ H ∧ vy = .int .i64 y ∧ Hid (RV w B r v W H [(m, #[.int .i64 r1, .int .i64 r2, .int .i64 r3, .int .i64 r4], 34)] (ED (y * W)) wr)) (fun vy _ _ => ((H : Int) - intOf vy).toNat)
  case atStart => exact ⟨0, Nat.zero_le _, rfl, by show RV _ _ _ _ _ _ _ _ _; rw [Nat.zero_mul, HED0.out]; exact HV1.out⟩
  case round =>
    clear HV1
    obtain ⟨y, hy, rfl, HV⟩ := hrel
    have c0 := HV.out.c0
    have c1 := HV.out.c1
    by_cases hyl : y < H
    · have hqc := Int.natCast_mul y W
      have hq0 : y * W ≤ 4096 * 4096 := Nat.mul_le_mul (by omega) hWb
      have hrow := Nat.mul_le_mul_right W (show y + 1 ≤ H from hyl)
      rw [Nat.add_mul, Nat.one_mul, Nat.mul_comm H W] at hrow
      have HAT2 := run.hid (fun x hx => HAT.out y x hx)
      have HROW2 := run.hid (fun x h1 h2 h3 => HROW.out y x h1 h2 h3)
      obtain ⟨q, hqq⟩ : ∃ q, y * W = q := ⟨_, rfl⟩
      rw [hqq] at HV hq0 hrow HAT2 HROW2
      have HQ := run.hid (show ((y : Nat) : Int) * ((W : Nat) : Int) = ((q : Nat) : Int) from by rw [← hqq]; exact hqc.symm)
      clear hqq hqc
      go_wp2
      generalize wr = wz at *
      go_loopw [5] (fun vx wr => ∃ x : Nat, x ≤ W ∧ (x + 1 ≤ W ∨ (W = 0 ∧ x = 0)) ∧ vx = .int .i64 x ∧ Hid (RV w B r v W H [(m, #[.int .i64 r1, .int .i64 r2, .int .i64 r3, .int .i64 r4], 34)] (ED (q + x)) wr)) (fun vx _ => ((W : Int) - intOf vx).toNat)
      case atStart => exact ⟨0, Nat.zero_le _, by omega, rfl, HV⟩
      case round =>
        clear HV c0 c1
        obtain ⟨x, hx, hx2, rfl, HV⟩ := hrel
        have c0 := HV.out.c0
        have c1 := HV.out.c1
        by_cases hxl : x + 1 < W
        · have HI := run.hid (show q + x < W * H by omega)
          have HSX := run.hid (HST.out (q + x) (by omega))
          have HNX := run.hid (HAT2.out x hxl)
          obtain ⟨g, cap, rfl, -⟩ := HV.out.rb.slice HI.out
          generalize hL1 : ED (q + x + 1) = L1 at *
          have HL1 := run.hid hL1
          clear hL1
          generalize ED (q + x) = L0 at *
          have hxb : x ≤ 4096 := by omega
          have hxI : (x : Int) + 1 < (W : Int) := by omega
          clear hrow
          go_upto_region 7 with fail
          clear c0 c1
          by_cases hw2 : wd L0 (q + x) = 2
          · have HW2 : Hid ((L0.getD (q + x) z0).wide = 2) := hw2
            refine lx.region (fun D X => RV w B r (.slice (some ⟨g, 0, none⟩) (W * H : Nat) cap) W H [(m, #[.int .i64 r1, .int .i64 r2, .int .i64 r3, .int .i64 r4], 34)] L0 X) (by kernel_rfl) (by kernel_rfl) (by kernel_rfl) HV.out.drew ?_
            refine lx.begin 61 rfl ?_
            refine lx.o_pure (.pointer (some ⟨r, 0, none⟩)) (fun _ _ h => by first | rfl | kernel_rfl) ?_
            refine lx.o_pure (.pointer (some ⟨r, 0, none⟩)) (fun _ _ h => by first | rfl | kernel_rfl) ?_
            refine lx.o_pure (.pointer (some ⟨r, 2, none⟩)) (fun _ _ h => by first | rfl | kernel_rfl) ?_
            refine lx.o_pure (.slice (some ⟨g, 0, none⟩) (W * H : Nat) cap) (fun D X hC => lx.run_load rfl rfl Tryz.underlying35 rfl (blk3 hC.rb.box).1.2.2) ?_
            refine lx.o_pure (.int .i64 (y : Nat)) (fun _ _ h => by first | rfl | kernel_rfl) ?_
            refine lx.o_pure (.pointer (some ⟨r, 0, none⟩)) (fun _ _ h => by first | rfl | kernel_rfl) ?_
            refine lx.o_pure (.pointer (some ⟨r, 0, none⟩)) (fun _ _ h => by first | rfl | kernel_rfl) ?_
            refine lx.o_pure (.pointer (some ⟨r, 0, none⟩)) (fun _ _ h => by first | rfl | kernel_rfl) ?_
            refine lx.o_pure (.int .i64 (W : Nat)) (fun D X hC => lx.run_load rfl rfl Tryz.underlying3 rfl hC.c0) ?_
            refine lx.o_pure (.int .i64 (q : Nat)) (fun _ _ _ => lx.run_mul rfl rfl rfl HQ.out (by omega)) ?_
            refine lx.o_pure (.int .i64 (x : Nat)) (fun _ _ h => by first | rfl | kernel_rfl) ?_
            refine lx.o_pure (.int .i64 ((q + x : Nat) : Int)) (fun _ _ _ => lx.run_add rfl rfl rfl (by omega) (by push_cast; rfl)) ?_
            refine lx.o_pure (.pointer (some ⟨g, (q + x) * 5, none⟩)) (fun D X hC => run_at5 rfl rfl rfl HI.out Tryz.underlying35 hinf hsz) ?_
            refine lx.o_pure (.pointer (some ⟨g, (q + x) * 5 + 1, none⟩)) (fun _ _ h => by first | rfl | kernel_rfl) ?_
            refine lx.o_pure (.int .i8 2) (fun D X hC => lx.run_load rfl rfl Tryz.underlying57 rfl (by have h := (hC.rb.cell HI.out).2.1; rw [HW2.out] at h; exact h)) ?_
            refine lx.o_pure (.bool true) (fun _ _ _ => run_eq8_t rfl rfl rfl rfl) ?_
            refine lx.o_pure (.bool true) (fun _ _ h => by first | rfl | kernel_rfl) ?_
            refine lx.o_pure (.agg #[.int .i64 r1, .int .i64 r2, .int .i64 r3, .int .i64 r4]) (fun D X hC => run_loadrow rfl rfl (hC.bx _ (.head _)).1 Tryz.underlying34 rfl (by kernel_rfl)) ?_
            refine lx.o_pure (.int .i64 (x : Nat)) (fun _ _ h => by first | rfl | kernel_rfl) ?_
            refine lx.o_pure (.int .i64 (y : Nat)) (fun _ _ h => by first | rfl | kernel_rfl) ?_
            refine lx.o_call (.bool (has ((x : Nat)) (y : Nat))) 45 #[.agg #[.int .i64 r1, .int .i64 r2, .int .i64 r3, .int .i64 r4], .int .i64 ((x : Nat)), .int .i64 (y : Nat)] (fun _ _ _ => lx.run_fn rfl rfl rfl (enters_of Tryz.func45 (by kernel_rfl) rfl)) (fun D X hC => (HHAS.out ((x : Nat)) (y : Nat) X).mono fun e w2 ⟨he, hw⟩ => ⟨he, hC.below hw⟩) ?_
            refine lx.o_pure (.agg #[.int .i64 r1, .int .i64 r2, .int .i64 r3, .int .i64 r4]) (fun D X hC => run_loadrow rfl rfl (hC.bx _ (.head _)).1 Tryz.underlying34 rfl (by kernel_rfl)) ?_
            refine lx.o_pure (.int .i64 (x : Nat)) (fun _ _ h => by first | rfl | kernel_rfl) ?_
            refine lx.o_pure (.int .i64 ((x : Nat) + 1)) (fun _ _ _ => lx.run_add rfl rfl rfl (by omega) rfl) ?_
            refine lx.o_pure (.int .i64 (y : Nat)) (fun _ _ h => by first | rfl | kernel_rfl) ?_
            refine lx.o_call (.bool (has ((x : Nat) + 1) (y : Nat))) 45 #[.agg #[.int .i64 r1, .int .i64 r2, .int .i64 r3, .int .i64 r4], .int .i64 ((x : Nat) + 1), .int .i64 (y : Nat)] (fun _ _ _ => lx.run_fn rfl rfl rfl (enters_of Tryz.func45 (by kernel_rfl) rfl)) (fun D X hC => (HHAS.out ((x : Nat) + 1) (y : Nat) X).mono fun e w2 ⟨he, hw⟩ => ⟨he, hC.below hw⟩) ?_
            refine lx.o_pure (.bool (has (x : Nat) (y : Nat) != has ((x : Nat) + 1) (y : Nat))) (fun _ _ h => by first | rfl | kernel_rfl) ?_
            refine lx.o_pure (.bool (has (x : Nat) (y : Nat) != has ((x : Nat) + 1) (y : Nat))) (fun _ _ h => by first | rfl | kernel_rfl) ?_
            refine lx.o_end ?_
            simp only [lx.ov]
            rintro X d hd hC
            have HV9 := run.hid hC
            clear hC hd HV
            go_simp
            have c0 := HV9.out.c0
            by_cases hne : has (x : Nat) (y : Nat) = has ((x : Nat) + 1) (y : Nat)
            · have e : L1 = L0 := by rw [HNX.out, if_neg (fun h => h.2 hne)]
              have hne2 : (has (x : Nat) (y : Nat) != has ((x : Nat) + 1) (y : Nat)) = false := by rw [hne]; simp
              rw [hne2]
              clear HNX
              go_wp2
              go_roundw
              case rel => exact ⟨x + 1, by omega, by omega, by go_num, by show RV _ _ _ _ _ _ _ _ _; rw [← Nat.add_assoc, HL1.out, e]; exact HV9.out⟩
              case measure => simp [intOf]; omega
            · have e : L1 = brokenT L0 (q + x) := by rw [HNX.out, if_pos ⟨hw2, hne⟩]
              have hne2 : (has (x : Nat) (y : Nat) != has ((x : Nat) + 1) (y : Nat)) = true := by simp [hne]
              rw [hne2]
              have HE := run.hid e
              obtain ⟨kk, hkk⟩ : ∃ kk, q + x = kk := ⟨_, rfl⟩
              have hix : ((q : Nat) : Int) + (x : Nat) = (kk : Nat) := by rw [← hkk]; push_cast; rfl
              have hkb : (kk : Int) ≤ 16781312 := by omega
              have HBK := run.hid (HBR.out X g cap L0 kk HV9.out.rb HSX.out (by rw [← hkk]; exact HI.out))
              rw [hkk] at HE
              have hqI := HQ.out
              clear HNX e
              go_wp2_with fail
              refine HBK.out.mono ?_
              rintro e w7 ⟨rfl, hb7, hg7⟩
              have HV10 := run.hid (HV9.out.step hb7 hg7)
              clear hb7 hg7 HV9 c0
              go_wp2
              go_roundw
              case rel => exact ⟨x + 1, by omega, by omega, by go_num, by show RV _ _ _ _ _ _ _ _ _; rw [← Nat.add_assoc, HL1.out, HE.out]; exact HV10.out⟩
              case measure => simp [intOf]; omega
          · have HW2 : Hid (¬ (L0.getD (q + x) z0).wide = 2) := hw2
            refine lx.region (fun D X => RV w B r (.slice (some ⟨g, 0, none⟩) (W * H : Nat) cap) W H [(m, #[.int .i64 r1, .int .i64 r2, .int .i64 r3, .int .i64 r4], 34)] L0 X) (by kernel_rfl) (by kernel_rfl) (by kernel_rfl) HV.out.drew ?_
            refine lx.begin 61 rfl ?_
            refine lx.o_pure (.pointer (some ⟨r, 0, none⟩)) (fun _ _ h => by first | rfl | kernel_rfl) ?_
            refine lx.o_pure (.pointer (some ⟨r, 0, none⟩)) (fun _ _ h => by first | rfl | kernel_rfl) ?_
            refine lx.o_pure (.pointer (some ⟨r, 2, none⟩)) (fun _ _ h => by first | rfl | kernel_rfl) ?_
            refine lx.o_pure (.slice (some ⟨g, 0, none⟩) (W * H : Nat) cap) (fun D X hC => lx.run_load rfl rfl Tryz.underlying35 rfl (blk3 hC.rb.box).1.2.2) ?_
            refine lx.o_pure (.int .i64 (y : Nat)) (fun _ _ h => by first | rfl | kernel_rfl) ?_
            refine lx.o_pure (.pointer (some ⟨r, 0, none⟩)) (fun _ _ h => by first | rfl | kernel_rfl) ?_
            refine lx.o_pure (.pointer (some ⟨r, 0, none⟩)) (fun _ _ h => by first | rfl | kernel_rfl) ?_
            refine lx.o_pure (.pointer (some ⟨r, 0, none⟩)) (fun _ _ h => by first | rfl | kernel_rfl) ?_
            refine lx.o_pure (.int .i64 (W : Nat)) (fun D X hC => lx.run_load rfl rfl Tryz.underlying3 rfl hC.c0) ?_
            refine lx.o_pure (.int .i64 (q : Nat)) (fun _ _ _ => lx.run_mul rfl rfl rfl HQ.out (by omega)) ?_
            refine lx.o_pure (.int .i64 (x : Nat)) (fun _ _ h => by first | rfl | kernel_rfl) ?_
            refine lx.o_pure (.int .i64 ((q + x : Nat) : Int)) (fun _ _ _ => lx.run_add rfl rfl rfl (by omega) (by push_cast; rfl)) ?_
            refine lx.o_pure (.pointer (some ⟨g, (q + x) * 5, none⟩)) (fun D X hC => run_at5 rfl rfl rfl HI.out Tryz.underlying35 hinf hsz) ?_
            refine lx.o_pure (.pointer (some ⟨g, (q + x) * 5 + 1, none⟩)) (fun _ _ h => by first | rfl | kernel_rfl) ?_
            refine lx.o_pure (.int .i8 (L0.getD (q + x) z0).wide) (fun D X hC => lx.run_load rfl rfl Tryz.underlying57 rfl (by have h := (hC.rb.cell HI.out).2.1; exact h)) ?_
            refine lx.o_pure (.bool false) (fun _ _ _ => run_eq8_f rfl rfl rfl HW2.out) ?_
            refine lx.o_pure (.bool false) (fun _ _ h => by first | rfl | kernel_rfl) ?_
            refine lx.o_skip ?_
            refine lx.o_skip ?_
            refine lx.o_skip ?_
            refine lx.o_skip ?_
            refine lx.o_skip ?_
            refine lx.o_skip ?_
            refine lx.o_skip ?_
            refine lx.o_skip ?_
            refine lx.o_skip ?_
            refine lx.o_skip ?_
            refine lx.o_pure (.bool false) (fun _ _ h => by first | rfl | kernel_rfl) ?_
            refine lx.o_end ?_
            simp only [lx.ov]
            rintro X d hd hC
            have HV9 := run.hid hC
            clear hC hd HV
            go_simp
            have e : L1 = L0 := by rw [HNX.out, if_neg (fun h => hw2 h.1)]
            clear HNX
            go_wp2
            go_roundw
            case rel => exact ⟨x + 1, by omega, by omega, by go_num, by show RV _ _ _ _ _ _ _ _ _; rw [← Nat.add_assoc, HL1.out, e]; exact HV9.out⟩
            case measure => simp [intOf]; omega
        · have HE := run.hid (HROW2.out x hxl hx (by omega))
          go_wp2
          go_roundw
          case rel => exact ⟨y + 1, by omega, by go_num, by show RV _ _ _ _ _ _ _ _ _; rw [← HE.out]; exact HV.out⟩
          case measure => simp [intOf]; omega
    · obtain rfl : y = H := by omega
      have HE := run.hid (And.intro HV.out.rb HV.out.grown)
      clear HV
      go_wp2
      first | go_end0 | (refine bodyPost_ret (results_none rfl _ _ _) rfl ?_)
      exact ⟨rfl, by rw [Nat.mul_comm W y]; exact HE.out.1, HE.out.2⟩
end Go.Proofs.YtdgcfmfjgidbjaaGreat.cel
