/-
  The walk of the helper of the laws of layer cells: is a row of cells singles and pairs alone?
-/
import Derived.Test.YtinnggiohalifaaCelF
import Derived.Test.YtinnggiohalifaaCelRefR
namespace Go.Proofs.Ytinnggiohalifaa.cel
open Go Go.RowKit Go.Proofs
open Go.Proofs.Ytinnggiohalifaa.clu (oneOk OneIs one_any)
set_option linter.unusedVariables false

set_option maxRecDepth 100000 in
set_option maxHeartbeats 8000000 in
theorem lawr_any (a : Option Addr) (cap : Nat) (L : List CV) (w : World) (hR : Reads5 w (.slice a L.length cap) L) (hN : L.length ≤ 140737488355328) (hL : ∀ c ∈ L, Fit c) :
    Calls Try.prog 26 #[.slice a L.length cap] w fun e w' => e = .returned (.bool (wholeT L)) ∧ Below w.heap.size w w' := by
  obtain ⟨it, hinf, -, hsz, -⟩ := info_parts info_cell
  have HA := run.hid (fun i (hi : i < L.length) => reads_cell hR hi)
  have HFT := run.hid (fun i (hi : i < L.length) => hL (L.getD i z0) (by rw [List.getD_eq_getElem?_getD, List.getElem?_eq_getElem hi]; exact List.getElem_mem _))
  have HU := run.hid (fun i (hi : i < L.length) => And.intro (@unitT_at L i hi) (@wholeT_step L i hi))
  have HE := run.hid (wholeT_end L)
  have H0 := run.hid (show wholeT L = wholeT (L.drop 0) from rfl)
  clear hR hL
  generalize L.length = N at *
  obtain ⟨r, hr⟩ : ∃ r, r = wholeT L := ⟨_, rfl⟩
  rw [← hr] at H0 ⊢
  clear hr
  go_enter Try.func26, Try.ntmps26
  go_wp2
  go_loopw [3] (fun vi wr => ∃ i : Nat, i ≤ N ∧ vi = .int .i64 i ∧ Hid (r = wholeT (L.drop i)) ∧ Below w.heap.size w wr) (fun vi _ => ((N : Int) - intOf vi).toNat)
  case atStart => exact ⟨0, Nat.zero_le _, rfl, H0, Below.refl _ _⟩
  case round =>
    obtain ⟨i, hi, rfl, HI, hbel⟩ := hrel
    by_cases hlt : i < N
    · obtain ⟨b, off, rfl, hb, hc⟩ := HA.out i hlt
      obtain ⟨hfs, hcw⟩ := HFT.out i hlt
      obtain ⟨hu, hst⟩ := HU.out i hlt
      have HUi := run.hid hu
      have HSTP := run.hid (HI.out.trans hst)
      have HD0 := run.hid (fun (h : i + 1 < N) => show ∀ X, Below w.heap.size w X → Cell5 X b (off + (i + 1) * 5) (L.getD (i + 1) z0) from fun X hX => by
        obtain ⟨b2, o2, e2, hb2, hc2⟩ := HA.out (i + 1) h
        simp only [Option.some.injEq, Addr.mk.injEq, and_true] at e2
        obtain ⟨rfl, rfl⟩ := e2
        exact hc2.below hX hb2)
      have HONE := run.hid (fun w => one_any (L.getD i z0).text w hfs)
      have HOV := run.hid (fun w => over_any (L.getD i z0).sty w)
      have HU1 := run.hid (show unit1 (L.getD i z0) = if oneOk (L.getD i z0).text ∧ 1 ≤ wdT (L.getD i z0).text ∧ ((wdT (L.getD i z0).text : Nat) : Int) = (L.getD i z0).wide ∧ overS (L.getD i z0).sty = (L.getD i z0).sty then wdT (L.getD i z0).text else 0 from rfl)
      have hwl := wdT_le (L.getD i z0).text
      change Hid (∀ w, Calls _ _ _ w (fun e w' => Below w.heap.size w w' ∧ ((oneOk (L.getD i z0).text ∧ e = .returned (.tuple #[.agg #[.string (L.getD i z0).text, .int .i64 (wdT (L.getD i z0).text : Nat)], .bool true])) ∨ (¬ oneOk (L.getD i z0).text ∧ e = .returned (.tuple #[.agg #[.string ⟨#[]⟩, .int .i64 0], .bool false]))))) at HONE
      have HC0 := run.hid (fun X (hX : Below w.heap.size w X) => hc.below hX hb)
      obtain ⟨g0, -⟩ := hc.below hbel hb
      have HBL := run.hid hbel
      clear hc hu hst hfs HU HFT HI H0 hbel
      unfold restT at HUi
      generalize unit1 (L.getD i z0) = u1 at *
      obtain ⟨y, hy⟩ : ∃ y, y = L.getD (i + 1) z0 := ⟨_, rfl⟩
      rw [← hy] at HUi HD0
      clear hy
      obtain ⟨c, hcc⟩ : ∃ c, c = L.getD i z0 := ⟨_, rfl⟩
      rw [← hcc] at HUi HONE HOV HU1 hwl HC0 g0 hcw
      clear hcc
      obtain ⟨ct, cw, ⟨cf, cb, ca⟩⟩ := c
      obtain ⟨dt, dw, ⟨df, db, da⟩⟩ := y
      dsimp only at *
      obtain ⟨wn, hwn⟩ : ∃ n, n = wdT ct := ⟨_, rfl⟩
      rw [← hwn] at HONE HU1 hwl
      clear hwn
      obtain ⟨⟨of, ob, oa⟩, hos⟩ : ∃ q, q = overS ⟨cf, cb, ca⟩ := ⟨_, rfl⟩
      rw [← hos] at HOV HU1
      clear hos
      change Hid (∀ w, Calls _ _ #[.agg #[.int .i32 cf, .int .i32 cb, .int .u8 ca], _] _ fun e w' => e = .returned (.agg #[.int .i32 of, .int .i32 ob, .int .u8 oa]) ∧ _) at HOV
      go_wp2_with fail
      refine (HONE.out _).mono ?_
      rintro e w2 ⟨hb2, hcase⟩
      have hs2 := hb2.size
      have hsr := HBL.out.size
      have HB2 := run.hid (HBL.out.trans (hb2.mono HBL.out.size))
      obtain ⟨okb, st2, wd, rfl, hok⟩ : ∃ (okb : Bool) (st2 : ByteArray) (wd : Int), e = .returned (.tuple #[.agg #[.string st2, .int .i64 wd], .bool okb]) ∧ ((okb = true ∧ oneOk ct ∧ st2 = ct ∧ wd = (wn : Nat)) ∨ (okb = false ∧ ¬ oneOk ct)) := by
        rcases hcase with ⟨h1, rfl⟩ | ⟨h1, rfl⟩
        · exact ⟨true, _, _, rfl, .inl ⟨rfl, h1, rfl, rfl⟩⟩
        · exact ⟨false, ⟨#[]⟩, 0, rfl, .inr ⟨rfl, h1⟩⟩
      clear hcase hb2 HONE g0
      have HB3 := run.hid (HB2.out.alloc HB2.out.size (.cells #[.string st2, .int .i64 wd] 55))
      have K4 := run.hid (And.intro (heap_alloc_new w2 (.cells #[.string st2, .int .i64 wd] 55)) (show w2.heap.size < w2.heap.size + 1 by omega))
      have hszA : (w2.alloc (.cells #[.string st2, .int .i64 wd] 55)).heap.size = w2.heap.size + 1 := by simp
      have hle : w.heap.size ≤ w2.heap.size + 1 := by omega
      have HC5 := run.hid (fun X (hX : Below (w2.heap.size + 1) (w2.alloc (.cells #[.string st2, .int .i64 wd] 55)) X) => HC0.out X (HB3.out.trans (hX.mono hle)))
      have HD5 := run.hid (fun X (hX : Below (w2.heap.size + 1) (w2.alloc (.cells #[.string st2, .int .i64 wd] 55)) X) (h : i + 1 < N) => HD0.out h X (HB3.out.trans (hX.mono hle)))
      clear HB2 HC0 HD0 HBL
      rcases hok with ⟨rfl, hone, rfl, hwd⟩ | ⟨rfl, hone⟩
      · have HONEOK := run.hid hone
        have HWD := run.hid hwd
        have hwb : wd ≤ 2 := by omega
        clear hone hwd hwl
        by_cases hst : SV.mk of ob oa = ⟨cf, cb, ca⟩
        rotate_left
        · have HST := run.hid hst
          have HR0 : Hid (r = false) := by
            have h1 : u1 = 0 := by rw [HU1.out]; exact if_neg fun h => HST.out h.2.2.2
            show r = _
            rw [HSTP.out, HUi.out, h1, if_neg (by omega)]; rfl
          clear hst HUi HSTP HU1 HWD HONEOK
          go_upto_region 5 with fail
          generalize w2.alloc (.cells #[.string st2, .int .i64 wd] 55) = w3 at *
          generalize hn4 : w2.heap.size = n4 at *
          refine lx.region (fun D X => Below (n4 + 1) w3 X) (by kernel_rfl) (by kernel_rfl) (by kernel_rfl) (drewB (Below.refl _ _)) ?_
          refine lx.begin 76 rfl ?_
          refine lx.o_pure (.bool true) (fun _ _ h => by first | rfl | kernel_rfl) ?_
          refine lx.o_pure (.bool false) (fun _ _ h => by first | rfl | kernel_rfl) ?_
          refine lx.o_pure (.bool false) (fun _ _ h => by first | rfl | kernel_rfl) ?_
          refine lx.o_pure (.slice (some ⟨b, off, none⟩) N cap) (fun _ _ h => by first | rfl | kernel_rfl) ?_
          refine lx.o_pure (.int .i64 (i : Nat)) (fun _ _ h => by first | rfl | kernel_rfl) ?_
          refine lx.o_pure (.pointer (some ⟨b, off + i * 5, none⟩)) (fun D X hC => lx.run_at rfl rfl rfl hlt Try.underlying35 hinf hsz) ?_
          refine lx.o_pure (.pointer (some ⟨b, off + i * 5 + 2, none⟩)) (fun D X hC => by first | rfl | kernel_rfl) ?_
          refine lx.o_pure (.agg #[.int .i32 cf, .int .i32 cb, .int .u8 ca]) (fun D X hC => run_sty3 rfl rfl (HC5.out _ hC)) ?_
          refine lx.o_call (.agg #[.int .i32 of, .int .i32 ob, .int .u8 oa]) 30 #[.agg #[.int .i32 cf, .int .i32 cb, .int .u8 ca], .slice none 0 0] (fun _ _ _ => lx.run_fn rfl rfl rfl (enters_of Try.func30 (by kernel_rfl) rfl)) (fun D X hC => (HOV.out X).mono fun e w2 ⟨he, hw⟩ => ⟨he, hC.trans (hw.mono (by have := hC.size; omega))⟩) ?_
          refine lx.o_pure (.slice (some ⟨b, off, none⟩) N cap) (fun _ _ h => by first | rfl | kernel_rfl) ?_
          refine lx.o_pure (.int .i64 (i : Nat)) (fun _ _ h => by first | rfl | kernel_rfl) ?_
          refine lx.o_pure (.pointer (some ⟨b, off + i * 5, none⟩)) (fun D X hC => lx.run_at rfl rfl rfl hlt Try.underlying35 hinf hsz) ?_
          refine lx.o_pure (.pointer (some ⟨b, off + i * 5 + 2, none⟩)) (fun D X hC => by first | rfl | kernel_rfl) ?_
          refine lx.o_pure (.agg #[.int .i32 cf, .int .i32 cb, .int .u8 ca]) (fun D X hC => run_sty3 rfl rfl (HC5.out _ hC)) ?_
          refine lx.o_pure (.bool true) (fun _ _ _ => run_nesty_t (s := ⟨of, ob, oa⟩) (s' := ⟨cf, cb, ca⟩) rfl rfl rfl HST.out) ?_
          refine lx.o_pure (.bool true) (fun _ _ h => by first | rfl | kernel_rfl) ?_
          refine lx.o_pure (.bool true) (fun _ _ h => by first | rfl | kernel_rfl) ?_
          refine lx.o_skip ?_
          refine lx.o_skip ?_
          refine lx.o_skip ?_
          refine lx.o_pure (.bool true) (fun _ _ h => by first | rfl | kernel_rfl) ?_
          refine lx.o_pure (.bool true) (fun _ _ h => by first | rfl | kernel_rfl) ?_
          refine lx.o_skip ?_
          refine lx.o_skip ?_
          refine lx.o_skip ?_
          refine lx.o_skip ?_
          refine lx.o_skip ?_
          refine lx.o_skip ?_
          refine lx.o_skip ?_
          refine lx.o_skip ?_
          refine lx.o_skip ?_
          refine lx.o_pure (.bool true) (fun _ _ h => by first | rfl | kernel_rfl) ?_
          refine lx.o_end ?_
          simp only [lx.ov]
          rintro X d hd hC
          have HF := run.hid (HB3.out.trans (hC.mono hle))
          clear hC hd K4 HB3 HOV HC5 HD5 HA
          go_simp
          go_wp2
          go_ret
          exact ⟨by rw [HR0.out]; try rfl, HF.out⟩

        have HST := run.hid hst
        clear hst
        by_cases hB : wd < 1
        · have HR0 : Hid (r = false) := by
            have h1 : u1 = 0 := by rw [HU1.out]; exact if_neg fun h => by have := HWD.out; omega
            show r = _
            rw [HSTP.out, HUi.out, h1, if_neg (by omega)]; rfl
          clear HUi HSTP HU1 HWD HONEOK
          go_upto_region 5 with fail
          generalize w2.alloc (.cells #[.string st2, .int .i64 wd] 55) = w3 at *
          generalize hn4 : w2.heap.size = n4 at *
          refine lx.region (fun D X => Below (n4 + 1) w3 X) (by kernel_rfl) (by kernel_rfl) (by kernel_rfl) (drewB (Below.refl _ _)) ?_
          refine lx.begin 76 rfl ?_
          refine lx.o_pure (.bool true) (fun _ _ h => by first | rfl | kernel_rfl) ?_
          refine lx.o_pure (.bool false) (fun _ _ h => by first | rfl | kernel_rfl) ?_
          refine lx.o_pure (.bool false) (fun _ _ h => by first | rfl | kernel_rfl) ?_
          refine lx.o_pure (.slice (some ⟨b, off, none⟩) N cap) (fun _ _ h => by first | rfl | kernel_rfl) ?_
          refine lx.o_pure (.int .i64 (i : Nat)) (fun _ _ h => by first | rfl | kernel_rfl) ?_
          refine lx.o_pure (.pointer (some ⟨b, off + i * 5, none⟩)) (fun D X hC => lx.run_at rfl rfl rfl hlt Try.underlying35 hinf hsz) ?_
          refine lx.o_pure (.pointer (some ⟨b, off + i * 5 + 2, none⟩)) (fun D X hC => by first | rfl | kernel_rfl) ?_
          refine lx.o_pure (.agg #[.int .i32 cf, .int .i32 cb, .int .u8 ca]) (fun D X hC => run_sty3 rfl rfl (HC5.out _ hC)) ?_
          refine lx.o_call (.agg #[.int .i32 of, .int .i32 ob, .int .u8 oa]) 30 #[.agg #[.int .i32 cf, .int .i32 cb, .int .u8 ca], .slice none 0 0] (fun _ _ _ => lx.run_fn rfl rfl rfl (enters_of Try.func30 (by kernel_rfl) rfl)) (fun D X hC => (HOV.out X).mono fun e w2 ⟨he, hw⟩ => ⟨he, hC.trans (hw.mono (by have := hC.size; omega))⟩) ?_
          refine lx.o_pure (.slice (some ⟨b, off, none⟩) N cap) (fun _ _ h => by first | rfl | kernel_rfl) ?_
          refine lx.o_pure (.int .i64 (i : Nat)) (fun _ _ h => by first | rfl | kernel_rfl) ?_
          refine lx.o_pure (.pointer (some ⟨b, off + i * 5, none⟩)) (fun D X hC => lx.run_at rfl rfl rfl hlt Try.underlying35 hinf hsz) ?_
          refine lx.o_pure (.pointer (some ⟨b, off + i * 5 + 2, none⟩)) (fun D X hC => by first | rfl | kernel_rfl) ?_
          refine lx.o_pure (.agg #[.int .i32 cf, .int .i32 cb, .int .u8 ca]) (fun D X hC => run_sty3 rfl rfl (HC5.out _ hC)) ?_
          refine lx.o_pure (.bool false) (fun _ _ _ => run_nesty_f (s := ⟨of, ob, oa⟩) (s' := ⟨cf, cb, ca⟩) rfl rfl rfl HST.out) ?_
          refine lx.o_pure (.bool false) (fun _ _ h => by first | rfl | kernel_rfl) ?_
          refine lx.o_pure (.bool false) (fun _ _ h => by first | rfl | kernel_rfl) ?_
          refine lx.o_pure (.pointer (some ⟨n4, 1, none⟩)) (fun _ _ h => by first | rfl | kernel_rfl) ?_
          refine lx.o_pure (.int .i64 wd) (fun D X hC => lx.run_load rfl rfl Try.underlying3 rfl (blk_cell (hC.b4 K4.out) 1)) ?_
          refine lx.o_pure (.bool true) (fun _ _ _ => run_lss rfl rfl rfl (decide_eq_true (by omega))) ?_
          refine lx.o_pure (.bool true) (fun _ _ h => by first | rfl | kernel_rfl) ?_
          refine lx.o_pure (.bool true) (fun _ _ h => by first | rfl | kernel_rfl) ?_
          refine lx.o_skip ?_
          refine lx.o_skip ?_
          refine lx.o_skip ?_
          refine lx.o_skip ?_
          refine lx.o_skip ?_
          refine lx.o_skip ?_
          refine lx.o_skip ?_
          refine lx.o_skip ?_
          refine lx.o_skip ?_
          refine lx.o_pure (.bool true) (fun _ _ h => by first | rfl | kernel_rfl) ?_
          refine lx.o_end ?_
          simp only [lx.ov]
          rintro X d hd hC
          have HF := run.hid (HB3.out.trans (hC.mono hle))
          clear hC hd K4 HB3 HOV HC5 HD5 HA
          go_simp
          go_wp2
          go_ret
          exact ⟨by rw [HR0.out]; try rfl, HF.out⟩

        by_cases hwc : cw = wd
        rotate_left
        · have HWC := run.hid hwc
          have HR0 : Hid (r = false) := by
            have h1 : u1 = 0 := by rw [HU1.out]; exact if_neg fun h => HWC.out (by have := HWD.out; omega)
            show r = _
            rw [HSTP.out, HUi.out, h1, if_neg (by omega)]; rfl
          clear HUi HSTP HU1 HWD HONEOK hwc
          go_upto_region 5 with fail
          generalize w2.alloc (.cells #[.string st2, .int .i64 wd] 55) = w3 at *
          generalize hn4 : w2.heap.size = n4 at *
          refine lx.region (fun D X => Below (n4 + 1) w3 X) (by kernel_rfl) (by kernel_rfl) (by kernel_rfl) (drewB (Below.refl _ _)) ?_
          refine lx.begin 76 rfl ?_
          refine lx.o_pure (.bool true) (fun _ _ h => by first | rfl | kernel_rfl) ?_
          refine lx.o_pure (.bool false) (fun _ _ h => by first | rfl | kernel_rfl) ?_
          refine lx.o_pure (.bool false) (fun _ _ h => by first | rfl | kernel_rfl) ?_
          refine lx.o_pure (.slice (some ⟨b, off, none⟩) N cap) (fun _ _ h => by first | rfl | kernel_rfl) ?_
          refine lx.o_pure (.int .i64 (i : Nat)) (fun _ _ h => by first | rfl | kernel_rfl) ?_
          refine lx.o_pure (.pointer (some ⟨b, off + i * 5, none⟩)) (fun D X hC => lx.run_at rfl rfl rfl hlt Try.underlying35 hinf hsz) ?_
          refine lx.o_pure (.pointer (some ⟨b, off + i * 5 + 2, none⟩)) (fun D X hC => by first | rfl | kernel_rfl) ?_
          refine lx.o_pure (.agg #[.int .i32 cf, .int .i32 cb, .int .u8 ca]) (fun D X hC => run_sty3 rfl rfl (HC5.out _ hC)) ?_
          refine lx.o_call (.agg #[.int .i32 of, .int .i32 ob, .int .u8 oa]) 30 #[.agg #[.int .i32 cf, .int .i32 cb, .int .u8 ca], .slice none 0 0] (fun _ _ _ => lx.run_fn rfl rfl rfl (enters_of Try.func30 (by kernel_rfl) rfl)) (fun D X hC => (HOV.out X).mono fun e w2 ⟨he, hw⟩ => ⟨he, hC.trans (hw.mono (by have := hC.size; omega))⟩) ?_
          refine lx.o_pure (.slice (some ⟨b, off, none⟩) N cap) (fun _ _ h => by first | rfl | kernel_rfl) ?_
          refine lx.o_pure (.int .i64 (i : Nat)) (fun _ _ h => by first | rfl | kernel_rfl) ?_
          refine lx.o_pure (.pointer (some ⟨b, off + i * 5, none⟩)) (fun D X hC => lx.run_at rfl rfl rfl hlt Try.underlying35 hinf hsz) ?_
          refine lx.o_pure (.pointer (some ⟨b, off + i * 5 + 2, none⟩)) (fun D X hC => by first | rfl | kernel_rfl) ?_
          refine lx.o_pure (.agg #[.int .i32 cf, .int .i32 cb, .int .u8 ca]) (fun D X hC => run_sty3 rfl rfl (HC5.out _ hC)) ?_
          refine lx.o_pure (.bool false) (fun _ _ _ => run_nesty_f (s := ⟨of, ob, oa⟩) (s' := ⟨cf, cb, ca⟩) rfl rfl rfl HST.out) ?_
          refine lx.o_pure (.bool false) (fun _ _ h => by first | rfl | kernel_rfl) ?_
          refine lx.o_pure (.bool false) (fun _ _ h => by first | rfl | kernel_rfl) ?_
          refine lx.o_pure (.pointer (some ⟨n4, 1, none⟩)) (fun _ _ h => by first | rfl | kernel_rfl) ?_
          refine lx.o_pure (.int .i64 wd) (fun D X hC => lx.run_load rfl rfl Try.underlying3 rfl (blk_cell (hC.b4 K4.out) 1)) ?_
          refine lx.o_pure (.bool false) (fun _ _ _ => run_lss rfl rfl rfl (decide_eq_false (by omega))) ?_
          refine lx.o_pure (.bool false) (fun _ _ h => by first | rfl | kernel_rfl) ?_
          refine lx.o_pure (.bool false) (fun _ _ h => by first | rfl | kernel_rfl) ?_
          refine lx.o_pure (.slice (some ⟨b, off, none⟩) N cap) (fun _ _ h => by first | rfl | kernel_rfl) ?_
          refine lx.o_pure (.int .i64 (i : Nat)) (fun _ _ h => by first | rfl | kernel_rfl) ?_
          refine lx.o_pure (.pointer (some ⟨b, off + i * 5, none⟩)) (fun D X hC => lx.run_at rfl rfl rfl hlt Try.underlying35 hinf hsz) ?_
          refine lx.o_pure (.pointer (some ⟨b, off + i * 5 + 1, none⟩)) (fun D X hC => by first | rfl | kernel_rfl) ?_
          refine lx.o_pure (.int .i8 cw) (fun D X hC => lx.run_load rfl rfl Try.underlying42 rfl (HC5.out _ hC).2.1) ?_
          refine lx.o_pure (.int .i64 cw) (fun _ _ _ => run_wide8 rfl rfl Try.underlying42 Try.underlying3 hcw) ?_
          refine lx.o_pure (.pointer (some ⟨n4, 1, none⟩)) (fun _ _ h => by first | rfl | kernel_rfl) ?_
          refine lx.o_pure (.int .i64 wd) (fun D X hC => lx.run_load rfl rfl Try.underlying3 rfl (blk_cell (hC.b4 K4.out) 1)) ?_
          refine lx.o_pure (.bool true) (fun _ _ _ => run_neint_t rfl rfl rfl HWC.out) ?_
          refine lx.o_pure (.bool true) (fun _ _ h => by first | rfl | kernel_rfl) ?_
          refine lx.o_end ?_
          simp only [lx.ov]
          rintro X d hd hC
          have HF := run.hid (HB3.out.trans (hC.mono hle))
          clear hC hd K4 HB3 HOV HC5 HD5 HA
          go_simp
          go_wp2
          go_ret
          exact ⟨by rw [HR0.out]; try rfl, HF.out⟩

        have HU2 : Hid ((u1 : Int) = wd) := by
          have h1 : u1 = wn := by rw [HU1.out]; exact if_pos ⟨HONEOK.out, by have := HWD.out; omega, by have := HWD.out; omega, HST.out⟩
          show (u1 : Int) = wd
          have := HWD.out
          omega
        have HWC := run.hid hwc
        clear HU1 HWD HONEOK hwc
        by_cases h2 : wd = 2
        · have HK2 : Hid (unitT (L.drop i) = if i + 1 < N ∧ CV.mk dt dw ⟨df, db, da⟩ = ⟨⟨#[]⟩, 0, ⟨cf, cb, ca⟩⟩ then 2 else 0) := by
            show _ = _
            have h3 : u1 = 2 := by have := HU2.out; omega
            rw [HUi.out, h3]
            by_cases hq : i + 1 < N ∧ CV.mk dt dw ⟨df, db, da⟩ = ⟨⟨#[]⟩, 0, ⟨cf, cb, ca⟩⟩
            · rw [if_neg (fun k => k.2 hq), if_pos hq]
            · rw [if_pos ⟨rfl, hq⟩, if_neg hq]
          clear HUi HU2
          subst h2
          go_upto_region 5 with fail
          generalize w2.alloc (.cells #[.string st2, .int .i64 2] 55) = w3 at *
          generalize hn4 : w2.heap.size = n4 at *
          refine lx.region (fun D X => Below (n4 + 1) w3 X) (by kernel_rfl) (by kernel_rfl) (by kernel_rfl) (drewB (Below.refl _ _)) ?_
          refine lx.begin 76 rfl ?_
          refine lx.o_pure (.bool true) (fun _ _ h => by first | rfl | kernel_rfl) ?_
          refine lx.o_pure (.bool false) (fun _ _ h => by first | rfl | kernel_rfl) ?_
          refine lx.o_pure (.bool false) (fun _ _ h => by first | rfl | kernel_rfl) ?_
          refine lx.o_pure (.slice (some ⟨b, off, none⟩) N cap) (fun _ _ h => by first | rfl | kernel_rfl) ?_
          refine lx.o_pure (.int .i64 (i : Nat)) (fun _ _ h => by first | rfl | kernel_rfl) ?_
          refine lx.o_pure (.pointer (some ⟨b, off + i * 5, none⟩)) (fun D X hC => lx.run_at rfl rfl rfl hlt Try.underlying35 hinf hsz) ?_
          refine lx.o_pure (.pointer (some ⟨b, off + i * 5 + 2, none⟩)) (fun D X hC => by first | rfl | kernel_rfl) ?_
          refine lx.o_pure (.agg #[.int .i32 cf, .int .i32 cb, .int .u8 ca]) (fun D X hC => run_sty3 rfl rfl (HC5.out _ hC)) ?_
          refine lx.o_call (.agg #[.int .i32 of, .int .i32 ob, .int .u8 oa]) 30 #[.agg #[.int .i32 cf, .int .i32 cb, .int .u8 ca], .slice none 0 0] (fun _ _ _ => lx.run_fn rfl rfl rfl (enters_of Try.func30 (by kernel_rfl) rfl)) (fun D X hC => (HOV.out X).mono fun e w2 ⟨he, hw⟩ => ⟨he, hC.trans (hw.mono (by have := hC.size; omega))⟩) ?_
          refine lx.o_pure (.slice (some ⟨b, off, none⟩) N cap) (fun _ _ h => by first | rfl | kernel_rfl) ?_
          refine lx.o_pure (.int .i64 (i : Nat)) (fun _ _ h => by first | rfl | kernel_rfl) ?_
          refine lx.o_pure (.pointer (some ⟨b, off + i * 5, none⟩)) (fun D X hC => lx.run_at rfl rfl rfl hlt Try.underlying35 hinf hsz) ?_
          refine lx.o_pure (.pointer (some ⟨b, off + i * 5 + 2, none⟩)) (fun D X hC => by first | rfl | kernel_rfl) ?_
          refine lx.o_pure (.agg #[.int .i32 cf, .int .i32 cb, .int .u8 ca]) (fun D X hC => run_sty3 rfl rfl (HC5.out _ hC)) ?_
          refine lx.o_pure (.bool false) (fun _ _ _ => run_nesty_f (s := ⟨of, ob, oa⟩) (s' := ⟨cf, cb, ca⟩) rfl rfl rfl HST.out) ?_
          refine lx.o_pure (.bool false) (fun _ _ h => by first | rfl | kernel_rfl) ?_
          refine lx.o_pure (.bool false) (fun _ _ h => by first | rfl | kernel_rfl) ?_
          refine lx.o_pure (.pointer (some ⟨n4, 1, none⟩)) (fun _ _ h => by first | rfl | kernel_rfl) ?_
          refine lx.o_pure (.int .i64 2) (fun D X hC => lx.run_load rfl rfl Try.underlying3 rfl (blk_cell (hC.b4 K4.out) 1)) ?_
          refine lx.o_pure (.bool false) (fun _ _ _ => run_lss rfl rfl rfl (decide_eq_false (by omega))) ?_
          refine lx.o_pure (.bool false) (fun _ _ h => by first | rfl | kernel_rfl) ?_
          refine lx.o_pure (.bool false) (fun _ _ h => by first | rfl | kernel_rfl) ?_
          refine lx.o_pure (.slice (some ⟨b, off, none⟩) N cap) (fun _ _ h => by first | rfl | kernel_rfl) ?_
          refine lx.o_pure (.int .i64 (i : Nat)) (fun _ _ h => by first | rfl | kernel_rfl) ?_
          refine lx.o_pure (.pointer (some ⟨b, off + i * 5, none⟩)) (fun D X hC => lx.run_at rfl rfl rfl hlt Try.underlying35 hinf hsz) ?_
          refine lx.o_pure (.pointer (some ⟨b, off + i * 5 + 1, none⟩)) (fun D X hC => by first | rfl | kernel_rfl) ?_
          refine lx.o_pure (.int .i8 cw) (fun D X hC => lx.run_load rfl rfl Try.underlying42 rfl (HC5.out _ hC).2.1) ?_
          refine lx.o_pure (.int .i64 cw) (fun _ _ _ => run_wide8 rfl rfl Try.underlying42 Try.underlying3 hcw) ?_
          refine lx.o_pure (.pointer (some ⟨n4, 1, none⟩)) (fun _ _ h => by first | rfl | kernel_rfl) ?_
          refine lx.o_pure (.int .i64 2) (fun D X hC => lx.run_load rfl rfl Try.underlying3 rfl (blk_cell (hC.b4 K4.out) 1)) ?_
          refine lx.o_pure (.bool false) (fun _ _ _ => run_neint_f rfl rfl rfl HWC.out) ?_
          refine lx.o_pure (.bool false) (fun _ _ h => by first | rfl | kernel_rfl) ?_
          refine lx.o_end ?_
          simp only [lx.ov]
          rintro X d hd hC
          have HF := run.hid (HB3.out.trans (hC.mono hle))
          have e1 := blk_cell (hC.b4 K4.out) 1
          change X.cell? _ = some (.int .i64 2) at e1
          have hXs := hC.size
          have HCX := run.hid (fun Y (hY : Below X.heap.size X Y) => HC5.out Y (hC.trans (hY.mono (by omega))))
          have HDX := run.hid (fun Y (hY : Below X.heap.size X Y) => HD5.out Y (hC.trans (hY.mono (by omega))))
          clear hC hd K4 HB3 HOV HC5 HD5 HA
          go_simp
          by_cases hlt2 : i + 1 < N
          · replace HDX := run.hid (fun Y hY => HDX.out Y hY hlt2)
            by_cases hrest : CV.mk dt dw ⟨df, db, da⟩ = ⟨⟨#[]⟩, 0, ⟨cf, cb, ca⟩⟩
            · have HRE := run.hid hrest
              have HK : Hid (r = wholeT (L.drop (i + 2))) := by show r = _; rw [HSTP.out, HK2.out, if_pos ⟨hlt2, HRE.out⟩]; rfl
              clear hrest HK2 HSTP
              go_upto_region 9 with fail
              replace HC5 := run.hid HCX.out
              replace HD5 := run.hid HDX.out
              refine lx.region (fun D Y => Below X.heap.size X Y) (by kernel_rfl) (by kernel_rfl) (by kernel_rfl) (drewB (Below.refl _ _)) ?_
              refine lx.begin 76 rfl ?_
              refine lx.o_pure (.int .i64 ((i + 1 : Nat) : Int)) (fun _ _ h => by first | rfl | kernel_rfl) ?_
              refine lx.o_pure (.slice (some ⟨b, off, none⟩) N cap) (fun _ _ h => by first | rfl | kernel_rfl) ?_
              refine lx.o_pure (.int .i64 (N : Nat)) (fun D X hC => by first | rfl | kernel_rfl) ?_
              refine lx.o_pure (.bool false) (fun D X hC => run_eqint_f rfl rfl rfl (by omega)) ?_
              refine lx.o_pure (.bool false) (fun _ _ h => by first | rfl | kernel_rfl) ?_
              refine lx.o_pure (.slice (some ⟨b, off, none⟩) N cap) (fun _ _ h => by first | rfl | kernel_rfl) ?_
              refine lx.o_pure (.int .i64 ((i + 1 : Nat) : Int)) (fun _ _ h => by first | rfl | kernel_rfl) ?_
              refine lx.o_pure (.pointer (some ⟨b, off + (i + 1) * 5, none⟩)) (fun D X hC => lx.run_at rfl rfl rfl hlt2 Try.underlying35 hinf hsz) ?_
              refine lx.o_pure (.agg #[.string dt, .int .i8 dw, .int .i32 df, .int .i32 db, .int .u8 da]) (fun D X hC => run_load5 rfl rfl (HD5.out _ hC)) ?_
              refine lx.o_pure (.slice (some ⟨b, off, none⟩) N cap) (fun _ _ h => by first | rfl | kernel_rfl) ?_
              refine lx.o_pure (.int .i64 ((i + 1 : Nat) : Int)) (fun _ _ h => by first | rfl | kernel_rfl) ?_
              refine lx.o_pure (.int .i64 (i : Nat)) (fun D X hC => lx.run_sub rfl rfl rfl (by omega) (by push_cast; omega)) ?_
              refine lx.o_pure (.pointer (some ⟨b, off + i * 5, none⟩)) (fun D X hC => lx.run_at rfl rfl rfl hlt Try.underlying35 hinf hsz) ?_
              refine lx.o_pure (.pointer (some ⟨b, off + i * 5 + 2, none⟩)) (fun D X hC => by first | rfl | kernel_rfl) ?_
              refine lx.o_pure (.agg #[.int .i32 cf, .int .i32 cb, .int .u8 ca]) (fun D X hC => run_sty3 rfl rfl (HC5.out _ hC)) ?_
              refine lx.o_pure (.agg #[.string ⟨#[]⟩, .int .i8 0, .int .i32 cf, .int .i32 cb, .int .u8 ca]) (fun D X hC => by first | rfl | kernel_rfl) ?_
              refine lx.o_pure (.bool false) (fun _ _ _ => run_necell_f (s := ⟨dt, dw, ⟨df, db, da⟩⟩) (s' := ⟨⟨#[]⟩, 0, ⟨cf, cb, ca⟩⟩) rfl rfl rfl HRE.out) ?_
              refine lx.o_pure (.bool false) (fun _ _ h => by first | rfl | kernel_rfl) ?_
              refine lx.o_end ?_
              simp only [lx.ov]
              rintro Y d hd hC
              have HG := run.hid (HF.out.trans (hC.mono HF.out.size))
              clear hC hd HC5 HD5 HF HCX HDX e1
              go_simp
              go_wp2
              go_roundw
              case rel => exact ⟨i + 2, by omega, by go_num, HK, HG.out⟩
              case measure => simp [intOf]; omega
            · have HRE := run.hid hrest
              have HR0 : Hid (r = false) := by show r = _; rw [HSTP.out, HK2.out, if_neg (fun k => HRE.out k.2)]; rfl
              clear hrest HK2 HSTP
              go_upto_region 9 with fail
              replace HC5 := run.hid HCX.out
              replace HD5 := run.hid HDX.out
              refine lx.region (fun D Y => Below X.heap.size X Y) (by kernel_rfl) (by kernel_rfl) (by kernel_rfl) (drewB (Below.refl _ _)) ?_
              refine lx.begin 76 rfl ?_
              refine lx.o_pure (.int .i64 ((i + 1 : Nat) : Int)) (fun _ _ h => by first | rfl | kernel_rfl) ?_
              refine lx.o_pure (.slice (some ⟨b, off, none⟩) N cap) (fun _ _ h => by first | rfl | kernel_rfl) ?_
              refine lx.o_pure (.int .i64 (N : Nat)) (fun D X hC => by first | rfl | kernel_rfl) ?_
              refine lx.o_pure (.bool false) (fun D X hC => run_eqint_f rfl rfl rfl (by omega)) ?_
              refine lx.o_pure (.bool false) (fun _ _ h => by first | rfl | kernel_rfl) ?_
              refine lx.o_pure (.slice (some ⟨b, off, none⟩) N cap) (fun _ _ h => by first | rfl | kernel_rfl) ?_
              refine lx.o_pure (.int .i64 ((i + 1 : Nat) : Int)) (fun _ _ h => by first | rfl | kernel_rfl) ?_
              refine lx.o_pure (.pointer (some ⟨b, off + (i + 1) * 5, none⟩)) (fun D X hC => lx.run_at rfl rfl rfl hlt2 Try.underlying35 hinf hsz) ?_
              refine lx.o_pure (.agg #[.string dt, .int .i8 dw, .int .i32 df, .int .i32 db, .int .u8 da]) (fun D X hC => run_load5 rfl rfl (HD5.out _ hC)) ?_
              refine lx.o_pure (.slice (some ⟨b, off, none⟩) N cap) (fun _ _ h => by first | rfl | kernel_rfl) ?_
              refine lx.o_pure (.int .i64 ((i + 1 : Nat) : Int)) (fun _ _ h => by first | rfl | kernel_rfl) ?_
              refine lx.o_pure (.int .i64 (i : Nat)) (fun D X hC => lx.run_sub rfl rfl rfl (by omega) (by push_cast; omega)) ?_
              refine lx.o_pure (.pointer (some ⟨b, off + i * 5, none⟩)) (fun D X hC => lx.run_at rfl rfl rfl hlt Try.underlying35 hinf hsz) ?_
              refine lx.o_pure (.pointer (some ⟨b, off + i * 5 + 2, none⟩)) (fun D X hC => by first | rfl | kernel_rfl) ?_
              refine lx.o_pure (.agg #[.int .i32 cf, .int .i32 cb, .int .u8 ca]) (fun D X hC => run_sty3 rfl rfl (HC5.out _ hC)) ?_
              refine lx.o_pure (.agg #[.string ⟨#[]⟩, .int .i8 0, .int .i32 cf, .int .i32 cb, .int .u8 ca]) (fun D X hC => by first | rfl | kernel_rfl) ?_
              refine lx.o_pure (.bool true) (fun _ _ _ => run_necell_t (s := ⟨dt, dw, ⟨df, db, da⟩⟩) (s' := ⟨⟨#[]⟩, 0, ⟨cf, cb, ca⟩⟩) rfl rfl rfl HRE.out) ?_
              refine lx.o_pure (.bool true) (fun _ _ h => by first | rfl | kernel_rfl) ?_
              refine lx.o_end ?_
              simp only [lx.ov]
              rintro Y d hd hC
              have HG := run.hid (HF.out.trans (hC.mono HF.out.size))
              clear hC hd HC5 HD5 HF HCX HDX e1
              go_simp
              go_wp2
              go_ret
              exact ⟨by rw [HR0.out]; try rfl, HG.out⟩
          · have HR0 : Hid (r = false) := by show r = _; rw [HSTP.out, HK2.out, if_neg (fun k => hlt2 k.1)]; rfl
            clear HK2 HSTP
            have hNi : i + 1 = N := by omega
            go_upto_region 9 with fail
            replace HC5 := run.hid HCX.out
            replace HD5 := run.hid HDX.out
            refine lx.region (fun D Y => Below X.heap.size X Y) (by kernel_rfl) (by kernel_rfl) (by kernel_rfl) (drewB (Below.refl _ _)) ?_
            refine lx.begin 76 rfl ?_
            refine lx.o_pure (.int .i64 ((i + 1 : Nat) : Int)) (fun _ _ h => by first | rfl | kernel_rfl) ?_
            refine lx.o_pure (.slice (some ⟨b, off, none⟩) N cap) (fun _ _ h => by first | rfl | kernel_rfl) ?_
            refine lx.o_pure (.int .i64 (N : Nat)) (fun D X hC => by first | rfl | kernel_rfl) ?_
            refine lx.o_pure (.bool true) (fun D X hC => run_eqint_t rfl rfl rfl (by omega)) ?_
            refine lx.o_pure (.bool true) (fun _ _ h => by first | rfl | kernel_rfl) ?_
            refine lx.o_skip ?_
            refine lx.o_skip ?_
            refine lx.o_skip ?_
            refine lx.o_skip ?_
            refine lx.o_skip ?_
            refine lx.o_skip ?_
            refine lx.o_skip ?_
            refine lx.o_skip ?_
            refine lx.o_skip ?_
            refine lx.o_skip ?_
            refine lx.o_skip ?_
            refine lx.o_skip ?_
            refine lx.o_pure (.bool true) (fun _ _ h => by first | rfl | kernel_rfl) ?_
            refine lx.o_end ?_
            simp only [lx.ov]
            rintro Y d hd hC
            have HG := run.hid (HF.out.trans (hC.mono HF.out.size))
            clear hC hd HC5 HD5 HF HCX HDX e1
            go_simp
            go_wp2
            go_ret
            exact ⟨by rw [HR0.out]; try rfl, HG.out⟩
        · have HK : Hid (r = wholeT (L.drop (i + 1))) := by
            have h3 : u1 = 1 := by have := HU2.out; omega
            have h4 : unitT (L.drop i) = 1 := by rw [HUi.out, h3, if_neg (by omega)]
            show r = _
            rw [HSTP.out, h4]; rfl
          clear HUi HU2 HSTP
          have HH2 := run.hid h2
          go_upto_region 5 with fail
          generalize w2.alloc (.cells #[.string st2, .int .i64 wd] 55) = w3 at *
          generalize hn4 : w2.heap.size = n4 at *
          refine lx.region (fun D X => Below (n4 + 1) w3 X) (by kernel_rfl) (by kernel_rfl) (by kernel_rfl) (drewB (Below.refl _ _)) ?_
          refine lx.begin 76 rfl ?_
          refine lx.o_pure (.bool true) (fun _ _ h => by first | rfl | kernel_rfl) ?_
          refine lx.o_pure (.bool false) (fun _ _ h => by first | rfl | kernel_rfl) ?_
          refine lx.o_pure (.bool false) (fun _ _ h => by first | rfl | kernel_rfl) ?_
          refine lx.o_pure (.slice (some ⟨b, off, none⟩) N cap) (fun _ _ h => by first | rfl | kernel_rfl) ?_
          refine lx.o_pure (.int .i64 (i : Nat)) (fun _ _ h => by first | rfl | kernel_rfl) ?_
          refine lx.o_pure (.pointer (some ⟨b, off + i * 5, none⟩)) (fun D X hC => lx.run_at rfl rfl rfl hlt Try.underlying35 hinf hsz) ?_
          refine lx.o_pure (.pointer (some ⟨b, off + i * 5 + 2, none⟩)) (fun D X hC => by first | rfl | kernel_rfl) ?_
          refine lx.o_pure (.agg #[.int .i32 cf, .int .i32 cb, .int .u8 ca]) (fun D X hC => run_sty3 rfl rfl (HC5.out _ hC)) ?_
          refine lx.o_call (.agg #[.int .i32 of, .int .i32 ob, .int .u8 oa]) 30 #[.agg #[.int .i32 cf, .int .i32 cb, .int .u8 ca], .slice none 0 0] (fun _ _ _ => lx.run_fn rfl rfl rfl (enters_of Try.func30 (by kernel_rfl) rfl)) (fun D X hC => (HOV.out X).mono fun e w2 ⟨he, hw⟩ => ⟨he, hC.trans (hw.mono (by have := hC.size; omega))⟩) ?_
          refine lx.o_pure (.slice (some ⟨b, off, none⟩) N cap) (fun _ _ h => by first | rfl | kernel_rfl) ?_
          refine lx.o_pure (.int .i64 (i : Nat)) (fun _ _ h => by first | rfl | kernel_rfl) ?_
          refine lx.o_pure (.pointer (some ⟨b, off + i * 5, none⟩)) (fun D X hC => lx.run_at rfl rfl rfl hlt Try.underlying35 hinf hsz) ?_
          refine lx.o_pure (.pointer (some ⟨b, off + i * 5 + 2, none⟩)) (fun D X hC => by first | rfl | kernel_rfl) ?_
          refine lx.o_pure (.agg #[.int .i32 cf, .int .i32 cb, .int .u8 ca]) (fun D X hC => run_sty3 rfl rfl (HC5.out _ hC)) ?_
          refine lx.o_pure (.bool false) (fun _ _ _ => run_nesty_f (s := ⟨of, ob, oa⟩) (s' := ⟨cf, cb, ca⟩) rfl rfl rfl HST.out) ?_
          refine lx.o_pure (.bool false) (fun _ _ h => by first | rfl | kernel_rfl) ?_
          refine lx.o_pure (.bool false) (fun _ _ h => by first | rfl | kernel_rfl) ?_
          refine lx.o_pure (.pointer (some ⟨n4, 1, none⟩)) (fun _ _ h => by first | rfl | kernel_rfl) ?_
          refine lx.o_pure (.int .i64 wd) (fun D X hC => lx.run_load rfl rfl Try.underlying3 rfl (blk_cell (hC.b4 K4.out) 1)) ?_
          refine lx.o_pure (.bool false) (fun _ _ _ => run_lss rfl rfl rfl (decide_eq_false (by omega))) ?_
          refine lx.o_pure (.bool false) (fun _ _ h => by first | rfl | kernel_rfl) ?_
          refine lx.o_pure (.bool false) (fun _ _ h => by first | rfl | kernel_rfl) ?_
          refine lx.o_pure (.slice (some ⟨b, off, none⟩) N cap) (fun _ _ h => by first | rfl | kernel_rfl) ?_
          refine lx.o_pure (.int .i64 (i : Nat)) (fun _ _ h => by first | rfl | kernel_rfl) ?_
          refine lx.o_pure (.pointer (some ⟨b, off + i * 5, none⟩)) (fun D X hC => lx.run_at rfl rfl rfl hlt Try.underlying35 hinf hsz) ?_
          refine lx.o_pure (.pointer (some ⟨b, off + i * 5 + 1, none⟩)) (fun D X hC => by first | rfl | kernel_rfl) ?_
          refine lx.o_pure (.int .i8 cw) (fun D X hC => lx.run_load rfl rfl Try.underlying42 rfl (HC5.out _ hC).2.1) ?_
          refine lx.o_pure (.int .i64 cw) (fun _ _ _ => run_wide8 rfl rfl Try.underlying42 Try.underlying3 hcw) ?_
          refine lx.o_pure (.pointer (some ⟨n4, 1, none⟩)) (fun _ _ h => by first | rfl | kernel_rfl) ?_
          refine lx.o_pure (.int .i64 wd) (fun D X hC => lx.run_load rfl rfl Try.underlying3 rfl (blk_cell (hC.b4 K4.out) 1)) ?_
          refine lx.o_pure (.bool false) (fun _ _ _ => run_neint_f rfl rfl rfl HWC.out) ?_
          refine lx.o_pure (.bool false) (fun _ _ h => by first | rfl | kernel_rfl) ?_
          refine lx.o_end ?_
          simp only [lx.ov]
          rintro X d hd hC
          have HF := run.hid (HB3.out.trans (hC.mono hle))
          have e1 := blk_cell (hC.b4 K4.out) 1
          change X.cell? _ = some (.int .i64 wd) at e1
          have hXs := hC.size
          have HCX := run.hid (fun Y (hY : Below X.heap.size X Y) => HC5.out Y (hC.trans (hY.mono (by omega))))
          have HDX := run.hid (fun Y (hY : Below X.heap.size X Y) => HD5.out Y (hC.trans (hY.mono (by omega))))
          clear hC hd K4 HB3 HOV HC5 HD5 HA
          go_simp
          clear HCX HDX
          go_wp2
          go_roundw
          case rel => exact ⟨i + 1, by omega, by go_num, HK, HF.out⟩
          case measure => simp [intOf]; omega
      · have HR0 : Hid (r = false) := by
          have h1 : u1 = 0 := by rw [HU1.out]; exact if_neg fun h => hone h.1
          show r = _
          rw [HSTP.out, HUi.out, h1, if_neg (by omega)]; rfl
        clear HUi HSTP HU1 hone
        go_upto_region 5 with fail
        generalize w2.alloc (.cells #[.string st2, .int .i64 wd] 55) = w3 at *
        generalize hn4 : w2.heap.size = n4 at *
        refine lx.region (fun D X => Below (n4 + 1) w3 X) (by kernel_rfl) (by kernel_rfl) (by kernel_rfl) (drewB (Below.refl _ _)) ?_
        refine lx.begin 76 rfl ?_
        refine lx.o_pure (.bool false) (fun _ _ h => by first | rfl | kernel_rfl) ?_
        refine lx.o_pure (.bool true) (fun _ _ h => by first | rfl | kernel_rfl) ?_
        refine lx.o_pure (.bool true) (fun _ _ h => by first | rfl | kernel_rfl) ?_
        refine lx.o_skip ?_
        refine lx.o_skip ?_
        refine lx.o_skip ?_
        refine lx.o_skip ?_
        refine lx.o_skip ?_
        refine lx.o_skip ?_
        refine lx.o_skip ?_
        refine lx.o_skip ?_
        refine lx.o_skip ?_
        refine lx.o_skip ?_
        refine lx.o_skip ?_
        refine lx.o_skip ?_
        refine lx.o_pure (.bool true) (fun _ _ h => by first | rfl | kernel_rfl) ?_
        refine lx.o_pure (.bool true) (fun _ _ h => by first | rfl | kernel_rfl) ?_
        refine lx.o_skip ?_
        refine lx.o_skip ?_
        refine lx.o_skip ?_
        refine lx.o_pure (.bool true) (fun _ _ h => by first | rfl | kernel_rfl) ?_
        refine lx.o_pure (.bool true) (fun _ _ h => by first | rfl | kernel_rfl) ?_
        refine lx.o_skip ?_
        refine lx.o_skip ?_
        refine lx.o_skip ?_
        refine lx.o_skip ?_
        refine lx.o_skip ?_
        refine lx.o_skip ?_
        refine lx.o_skip ?_
        refine lx.o_skip ?_
        refine lx.o_skip ?_
        refine lx.o_pure (.bool true) (fun _ _ h => by first | rfl | kernel_rfl) ?_
        refine lx.o_end ?_
        simp only [lx.ov]
        rintro X d hd hC
        have HF := run.hid (HB3.out.trans (hC.mono hle))
        clear hC hd K4 HB3 HOV HC5 HD5 HA
        go_simp
        go_wp2
        go_ret
        exact ⟨by rw [HR0.out]; try rfl, HF.out⟩

    · obtain rfl : i = N := by omega
      have HK : Hid (r = true) := by show r = _; rw [HI.out, HE.out]
      clear HA HU HFT H0 HI
      go_wp2
      go_ret
      exact ⟨by rw [HK.out]; try rfl, hbel⟩
end Go.Proofs.Ytinnggiohalifaa.cel
