/- TableBack: the walk. -/
import Derived.Test.YtglngngcohcmfaaTb23
namespace Go.Proofs.Ytglngngcohcmfaa.lawTableBack
open Go.RowKit Go.Deep Go.Proofs.Ytglngngcohcmfaa

def CutB (L : List Tb.Rt) (p : Tb.Pf) (w2 : World) (t : Nat) (v s10 s11 : Value) (wx : World) : Prop :=
  ∃ a c, s10 = .slice a L.length c ∧ s11 = .int .i64 (Tb.get L p) ∧ Rs wx a L ∧ Sep wx t v a ∧ Fr NoB w2 wx
set_option maxRecDepth 100000 in
set_option maxHeartbeats 16000000 in
theorem walk_any (la : Option Addr) (lc : Nat) (S : List Tb.Rt) (pl pb hop : Int) (w : World) (hS : Rs w la S) :
    Calls Try.prog 5 #[.slice la S.length lc, .agg #[.int .i64 pl, .int .i64 pb], .int .i64 hop] w (TrueFr w) := by
  by_cases h1 : 120 < S.length
  · have hb1 : (120 : Int) < (S.length : Int) := by omega
    clear h1
    go_enter Try.func5, Try.ntmps5
    go_wp2_with fail
    refine (tableBegun_true _).mono ?_
    rintro e w1 ⟨rfl, hf⟩
    have HF := Lib.hid (((Fr.refl NoB w).alloc _).trans hf)
    clear hf
    go_wp2
    go_ret
    exact ⟨rfl, HF.out⟩
  · have hb1 : ¬ (120 : Int) < (S.length : Int) := by omega
    have HLS : Hid (S.length ≤ 1000) := by show S.length ≤ 1000; omega
    have HS := Lib.hid hS; clear hS
    clear h1
    go_enter Try.func5, Try.ntmps5
    go_wp2_with fail
    refine (tableBegun_true _).mono ?_
    rintro e w1 ⟨rfl, hf⟩
    have c0 := cell_fr' hf (box0 w (.int .i64 pl) (.int .i64 pb) 24) (fun h => h)
    have c1 := cell_fr' hf (box1 w (.int .i64 pl) (.int .i64 pb) 24) (fun h => h)
    have HF := Lib.hid (((Fr.refl NoB w).alloc _).trans hf)
    have hbx : w.heap.size < w1.heap.size := World.block_lt_of_cell? w1 _ c0
    have HBX := Lib.hid hbx
    clear hf hbx
    go_wp2_with fail
    refine (tables_any la lc S _ HLS.out (HS.out.keep0 HF.out)).mono ?_
    rintro e w2 ⟨t, v, ra, rc, rfl, h2⟩
    obtain ⟨hwf, h40⟩ := Tb.play_ok S
    generalize Tb.play S = L at *
    have c0 := cell_fr' h2.f c0 (fun h => h)
    have c1 := cell_fr' h2.f c1 (fun h => h)
    have HO := Lib.hid h2.ow
    have HWF := Lib.hid hwf
    have H40 := Lib.hid h40
    have HL : Hid (L.length ≤ 1000) := by show L.length ≤ 1000; omega
    clear h2 hwf h40
    go_upto_region 6 with fail
    obtain ⟨ta, tc, rfl, htr, _, htc⟩ := HO.out.at_.shape
    have HTR := Lib.hid htr
    have HTC := Lib.hid htc
    clear htr htc
    have sF := Lib.hid (Fr.drew (Fr.refl NoB w2))
    have s0 := c0
    have s1 := c1
    have HC0 := Lib.hid c0
    have HC1 := Lib.hid c1
    clear c0 c1
    go_cut [10, 11] (fun s10 s11 wx => CutB L ⟨pl, pb⟩ w2 t (.slice ta L.length tc) s10 s11 wx)
    case first =>
      go_region_held3 (fun W => W.cell? ⟨w.heap.size, 0, none⟩ = some (.int .i64 pl) ∧ W.cell? ⟨w.heap.size, 1, none⟩ = some (.int .i64 pb)) (first | exact ⟨s0, s1⟩)
        (first | (go_at_call 13; go_must (refine (List_any t (.slice ta L.length tc) L _ HL.out (HO.out.at_.keep0 sF.out)).mono ?_); go_must (rintro e wn ⟨v4, rfl, hv, hf⟩); go_must (obtain ⟨a4, c4, rfl, hr4, _⟩ := hv.shape); go_must (have HR4 := Lib.hid hr4); go_must (have HS4 := Lib.hid (clone_sep (HO.out.at_.keep0 sF.out) hv)); go_must (clear hr4 hv); go_must (replace s0 := cell_fr' hf s0 (fun h => h)); go_must (replace s1 := cell_fr' hf s1 (fun h => h)); go_must (replace sF := Lib.hid (sF.out.trans hf)); go_must (clear hf)) | (go_at_call 14; go_must (refine (Get_any t ta tc L pl pb _ HL.out HWF.out (HTR.out.keep0 sF.out) (cell_fr' sF.out HTC.out (fun h => h))).mono ?_); go_must (rintro e wn ⟨rfl, hf⟩); go_must ((try replace HR4 := Lib.hid (HR4.out.keep0 hf))); go_must ((try replace HS4 := Lib.hid (HS4.out.keep0 hf))); go_must (replace s0 := cell_fr' hf s0 (fun h => h)); go_must (replace s1 := cell_fr' hf s1 (fun h => h)); go_must (replace sF := Lib.hid (sF.out.trans hf)); go_must (clear hf)))
      all_goals (
        go_wp2_with fail
        go_meet
        exact ⟨a4, c4, rfl, rfl, HR4.out, HS4.out, sF.out⟩)
    case rest =>
      obtain ⟨a4, c4, rfl, rfl, hr4, hs4, hf⟩ := hcut
      obtain ⟨w3, rfl⟩ : ∃ w3 : World, w3 = wc := ⟨_, rfl⟩
      have c0 := cell_fr' hf HC0.out (fun h => h)
      have c1 := cell_fr' hf HC1.out (fun h => h)
      have HO3 := Lib.hid (HO.out.keep0 hf)
      have HR3 := Lib.hid hr4
      have HS3 := Lib.hid hs4
      clear hf hr4 hs4 sF s0 s1 HO HTR HTC HC0 HC1
      go_wp2_with fail
      refine (Set_any t (.slice ta L.length tc) L pl pb hop _ H40.out HWF.out HO3.out.at_).mono ?_
      unfold SetPost
      by_cases hc : Tb.setC L ⟨pl, pb⟩ hop = 0
      · obtain ⟨k1, k2, k3⟩ := Tb.set_back HWF.out H40.out hc
        have hok := Tb.setL_ok HWF.out H40.out ⟨pl, pb⟩ hop
        rw [hc]
        generalize Tb.setL L ⟨pl, pb⟩ hop = L1 at *
        rintro e w4 ⟨rfl, v1, hT, hf, ho⟩
        have c0 := cell_fr' hf c0 (HO3.out.nb HBX.out)
        have c1 := cell_fr' hf c1 (HO3.out.nb HBX.out)
        have HO4 := Lib.hid (HO3.out.set hT hf ho)
        have HR4 := Lib.hid (HR3.out.sep HS3.out hf)
        have HS4 := Lib.hid (HS3.out.set hf ho)
        have HW1 := Lib.hid hok.1
        have HK := Lib.hid (And.intro hok.2 (And.intro k1 (And.intro k2 k3)))
        clear hT hf ho hc k1 k2 k3 hok HO3 HR3 HS3
        obtain ⟨t1, d1, rfl, htr, _, htc⟩ := HO4.out.at_.shape
        have HTR := Lib.hid htr
        have HTC := Lib.hid htc
        clear htr htc
        go_wp2_with fail
        refine (Get_any t t1 d1 L1 pl pb _ (by have := HK.out.1; omega) HW1.out HTR.out HTC.out).mono ?_
        rw [HK.out.2.1]
        rintro e w5 ⟨rfl, hf⟩
        have c0 := cell_fr' hf c0 (fun h => h)
        have c1 := cell_fr' hf c1 (fun h => h)
        have HO5 := Lib.hid (HO4.out.keep0 hf)
        have HR5 := Lib.hid (HR4.out.keep0 hf)
        have HS5 := Lib.hid (HS4.out.keep0 hf)
        clear hf HO4 HR4 HS4 HTR HTC
        go_wp2_with fail
        refine (Set_any t (.slice t1 L1.length d1) L1 pl pb (Tb.get L ⟨pl, pb⟩) _ HK.out.1 HW1.out HO5.out.at_).mono ?_
        unfold SetPost
        rw [HK.out.2.2.1, HK.out.2.2.2]
        rintro e w6 ⟨rfl, v2, hT, hf, ho⟩
        have HO6 := Lib.hid (HO5.out.set hT hf ho)
        have HR6 := Lib.hid (HR5.out.sep HS5.out hf)
        clear hT hf ho HO5 HR5 HS5
        go_wp2_with fail
        refine (List_any t v2 L _ HL.out HO6.out.at_).mono ?_
        rintro e w7 ⟨v7, rfl, hv, hf⟩
        obtain ⟨a7, c7, rfl, hr7, _⟩ := hv.shape
        have HR7 := Lib.hid hr7
        have HR7' := Lib.hid (HR6.out.keep0 hf)
        have HF7 := Lib.hid (HO6.out.f.trans hf)
        clear hr7 hv hf
        go_wp2_with fail
        refine (SameRoutes_any a4 a7 c4 c7 L L _ HL.out HL.out HR7'.out HR7.out).mono ?_
        rw [decide_eq_true (rfl : L = L)]
        rintro e w8 ⟨rfl, hf⟩
        have HF8 := Lib.hid (HF.out.trans (HF7.out.trans hf))
        clear hf
        go_wp2
        go_ret
        exact ⟨rfl, HF8.out⟩
      · have hL : Tb.setL L ⟨pl, pb⟩ hop = L := by unfold Tb.setL; rw [if_neg hc]
        have hbz : (Tb.setC L ⟨pl, pb⟩ hop != 0) = true := by simpa using hc
        rw [hL]
        generalize Tb.setC L ⟨pl, pb⟩ hop = cd at *
        rintro e w4 ⟨rfl, v1, hT, hf, ho⟩
        have HO4 := Lib.hid (HO3.out.set hT hf ho)
        have HR4 := Lib.hid (HR3.out.sep HS3.out hf)
        clear hT hf ho hc hL HO3 HR3 HS3
        go_wp2_with fail
        refine (List_any t v1 L _ HL.out HO4.out.at_).mono ?_
        rintro e w7 ⟨v7, rfl, hv, hf⟩
        obtain ⟨a7, c7, rfl, hr7, _⟩ := hv.shape
        have HR7 := Lib.hid hr7
        have HR7' := Lib.hid (HR4.out.keep0 hf)
        have HF7 := Lib.hid (HO4.out.f.trans hf)
        clear hr7 hv hf
        go_wp2_with fail
        refine (SameRoutes_any a4 a7 c4 c7 L L _ HL.out HL.out HR7'.out HR7.out).mono ?_
        rw [decide_eq_true (rfl : L = L)]
        rintro e w8 ⟨rfl, hf⟩
        have HF8 := Lib.hid (HF.out.trans (HF7.out.trans hf))
        clear hf
        go_wp2
        go_ret
        exact ⟨rfl, HF8.out⟩

theorem TableBack_all (a0 : Option Addr) (n0 c0 : Nat) (X0 : Nat → Int) (f1 : Nat → Int) (a2 : Int) (w : World) (r0 : Rd w a0 (n0 * 3) X0) :
    Calls Try.prog 5 #[.slice a0 n0 c0, .agg #[.int .i64 (f1 0), .int .i64 (f1 1)], .int .i64 a2] w (TrueFr w) := by
  obtain ⟨S, rfl, hS⟩ := rs_of_rd r0
  exact walk_any a0 c0 S (f1 0) (f1 1) a2 w hS
end Go.Proofs.Ytglngngcohcmfaa.lawTableBack
