/- TableDoes: the walk. -/
import Derived.Test.YtglngngcohcmfaaTb22
namespace Go.Proofs.Ytglngngcohcmfaa.lawTableDoes
open Go.RowKit Go.Deep Go.Proofs.Ytglngngcohcmfaa

set_option maxRecDepth 100000 in
set_option maxHeartbeats 16000000 in
theorem walk_any (la ra0 : Option Addr) (lc rc0 : Nat) (S R : List Tb.Rt) (pl pb x : Int) (w : World) (hS : Rs w la S) (hR : Rs w ra0 R) :
    Calls Try.prog 3 #[.slice la S.length lc, .slice ra0 R.length rc0, .agg #[.int .i64 pl, .int .i64 pb], .int .i64 x] w (TrueFr w) := by
  by_cases h1 : 120 < S.length
  · have hb1 : (120 : Int) < (S.length : Int) := by omega
    clear h1
    go_enter Try.func3, Try.ntmps3
    go_wp2_with fail
    refine (tableBegun_true _).mono ?_
    rintro e w1 ⟨rfl, hf⟩
    have HF := Lib.hid (((Fr.refl NoB w).alloc _).trans hf)
    clear hf
    go_wp2
    go_ret
    exact ⟨rfl, HF.out⟩
  · have hb1 : ¬ (120 : Int) < (S.length : Int) := by omega
    by_cases h2 : 120 < R.length
    · have hb2 : (120 : Int) < (R.length : Int) := by omega
      clear h1 h2
      go_enter Try.func3, Try.ntmps3
      go_wp2_with fail
      refine (tableBegun_true _).mono ?_
      rintro e w1 ⟨rfl, hf⟩
      have HF := Lib.hid (((Fr.refl NoB w).alloc _).trans hf)
      clear hf
      go_wp2
      go_ret
      exact ⟨rfl, HF.out⟩
    · have hb2 : ¬ (120 : Int) < (R.length : Int) := by omega
      have HLR : Hid (R.length ≤ 1000) := by show R.length ≤ 1000; omega
      have HLS : Hid (S.length ≤ 1000) := by show S.length ≤ 1000; omega
      have HS := Lib.hid hS; clear hS; have HR := Lib.hid hR; clear hR
      clear h1 h2
      go_enter Try.func3, Try.ntmps3
      go_wp2_with fail
      refine (tableBegun_true _).mono ?_
      rintro e w1 ⟨rfl, hf⟩
      have c0 := cell_fr' hf (box0 w (.int .i64 pl) (.int .i64 pb) 24) (fun h => h)
      have c1 := cell_fr' hf (box1 w (.int .i64 pl) (.int .i64 pb) 24) (fun h => h)
      have HF := Lib.hid (((Fr.refl NoB w).alloc _).trans hf)
      clear hf
      go_wp2_with fail
      refine (tables_any la lc S _ HLS.out (HS.out.keep0 HF.out)).mono ?_
      rintro e w2 ⟨t, v, ra, rc, rfl, h2⟩
      obtain ⟨hwf, h40⟩ := Tb.play_ok S
      generalize Tb.play S = L at *
      have c0 := cell_fr' h2.f c0 (fun h => h)
      have c1 := cell_fr' h2.f c1 (fun h => h)
      have HF2 := Lib.hid (HF.out.trans h2.f)
      obtain ⟨ta, tc, rfl, htr, _, htc⟩ := h2.at_.shape
      have HT := Lib.hid h2.at_
      have HTR := Lib.hid htr
      have HTC := Lib.hid htc
      have HRR := Lib.hid h2.rs
      have HWF := Lib.hid hwf
      have HL : Hid (L.length ≤ 1000) := by show L.length ≤ 1000; omega
      have HLK : Hid (∀ a : Int, (Tb.lookR L a).1 = Tb.look L a) := fun a => (Tb.look_both hwf a).1
      clear h2 htr htc hwf h40
      go_upto_region 6 with fail
      have sF := Lib.hid (Fr.drew (Fr.refl NoB w2))
      have s0 := c0
      have s1 := c1
      clear c0 c1
      go_cut [72] (fun s wx => s = .bool false ∧ Hid (Fr NoB w2 wx))
      case first =>
        (try dsimp only [List.append])
        go_region_held3 (fun W => W.cell? ⟨w.heap.size, 0, none⟩ = some (.int .i64 pl) ∧ W.cell? ⟨w.heap.size, 1, none⟩ = some (.int .i64 pb)) (first | exact ⟨s0, s1⟩)
          (first | (go_at_call 13; go_must (refine (List_any t (.slice ta L.length tc) L _ HL.out (HT.out.keep0 sF.out)).mono ?_); go_must (rintro e wn ⟨v4, rfl, hv, hf⟩); go_must (obtain ⟨a4, c4, rfl, hr4, _⟩ := hv.shape); go_must (have HR4 := Lib.hid hr4); go_must (clear hr4 hv); go_must (replace s0 := cell_fr' hf s0 (fun h => h)); go_must (replace s1 := cell_fr' hf s1 (fun h => h)); go_must (replace sF := Lib.hid (sF.out.trans hf)); go_must (clear hf)) | (go_at_call 12; go_must (refine (SameRoutes_any a4 ra c4 rc L L _ HL.out HL.out HR4.out (HRR.out.keep0 sF.out)).mono ?_); go_must (rw [decide_eq_true (rfl : L = L)]); go_must (rintro e wn ⟨rfl, hf⟩); go_must (replace s0 := cell_fr' hf s0 (fun h => h)); go_must (replace s1 := cell_fr' hf s1 (fun h => h)); go_must (replace sF := Lib.hid (sF.out.trans hf)); go_must (clear hf)) | (go_at_call 14; go_must (refine (Get_any t ta tc L pl pb _ HL.out HWF.out (HTR.out.keep0 sF.out) (cell_fr' sF.out HTC.out (fun h => h))).mono ?_); go_must (rintro e wn ⟨rfl, hf⟩); go_must (replace s0 := cell_fr' hf s0 (fun h => h)); go_must (replace s1 := cell_fr' hf s1 (fun h => h)); go_must (replace sF := Lib.hid (sF.out.trans hf)); go_must (clear hf)) | (go_at_call 15; go_must (refine (GetOf_any ra rc L pl pb _ HL.out (HRR.out.keep0 sF.out)).mono ?_); go_must (rintro e wn ⟨rfl, hf⟩); go_must (replace s0 := cell_fr' hf s0 (fun h => h)); go_must (replace s1 := cell_fr' hf s1 (fun h => h)); go_must (replace sF := Lib.hid (sF.out.trans hf)); go_must (clear hf)) | (go_at_call 16; go_must (refine (Look_any t ta tc L x _ HL.out (HTR.out.keep0 sF.out) (cell_fr' sF.out HTC.out (fun h => h))).mono ?_); go_must (rintro e wn ⟨rfl, hf⟩); go_must (replace s0 := cell_fr' hf s0 (fun h => h)); go_must (replace s1 := cell_fr' hf s1 (fun h => h)); go_must (replace sF := Lib.hid (sF.out.trans hf)); go_must (clear hf)) | (go_at_call 17; go_must (refine (RLook_any ra rc L x _ HL.out (HRR.out.keep0 sF.out)).mono ?_); go_must (rw [HLK.out x]); go_must (rintro e wn ⟨rfl, hf⟩); go_must (replace s0 := cell_fr' hf s0 (fun h => h)); go_must (replace s1 := cell_fr' hf s1 (fun h => h)); go_must (replace sF := Lib.hid (sF.out.trans hf)); go_must (clear hf)) | (go_at_call 19; go_must (refine (All_any t ta tc L _ HL.out HWF.out (HTR.out.keep0 sF.out) (cell_fr' sF.out HTC.out (fun h => h))).mono ?_); go_must (rintro e wn ⟨gA, rfl, hgA, hrA, hf⟩); go_must (have rA := Lib.hid hrA); go_must (clear hrA hgA); go_must ((try replace rB := Lib.hid (hf.row rB.out (fun h => h)))); go_must (replace s0 := cell_fr' hf s0 (fun h => h)); go_must (replace s1 := cell_fr' hf s1 (fun h => h)); go_must (replace sF := Lib.hid (sF.out.trans hf)); go_must (clear hf)) | (go_at_call 20; go_must (refine (AllOf_any ra rc L _ HL.out (HRR.out.keep0 sF.out)).mono ?_); go_must (rintro e wn ⟨gB, rfl, hgB, hrB, hf⟩); go_must (have rB := Lib.hid hrB); go_must (clear hrB hgB); go_must ((try replace rA := Lib.hid (hf.row rA.out (fun h => h)))); go_must (replace s0 := cell_fr' hf s0 (fun h => h)); go_must (replace s1 := cell_fr' hf s1 (fun h => h)); go_must (replace sF := Lib.hid (sF.out.trans hf)); go_must (clear hf)) | (go_at_call 18; go_must (refine (SameInts_fr (some ⟨gA, 0, none⟩) (some ⟨gB, 0, none⟩) 256 256 256 256 _ _ _ (by omega) (by omega) (Rd.row rA.out) (Rd.row rB.out)).mono ?_); go_must (rintro e wn ⟨r, rfl, hr, hf⟩); go_must (obtain rfl := hr.2 ⟨rfl, fun k _ => (HLK.out k).symm⟩); go_must (clear hr); go_must (replace s0 := cell_fr' hf s0 (fun h => h)); go_must (replace s1 := cell_fr' hf s1 (fun h => h)); go_must (replace sF := Lib.hid (sF.out.trans hf)); go_must (clear hf)) | (go_at_call 21; go_must (refine (Hop_any x _).mono ?_); go_must (rintro e wn ⟨rfl, rfl⟩)) | (go_at_call 22; go_must (refine (IsHop_any x _).mono ?_); go_must (rintro e wn ⟨rfl, rfl⟩)))
        all_goals (
          go_wp2_with fail
          go_meet
          exact ⟨rfl, sF⟩)
      case rest =>
        obtain ⟨rfl, hf⟩ := hcut
        obtain ⟨w3, rfl⟩ : ∃ w3 : World, w3 = wc := ⟨_, rfl⟩
        have HF3 := Lib.hid (HF2.out.trans hf.out)
        clear hf sF s0 s1 HT HTR HTC HRR HWF HL HLK HF2 HF
        go_wp2_with fail
        refine (RFault_any ra0 rc0 R _ (HR.out.keep0 HF3.out)).mono ?_
        rintro e w4 ⟨rfl, hf⟩
        have HF4 := Lib.hid (HF3.out.trans hf)
        clear hf
        go_wp2_with fail
        refine (Of_any ra0 rc0 R _ HLR.out (HR.out.keep0 HF4.out)).mono ?_
        rintro e w5 (⟨h0, rfl, hf⟩ | ⟨h0, u, v, rfl, hU, _, hf⟩)
        · have HF5 := Lib.hid (HF4.out.trans hf)
          clear hf
          have hbz : (Tb.chk R != 0) = true := by simpa using h0
          generalize hch : Tb.chk R = ch at *
          have HCH := Lib.hid hch
          clear hch h0
          go_wp2_with fail
          refine (Check_all ra0 rc0 R _ (HR.out.keep0 HF5.out)).mono ?_
          rw [HCH.out]
          rintro e w6 ⟨rfl, hf⟩
          have HF6 := Lib.hid (HF5.out.trans hf)
          clear hf
          go_wp2
          go_ret
          exact ⟨rfl, HF6.out⟩
        · have HF5 := Lib.hid (HF4.out.trans hf)
          obtain ⟨hwf, h40⟩ := Tb.chk_wf h0
          obtain ⟨ua, uc, rfl, hur, _, huc⟩ := hU.shape
          have HU := Lib.hid hU
          have HUR := Lib.hid hur
          have HUC := Lib.hid huc
          have HWF := Lib.hid hwf
          have HLK : Hid (∀ a : Int, (Tb.lookR R a).1 = Tb.look R a) := fun a => (Tb.look_both hwf a).1
          have HCH := Lib.hid h0
          clear hf hU hur huc hwf h40
          rw [h0]
          clear h0
          go_wp2_with fail
          refine (Check_all ra0 rc0 R _ (HR.out.keep0 HF5.out)).mono ?_
          rw [HCH.out]
          rintro e w6 ⟨rfl, hf⟩
          have HF6 := Lib.hid hf
          clear hf
          go_wp2_with fail
          refine (List_any u (.slice ua R.length uc) R _ HLR.out (HU.out.keep0 HF6.out)).mono ?_
          rintro e w7 ⟨v4, rfl, hv, hf⟩
          obtain ⟨a4, c4, rfl, hr4, _⟩ := hv.shape
          have HR4 := Lib.hid hr4
          have HF7 := Lib.hid (HF6.out.trans hf)
          clear hr4 hv hf
          go_wp2_with fail
          refine (SameRoutes_any a4 ra0 c4 rc0 R R _ HLR.out HLR.out HR4.out (HR.out.keep0 (HF5.out.trans HF7.out))).mono ?_
          rw [decide_eq_true (rfl : R = R)]
          rintro e w8 ⟨rfl, hf⟩
          have HF8 := Lib.hid (HF7.out.trans hf)
          clear hf
          go_wp2_with fail
          refine (All_any u ua uc R _ HLR.out HWF.out (HUR.out.keep0 HF8.out) (cell_fr' HF8.out HUC.out (fun h => h))).mono ?_
          rintro e w9 ⟨gA, rfl, _, hrA, hf⟩
          have HF9 := Lib.hid (HF8.out.trans hf)
          have rA := Lib.hid hrA
          clear hf hrA
          go_wp2_with fail
          refine (AllOf_any ra0 rc0 R _ HLR.out (HR.out.keep0 (HF5.out.trans HF9.out))).mono ?_
          rintro e w10 ⟨gB, rfl, _, hrB, hf⟩
          have HF10 := Lib.hid (HF9.out.trans hf)
          have rB := Lib.hid hrB
          have rA := Lib.hid (hf.row rA.out (fun h => h))
          clear hf hrB
          go_wp2_with fail
          refine (SameInts_fr (some ⟨gA, 0, none⟩) (some ⟨gB, 0, none⟩) 256 256 256 256 _ _ _ (by omega) (by omega) (Rd.row rA.out) (Rd.row rB.out)).mono ?_
          rintro e w11 ⟨r, rfl, hr, hf⟩
          obtain rfl := hr.2 ⟨rfl, fun k _ => (HLK.out k).symm⟩
          have HF11 := Lib.hid (HF5.out.trans (HF10.out.trans hf))
          clear hr hf
          go_wp2
          go_ret
          exact ⟨rfl, HF11.out⟩

theorem TableDoes_all (a0 : Option Addr) (n0 c0 : Nat) (X0 : Nat → Int) (a1 : Option Addr) (n1 c1 : Nat) (X1 : Nat → Int) (f2 : Nat → Int) (a3 : Int) (w : World) (r0 : Rd w a0 (n0 * 3) X0) (r1 : Rd w a1 (n1 * 3) X1) :
    Calls Try.prog 3 #[.slice a0 n0 c0, .slice a1 n1 c1, .agg #[.int .i64 (f2 0), .int .i64 (f2 1)], .int .i64 a3] w (TrueFr w) := by
  obtain ⟨S, rfl, hS⟩ := rs_of_rd r0
  obtain ⟨R, rfl, hR⟩ := rs_of_rd r1
  exact walk_any a0 a1 c0 c1 S R (f2 0) (f2 1) a3 w hS hR
end Go.Proofs.Ytglngngcohcmfaa.lawTableDoes
