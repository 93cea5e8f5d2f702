/- TrieDoes: the walk. -/
import Derived.Test.YtglngngcohcmfaaTr6
namespace Go.Proofs.Ytglngngcohcmfaa.lawTrieDoes
open Go.RowKit Go.Deep Go.Proofs.Ytglngngcohcmfaa

set_option maxRecDepth 100000 in
set_option maxHeartbeats 16000000 in
theorem walk_any (la ma : Option Addr) (lc mc : Nat) (S R : List Tb.Rt) (x : Int) (w : World) (hS : Rs w la S) (hR : Rs w ma R) :
    Calls Try.prog 7 #[.slice la S.length lc, .slice ma R.length mc, .int .i64 x] w (TrueFr w) := by
  by_cases h1 : 120 < S.length
  · have hb1 : (120 : Int) < (S.length : Int) := by omega
    clear h1
    go_enter Try.func7, Try.ntmps7
    go_wp2_with fail
    refine (trieBegun_true _).mono ?_
    rintro e w1 ⟨rfl, hf⟩
    have HF := Lib.hid hf
    clear hf
    go_wp2
    go_ret
    exact ⟨rfl, HF.out⟩
  · have hb1 : ¬ (120 : Int) < (S.length : Int) := by omega
    by_cases h2 : 120 < R.length
    · have hb2 : (120 : Int) < (R.length : Int) := by omega
      clear h1 h2
      go_enter Try.func7, Try.ntmps7
      go_wp2_with fail
      refine (trieBegun_true _).mono ?_
      rintro e w1 ⟨rfl, hf⟩
      have HF := Lib.hid hf
      clear hf
      go_wp2
      go_ret
      exact ⟨rfl, HF.out⟩
    · have hb2 : ¬ (120 : Int) < (R.length : Int) := by omega
      have HLR : Hid (R.length ≤ 1000) := by show R.length ≤ 1000; omega
      have HLS : Hid (S.length ≤ 1000) := by show S.length ≤ 1000; omega
      have HS := Lib.hid hS; clear hS; have HR := Lib.hid hR; clear hR
      clear h1 h2
      go_enter Try.func7, Try.ntmps7
      go_wp2_with fail
      refine (trieBegun_true _).mono ?_
      rintro e w1 ⟨rfl, hf⟩
      have HF := Lib.hid hf
      clear hf
      go_wp2_with fail
      refine (tables_any la lc S _ HLS.out (HS.out.keep0 HF.out)).mono ?_
      rintro e w2 ⟨t, v, ra, rc, rfl, h2⟩
      obtain ⟨hwf, h40⟩ := Tb.play_ok S
      generalize Tb.play S = L at *
      have HF2 := Lib.hid (HF.out.trans h2.f)
      have HA := Lib.hid h2
      have HWF := Lib.hid hwf
      have HL : Hid (L.length ≤ 1000) := by show L.length ≤ 1000; omega
      have HLK : Hid (∀ a : Int, (Tb.lookR L a).1 = Tb.look L a) := fun a => (Tb.look_both hwf a).1
      clear h2 hwf h40
      go_wp2_with fail
      refine (tables_any ma mc R _ HLR.out (HR.out.keep0 HF2.out)).mono ?_
      rintro e w3 ⟨u, v', rb, rd, rfl, h2⟩
      obtain ⟨hwf, h40⟩ := Tb.play_ok R
      generalize Tb.play R = M at *
      have HF3 := Lib.hid (HF2.out.trans h2.f)
      have HA3 := Lib.hid (HA.out.keep0 h2.f)
      have HB3 := Lib.hid h2
      have HWM := Lib.hid hwf
      have HM : Hid (M.length ≤ 1000) := by show M.length ≤ 1000; omega
      have HMK : Hid (∀ a : Int, (Tb.lookR M a).1 = Tb.look M a) := fun a => (Tb.look_both hwf a).1
      clear h2 hwf h40 HA HF HF2
      have hof := fun W (hW : Fr NoB w3 W) => TOf_any t v L W HL.out HWF.out (HA3.out.at_.keep0 hW)
      have hlv : Tb.lv 8 ⟨0, 0⟩ (Tb.allOf L) = Tb.leaves (Tb.mkT 8 ⟨0, 0⟩ (Tb.allOf L)) := (Tb.mkT_leaves 8 _ _ (fit1 L)).symm
      have hln : (Tb.leaves (Tb.mkT 8 ⟨0, 0⟩ (Tb.allOf L))).length ≤ 1000 := by
        rw [← hlv]
        have := (lv_len 8 _ _ (fit1 L)).2
        rw [Tb.allOf_len] at this
        omega
      have hlw := lookW_all L x
      have hlo := fun (g : Nat) (W : World) (hrd : RdL W (some ⟨g, 0, none⟩) (Tb.allOf L)) => lo_any 8 0 0 (Tb.allOf L) (some ⟨g, 0, none⟩) 256 W (fit1 L) hrd (by rw [Tb.allOf_len]; omega) (by omega)
      rw [Tb.allOf_len, hlv] at hlo
      generalize Tb.mkT 8 ⟨0, 0⟩ (Tb.allOf L) = T at *
      have HOF := Lib.hid hof; clear hof; have HLO := Lib.hid hlo; clear hlo; have HLN := Lib.hid hln; clear hln
      clear hlv
      go_wp2_with fail
      refine (HOF.out _ (Fr.refl _ _)).mono ?_
      rintro e w4 ⟨b, rfl, ht, hf⟩
      have HT4 := Lib.hid ht
      have HF4 := Lib.hid hf
      clear ht hf
      go_wp2_with fail
      refine (AllOf_any ra rc L _ HL.out (HA3.out.rs.keep0 HF4.out)).mono ?_
      rintro e w5 ⟨g, rfl, _, hrow, hf⟩
      have hrd := rdl_row (hs := Tb.allOf L) hrow (Tb.allOf_len L) (fun n hn => by rw [HLK.out]; exact allOf_get L hn)
      have HT5 := Lib.hid (HT4.out.keep0 hf)
      have HF5 := Lib.hid (HF4.out.trans hf)
      have HRD := Lib.hid hrd
      clear hrow hf hrd HT4
      go_wp2_with fail
      refine (HLO.out g _ HRD.out).mono ?_
      rintro e w6 ⟨y0, rfl, hv, hf⟩
      obtain ⟨wa, wc', rfl, hyr, _⟩ := hv.shape
      have HWT := Lib.hid hyr
      have HT := Lib.hid (HT5.out.keep0 hf)
      have HG := Lib.hid (HF5.out.trans hf)
      clear hv hf hyr HT5 HRD HLO HOF
      by_cases h0 : 0 ≤ x
      · by_cases h6 : x < 256
        · rw [if_pos ⟨h0, h6⟩] at hlw
          have HLW := Lib.hid hlw
          clear hlw
          go_wp2_with fail
          refine (RLook_any ra rc L x _ HL.out (HA3.out.rs.keep0 HG.out)).mono ?_
          rw [HLK.out x]
          rintro e w7 ⟨rfl, hf⟩
          have GF := Lib.hid hf
          clear hf
          go_wp2_with fail
          refine (leaves_any T b _ (HT.out.keep0 GF.out) HLN.out).mono ?_
          rintro e x1 ⟨y1, rfl, hv, hf⟩
          obtain ⟨ya, yc, rfl, hyr, _⟩ := hv.shape
          have HY := Lib.hid hyr
          have GF1 := Lib.hid (GF.out.trans hf)
          have HWT1 := Lib.hid (HWT.out.keep0 GF1.out)
          clear hv hf hyr
          go_wp2_with fail
          refine (SameRoutes_any ya wa yc wc' (Tb.leaves T) (Tb.leaves T) _ HLN.out HLN.out HY.out HWT1.out).mono ?_
          rw [decide_eq_true (rfl : Tb.leaves T = Tb.leaves T)]
          rintro e x2 ⟨rfl, hf⟩
          have GF2 := Lib.hid (GF1.out.trans hf)
          clear hf
          go_wp2_with fail
          refine (size_any T b _ (HT.out.keep0 GF2.out) HLN.out).mono ?_
          rintro e x3 ⟨rfl, hf⟩
          have GF3 := Lib.hid (GF2.out.trans hf)
          clear hf
          go_wp2_with fail
          refine (TLook_any T b x _ (HT.out.keep0 GF3.out)).mono ?_
          rw [HLW.out]
          rintro e x4 ⟨rfl, hf⟩
          have GF4 := Lib.hid (GF3.out.trans hf)
          clear hf
          go_wp2_with fail
          refine (TSame_any t u v v' L M _ HL.out HM.out HWF.out HWM.out (HA3.out.at_.keep0 (HG.out.trans GF4.out)) (HB3.out.at_.keep0 (HG.out.trans GF4.out))).mono ?_
          rintro e x5 ⟨r1, rfl, hr1, hf⟩
          have GF5 := Lib.hid (GF4.out.trans hf)
          have HR1 := Lib.hid hr1
          clear hf hr1
          go_wp2_with fail
          refine (AllOf_any ra rc L _ HL.out (HA3.out.rs.keep0 (HG.out.trans GF5.out))).mono ?_
          rintro e x6 ⟨gA, rfl, _, hrA, hf⟩
          have GF6 := Lib.hid (GF5.out.trans hf)
          have rA := Lib.hid hrA
          clear hf hrA
          go_wp2_with fail
          refine (AllOf_any rb rd M _ HM.out (HB3.out.rs.keep0 (HG.out.trans GF6.out))).mono ?_
          rintro e x7 ⟨gB, rfl, _, hrB, hf⟩
          have GF7 := Lib.hid (GF6.out.trans hf)
          have rB := Lib.hid hrB
          have rA := Lib.hid (hf.row rA.out (fun h => h))
          clear hf hrB
          go_wp2_with fail
          refine (SameInts_fr (some ⟨gA, 0, none⟩) (some ⟨gB, 0, none⟩) 256 256 256 256 _ _ _ (by omega) (by omega) (Rd.row rA.out) (Rd.row rB.out)).mono ?_
          rintro e x8 ⟨r2, rfl, hr2, hf⟩
          have e12 : r1 = r2 := by
            rw [Bool.eq_iff_iff, HR1.out, hr2]
            exact ⟨fun h => ⟨rfl, fun k hk => (HLK.out k).trans ((h k hk).trans (HMK.out k).symm)⟩, fun h k hk => (HLK.out k).symm.trans ((h.2 k hk).trans (HMK.out k))⟩
          subst e12
          have HFE := Lib.hid (HF3.out.trans (HG.out.trans (GF7.out.trans hf)))
          clear hf hr2
          go_wp2
          go_ret
          exact ⟨by simp, HFE.out⟩
        · rw [if_neg (fun h => h6 h.2)] at hlw
          have HLW := Lib.hid hlw
          clear hlw
          have GF := Lib.hid (Fr.refl NoB w6)
          go_wp2_with fail
          refine (leaves_any T b _ (HT.out.keep0 GF.out) HLN.out).mono ?_
          rintro e x1 ⟨y1, rfl, hv, hf⟩
          obtain ⟨ya, yc, rfl, hyr, _⟩ := hv.shape
          have HY := Lib.hid hyr
          have GF1 := Lib.hid (GF.out.trans hf)
          have HWT1 := Lib.hid (HWT.out.keep0 GF1.out)
          clear hv hf hyr
          go_wp2_with fail
          refine (SameRoutes_any ya wa yc wc' (Tb.leaves T) (Tb.leaves T) _ HLN.out HLN.out HY.out HWT1.out).mono ?_
          rw [decide_eq_true (rfl : Tb.leaves T = Tb.leaves T)]
          rintro e x2 ⟨rfl, hf⟩
          have GF2 := Lib.hid (GF1.out.trans hf)
          clear hf
          go_wp2_with fail
          refine (size_any T b _ (HT.out.keep0 GF2.out) HLN.out).mono ?_
          rintro e x3 ⟨rfl, hf⟩
          have GF3 := Lib.hid (GF2.out.trans hf)
          clear hf
          go_wp2_with fail
          refine (TLook_any T b x _ (HT.out.keep0 GF3.out)).mono ?_
          rw [HLW.out]
          rintro e x4 ⟨rfl, hf⟩
          have GF4 := Lib.hid (GF3.out.trans hf)
          clear hf
          go_wp2_with fail
          refine (TSame_any t u v v' L M _ HL.out HM.out HWF.out HWM.out (HA3.out.at_.keep0 (HG.out.trans GF4.out)) (HB3.out.at_.keep0 (HG.out.trans GF4.out))).mono ?_
          rintro e x5 ⟨r1, rfl, hr1, hf⟩
          have GF5 := Lib.hid (GF4.out.trans hf)
          have HR1 := Lib.hid hr1
          clear hf hr1
          go_wp2_with fail
          refine (AllOf_any ra rc L _ HL.out (HA3.out.rs.keep0 (HG.out.trans GF5.out))).mono ?_
          rintro e x6 ⟨gA, rfl, _, hrA, hf⟩
          have GF6 := Lib.hid (GF5.out.trans hf)
          have rA := Lib.hid hrA
          clear hf hrA
          go_wp2_with fail
          refine (AllOf_any rb rd M _ HM.out (HB3.out.rs.keep0 (HG.out.trans GF6.out))).mono ?_
          rintro e x7 ⟨gB, rfl, _, hrB, hf⟩
          have GF7 := Lib.hid (GF6.out.trans hf)
          have rB := Lib.hid hrB
          have rA := Lib.hid (hf.row rA.out (fun h => h))
          clear hf hrB
          go_wp2_with fail
          refine (SameInts_fr (some ⟨gA, 0, none⟩) (some ⟨gB, 0, none⟩) 256 256 256 256 _ _ _ (by omega) (by omega) (Rd.row rA.out) (Rd.row rB.out)).mono ?_
          rintro e x8 ⟨r2, rfl, hr2, hf⟩
          have e12 : r1 = r2 := by
            rw [Bool.eq_iff_iff, HR1.out, hr2]
            exact ⟨fun h => ⟨rfl, fun k hk => (HLK.out k).trans ((h k hk).trans (HMK.out k).symm)⟩, fun h k hk => (HLK.out k).symm.trans ((h.2 k hk).trans (HMK.out k))⟩
          subst e12
          have HFE := Lib.hid (HF3.out.trans (HG.out.trans (GF7.out.trans hf)))
          clear hf hr2
          go_wp2
          go_ret
          exact ⟨by simp, HFE.out⟩
      · rw [if_neg (fun h => h0 h.1)] at hlw
        have HLW := Lib.hid hlw
        clear hlw
        have GF := Lib.hid (Fr.refl NoB w6)
        go_wp2_with fail
        refine (leaves_any T b _ (HT.out.keep0 GF.out) HLN.out).mono ?_
        rintro e x1 ⟨y1, rfl, hv, hf⟩
        obtain ⟨ya, yc, rfl, hyr, _⟩ := hv.shape
        have HY := Lib.hid hyr
        have GF1 := Lib.hid (GF.out.trans hf)
        have HWT1 := Lib.hid (HWT.out.keep0 GF1.out)
        clear hv hf hyr
        go_wp2_with fail
        refine (SameRoutes_any ya wa yc wc' (Tb.leaves T) (Tb.leaves T) _ HLN.out HLN.out HY.out HWT1.out).mono ?_
        rw [decide_eq_true (rfl : Tb.leaves T = Tb.leaves T)]
        rintro e x2 ⟨rfl, hf⟩
        have GF2 := Lib.hid (GF1.out.trans hf)
        clear hf
        go_wp2_with fail
        refine (size_any T b _ (HT.out.keep0 GF2.out) HLN.out).mono ?_
        rintro e x3 ⟨rfl, hf⟩
        have GF3 := Lib.hid (GF2.out.trans hf)
        clear hf
        go_wp2_with fail
        refine (TLook_any T b x _ (HT.out.keep0 GF3.out)).mono ?_
        rw [HLW.out]
        rintro e x4 ⟨rfl, hf⟩
        have GF4 := Lib.hid (GF3.out.trans hf)
        clear hf
        go_wp2_with fail
        refine (TSame_any t u v v' L M _ HL.out HM.out HWF.out HWM.out (HA3.out.at_.keep0 (HG.out.trans GF4.out)) (HB3.out.at_.keep0 (HG.out.trans GF4.out))).mono ?_
        rintro e x5 ⟨r1, rfl, hr1, hf⟩
        have GF5 := Lib.hid (GF4.out.trans hf)
        have HR1 := Lib.hid hr1
        clear hf hr1
        go_wp2_with fail
        refine (AllOf_any ra rc L _ HL.out (HA3.out.rs.keep0 (HG.out.trans GF5.out))).mono ?_
        rintro e x6 ⟨gA, rfl, _, hrA, hf⟩
        have GF6 := Lib.hid (GF5.out.trans hf)
        have rA := Lib.hid hrA
        clear hf hrA
        go_wp2_with fail
        refine (AllOf_any rb rd M _ HM.out (HB3.out.rs.keep0 (HG.out.trans GF6.out))).mono ?_
        rintro e x7 ⟨gB, rfl, _, hrB, hf⟩
        have GF7 := Lib.hid (GF6.out.trans hf)
        have rB := Lib.hid hrB
        have rA := Lib.hid (hf.row rA.out (fun h => h))
        clear hf hrB
        go_wp2_with fail
        refine (SameInts_fr (some ⟨gA, 0, none⟩) (some ⟨gB, 0, none⟩) 256 256 256 256 _ _ _ (by omega) (by omega) (Rd.row rA.out) (Rd.row rB.out)).mono ?_
        rintro e x8 ⟨r2, rfl, hr2, hf⟩
        have e12 : r1 = r2 := by
          rw [Bool.eq_iff_iff, HR1.out, hr2]
          exact ⟨fun h => ⟨rfl, fun k hk => (HLK.out k).trans ((h k hk).trans (HMK.out k).symm)⟩, fun h k hk => (HLK.out k).symm.trans ((h.2 k hk).trans (HMK.out k))⟩
        subst e12
        have HFE := Lib.hid (HF3.out.trans (HG.out.trans (GF7.out.trans hf)))
        clear hf hr2
        go_wp2
        go_ret
        exact ⟨by simp, HFE.out⟩

theorem TrieDoes_all (a0 : Option Addr) (n0 c0 : Nat) (X0 : Nat → Int) (a1 : Option Addr) (n1 c1 : Nat) (X1 : Nat → Int) (a2 : Int) (w : World) (r0 : Rd w a0 (n0 * 3) X0) (r1 : Rd w a1 (n1 * 3) X1) :
    Calls Try.prog 7 #[.slice a0 n0 c0, .slice a1 n1 c1, .int .i64 a2] w (TrueFr w) := by
  obtain ⟨S, rfl, hS⟩ := rs_of_rd r0
  obtain ⟨R, rfl, hR⟩ := rs_of_rd r1
  exact walk_any a0 a1 c0 c1 S R a2 w hS hR
end Go.Proofs.Ytglngngcohcmfaa.lawTrieDoes
