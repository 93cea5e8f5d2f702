/- TrieLeast: the walk. -/
import Derived.Test.YtglngngcohcmfaaTr8
namespace Go.Proofs.Ytglngngcohcmfaa.lawTrieLeast
open Go.RowKit Go.Deep Go.Proofs.Ytglngngcohcmfaa

def RelN (R : List Tb.Rt) (x : Int) (w0 : World) (s i : Value) (wr : World) : Prop :=
  ∃ k : Nat, k ≤ R.length ∧ i = .int .i64 k ∧ s = .int .i64 (Tb.cnt (R.take k) x : Nat) ∧ Hid (Fr NoB w0 wr)
theorem cnt_le (R : List Tb.Rt) (x : Int) (k : Nat) : Tb.cnt (R.take k) x ≤ k := by
  unfold Tb.cnt
  refine Nat.le_trans List.countP_le_length ?_
  rw [List.length_take]
  omega
set_option maxRecDepth 100000 in
set_option maxHeartbeats 16000000 in
theorem walk_any (la ma : Option Addr) (lc mc : Nat) (S R : List Tb.Rt) (x : Int) (w : World) (hS : Rs w la S) (hR : Rs w ma R) :
    Calls Try.prog 8 #[.slice la S.length lc, .slice ma R.length mc, .int .i64 x] w (TrueFr w) := by
  by_cases h1 : 120 < S.length
  · have hb1 : (120 : Int) < (S.length : Int) := by omega
    clear h1
    go_enter Try.func8, Try.ntmps8
    go_wp2_with fail
    refine (trieBegun_true _).mono ?_
    rintro e w1 ⟨rfl, hf⟩
    have HF := Lib.hid hf
    clear hf
    go_wp2
    go_ret
    exact ⟨rfl, HF.out⟩
  · have hb1 : ¬ (120 : Int) < (S.length : Int) := by omega
    by_cases h2 : 120 < R.length
    · have hb2 : (120 : Int) < (R.length : Int) := by omega
      clear h1 h2
      go_enter Try.func8, Try.ntmps8
      go_wp2_with fail
      refine (trieBegun_true _).mono ?_
      rintro e w1 ⟨rfl, hf⟩
      have HF := Lib.hid hf
      clear hf
      go_wp2
      go_ret
      exact ⟨rfl, HF.out⟩
    · have hb2 : ¬ (120 : Int) < (R.length : Int) := by omega
      have HLR : Hid (R.length ≤ 1000) := by show R.length ≤ 1000; omega
      have HLS : Hid (S.length ≤ 1000) := by show S.length ≤ 1000; omega
      have HS := Lib.hid hS; clear hS; have HR := Lib.hid hR; clear hR
      clear h1 h2
      go_enter Try.func8, Try.ntmps8
      go_wp2_with fail
      refine (trieBegun_true _).mono ?_
      rintro e w1 ⟨rfl, hf⟩
      have HF := Lib.hid hf
      clear hf
      go_wp2_with fail
      refine (tables_any la lc S _ HLS.out (HS.out.keep0 HF.out)).mono ?_
      rintro e w2 ⟨t, v, ra, rc, rfl, h2⟩
      obtain ⟨hwf, h40⟩ := Tb.play_ok S
      generalize Tb.play S = L at *
      have HF2 := Lib.hid (HF.out.trans h2.f)
      have HA := Lib.hid h2
      have HWF := Lib.hid hwf
      have HL : Hid (L.length ≤ 1000) := by show L.length ≤ 1000; omega
      have HLK : Hid (∀ a : Int, (Tb.lookR L a).1 = Tb.look L a) := fun a => (Tb.look_both hwf a).1
      clear h2 hwf h40
      go_wp2_with fail
      refine (tables_any ma mc R _ HLR.out (HR.out.keep0 HF2.out)).mono ?_
      rintro e w3 ⟨u, v', rb, rd, rfl, h2⟩
      obtain ⟨hwf, h40⟩ := Tb.play_ok R
      generalize Tb.play R = M at *
      have HF3 := Lib.hid (HF2.out.trans h2.f)
      have HA3 := Lib.hid (HA.out.keep0 h2.f)
      have HB3 := Lib.hid h2
      have HWM := Lib.hid hwf
      have HM : Hid (M.length ≤ 1000) := by show M.length ≤ 1000; omega
      have HMK : Hid (∀ a : Int, (Tb.lookR M a).1 = Tb.look M a) := fun a => (Tb.look_both hwf a).1
      clear h2 hwf h40 HA HF HF2
      have hof := fun W (hW : Fr NoB w3 W) => TOf_any t v L W HL.out HWF.out (HA3.out.at_.keep0 hW)
      have hofM := fun W (hW : Fr NoB w3 W) => TOf_any u v' M W HM.out HWM.out (HB3.out.at_.keep0 hW)
      have hlv : Tb.lv 8 ⟨0, 0⟩ (Tb.allOf L) = Tb.leaves (Tb.mkT 8 ⟨0, 0⟩ (Tb.allOf L)) := (Tb.mkT_leaves 8 _ _ (fit1 L)).symm
      have hlvM : Tb.lv 8 ⟨0, 0⟩ (Tb.allOf M) = Tb.leaves (Tb.mkT 8 ⟨0, 0⟩ (Tb.allOf M)) := (Tb.mkT_leaves 8 _ _ (fit1 M)).symm
      have hln : (Tb.leaves (Tb.mkT 8 ⟨0, 0⟩ (Tb.allOf L))).length ≤ 1000 := by
        rw [← hlv]
        have := (lv_len 8 _ _ (fit1 L)).2
        rw [Tb.allOf_len] at this
        omega
      have hlnM : (Tb.leaves (Tb.mkT 8 ⟨0, 0⟩ (Tb.allOf M))).length ≤ 1000 := by
        rw [← hlvM]
        have := (lv_len 8 _ _ (fit1 M)).2
        rw [Tb.allOf_len] at this
        omega
      have hgd := Tb.good_mk 8 _ _ (fit1 L)
      have hgdM := Tb.good_mk 8 _ _ (fit1 M)
      have hsame : (∀ n : Nat, n < 256 → Tb.look L n = Tb.look M n) ↔ Tb.leaves (Tb.mkT 8 ⟨0, 0⟩ (Tb.allOf L)) = Tb.leaves (Tb.mkT 8 ⟨0, 0⟩ (Tb.allOf M)) := by
        constructor
        · intro h
          rw [Tb.allOf_ext h]
        · intro h n hn
          rw [← hlv, ← hlvM] at h
          have a1 := Tb.lv_look (fit1 L) hn
          have a2 := Tb.lv_look (fit1 M) hn
          rw [allOf_get L hn] at a1
          rw [allOf_get M hn] at a2
          rw [← a1, ← a2, h]
      have hcnt := Tb.chain_cnt (a := x) (Tb.lv_chain 8 _ _ (fit1 L))
      rw [Tb.fst00', Tb.lst00', hlv] at hcnt
      have hhop : ∀ r ∈ Tb.leaves (Tb.mkT 8 ⟨0, 0⟩ (Tb.allOf L)), Tb.has r.p x → r.hop = Tb.look L x ∧ 0 ≤ x ∧ x < 256 := by
        intro r hr ha
        rw [← hlv] at hr
        obtain ⟨h1, h2⟩ := Tb.lv_hop 8 _ _ (fit1 L) r hr x ha
        have hx := Tb.has_range h1
        obtain ⟨n, rfl⟩ := Int.eq_ofNat_of_zero_le hx.1
        refine ⟨?_, hx⟩
        rw [h2, Tb.fst00', Int.sub_zero, Int.toNat_natCast]
        exact allOf_get L (by omega)
      have hlw := lookW_all L x
      generalize Tb.mkT 8 ⟨0, 0⟩ (Tb.allOf L) = T at *
      generalize Tb.mkT 8 ⟨0, 0⟩ (Tb.allOf M) = U at *
      have HLN := Lib.hid hln
      have HLNM := Lib.hid hlnM
      have HOF := Lib.hid hof; clear hof; have HOFM := Lib.hid hofM; clear hofM; have HGD := Lib.hid hgd; clear hgd; have HGDM := Lib.hid hgdM; clear hgdM; have HSAME := Lib.hid hsame; clear hsame; have HCNT := Lib.hid hcnt; clear hcnt; have HHOP := Lib.hid hhop; clear hhop; have HLWA := Lib.hid hlw; clear hlw
      have hnl := HLN.out
      clear hlv hlvM hlnM hln
      go_wp2_with fail
      refine (HOF.out _ (Fr.refl _ _)).mono ?_
      rintro e w4 ⟨b, rfl, ht, hf⟩
      have HT4 := Lib.hid ht
      have HF4 := Lib.hid hf
      clear ht hf
      go_wp2_with fail
      refine (HOFM.out _ HF4.out).mono ?_
      rintro e w5 ⟨c, rfl, ht, hf⟩
      have HT5 := Lib.hid (HT4.out.keep0 hf)
      have HU5 := Lib.hid ht
      have HF5 := Lib.hid (HF4.out.trans hf)
      clear ht hf HT4 HOF HOFM
      go_wp2_with fail
      refine (wh_any T b 0 0 _ HT5.out HGD.out).mono ?_
      rintro e w6 ⟨rfl, hf⟩
      have HF6 := Lib.hid hf
      clear hf
      go_wp2_with fail
      refine (wh_any U c 0 0 _ (HU5.out.keep0 HF6.out) HGDM.out).mono ?_
      rintro e w7 ⟨rfl, hf⟩
      have HF7 := Lib.hid (HF6.out.trans hf)
      clear hf
      go_wp2_with fail
      refine (TSame_any t u v v' L M _ HL.out HM.out HWF.out HWM.out (HA3.out.at_.keep0 (HF5.out.trans HF7.out)) (HB3.out.at_.keep0 (HF5.out.trans HF7.out))).mono ?_
      rintro e w8 ⟨r1, rfl, hr1, hf⟩
      have HF8 := Lib.hid (HF7.out.trans hf)
      have HR1 := Lib.hid hr1
      clear hf hr1
      go_wp2_with fail
      refine (leaves_any T b _ (HT5.out.keep0 HF8.out) HLN.out).mono ?_
      rintro e w9 ⟨y1, rfl, hv, hf⟩
      obtain ⟨ya, yc, rfl, hyr, _⟩ := hv.shape
      have HY := Lib.hid hyr
      have HF9 := Lib.hid (HF8.out.trans hf)
      clear hv hf hyr
      go_wp2_with fail
      refine (leaves_any U c _ (HU5.out.keep0 HF9.out) HLNM.out).mono ?_
      rintro e w10 ⟨y2, rfl, hv, hf⟩
      obtain ⟨za, zc, rfl, hzr, _⟩ := hv.shape
      have HZ := Lib.hid hzr
      have HY2 := Lib.hid (HY.out.keep0 hf)
      have HF10 := Lib.hid (HF9.out.trans hf)
      clear hv hf hzr HY
      go_wp2_with fail
      refine (SameRoutes_any ya za yc zc (Tb.leaves T) (Tb.leaves U) _ HLN.out HLNM.out HY2.out HZ.out).mono ?_
      have er : decide (Tb.leaves T = Tb.leaves U) = r1 := by
        rw [Bool.eq_iff_iff, decide_eq_true_eq, HR1.out]
        exact HSAME.out.symm
      rw [er]
      rintro e w11 ⟨rfl, hf⟩
      have HF11 := Lib.hid (HF10.out.trans hf)
      have hbb : (r1 != r1) = false := by cases r1 <;> rfl
      clear hf er HY2 HZ
      go_wp2_with fail
      refine (leaves_any T b _ (HT5.out.keep0 HF11.out) HLN.out).mono ?_
      rintro e w12 ⟨y3, rfl, hv, hf⟩
      obtain ⟨xa, xc, rfl, hyr, _⟩ := hv.shape
      have HX := Lib.hid hyr
      have HTX := Lib.hid (HT5.out.keep0 (HF11.out.trans hf))
      have HF12 := Lib.hid (HF5.out.trans (HF11.out.trans hf))
      have ha12 := HA3.out.at_.keep0 HF12.out
      obtain ⟨ta, tc, rfl, htr, _, htc⟩ := ha12.shape
      have HTR := Lib.hid htr
      have HTC := Lib.hid htc
      clear hv hf hyr ha12 htr htc HT5 HU5
      generalize hlk : Tb.look L x = hv at *
      have HV := Lib.hid hlk
      clear hlk
      go_wp2
      go_loopw [16, 17] (fun s i wr => RelN (Tb.leaves T) x w12 s i wr) (fun _ i _ => (Tb.leaves T).length - (intOf i).toNat)
      case atStart => exact ⟨0, by omega, rfl, by rw [List.take_zero]; rfl, Fr.refl _ _⟩
      case round =>
        obtain ⟨k, hk, rfl, rfl, hf⟩ := hrel
        have hcl := cnt_le (Tb.leaves T) x k
        by_cases hkk : k < (Tb.leaves T).length
        · obtain ⟨b0, o0, rfl, c0, c1, c2⟩ := (HX.out.keep0 hf.out) k hkk
          have hsn := Tb.cnt_snoc (a := x) hkk
          have hmem := Tb.nth_mem hkk
          have hhk := HHOP.out _ hmem
          generalize hr : Tb.nth (Tb.leaves T) k = r at *
          obtain ⟨⟨l, bb⟩, h⟩ := r
          dsimp only at c0 c1 c2 hsn hhk
          have hki : (k : Int) < ((Tb.leaves T).length : Int) := by omega
          generalize hcn : Tb.cnt ((Tb.leaves T).take k) x = cn at *
          clear hr hcn hmem
          by_cases hh : Tb.has ⟨l, bb⟩ x
          · have hd := decide_eq_true hh
            rw [if_pos hh] at hsn
            obtain ⟨hq1, hq2⟩ := hhk hh
            have hlw := HLWA.out
            rw [if_pos hq2] at hlw
            subst hq1
            have HLW := Lib.hid hlw
            have hne : (h != h) = false := by simp
            have HSN := Lib.hid hsn
            have HD := Lib.hid hd; clear hd; have HH := Lib.hid hh; clear hh
            clear hsn hlw hhk hq2
            go_wp2_with fail
            refine (RHas_any _ _ _ _).mono ?_
            rw [HD.out]
            rintro e w13 ⟨rfl, hf2⟩
            have c2 := cell_fr' hf2 c2 (fun h => h)
            have HF13 := Lib.hid (hf.out.trans hf2)
            clear hf2 c0 c1
            go_upto_region 19 with fail
            have GF := Lib.hid (HF13.out.drew)
            (refine wp_region_held_drew (S := (fun W => W.cell? ⟨b0, o0 + k * 3 + 2, none⟩ = some (.int .i64 h))) (by kernel_rfl) c2 (fun hHeld => ?_))
            (refine wpAnyH_take (i := 0) (v := ?_) (by simp only [List.getElem?_toArray, List.getElem?_cons_zero]; rfl) (by kernel_rfl) (by kernel_rfl) (by kernel_rfl) (by exact fun _ _ _ h => h) (Or.inl ⟨by rfl, ?_⟩) hHeld ?_; rotate_left; (focus (intro w hSw; (try dsimp only at hSw); go_simp; all_goals with_reducible rfl)); (try simp only [Act.put, List.setIfInBounds_toArray, List.set_cons_zero, List.set_cons_succ])); (refine wpAnyH_take (i := 1) (v := ?_) (by simp only [List.getElem?_toArray, List.getElem?_cons_succ, List.getElem?_cons_zero]; rfl) (by kernel_rfl) (by kernel_rfl) (by kernel_rfl) (by exact fun _ _ _ h => h) (Or.inl ⟨by rfl, ?_⟩) hHeld ?_; rotate_left; (focus (intro w hSw; (try dsimp only at hSw); go_simp; all_goals with_reducible rfl)); (try simp only [Act.put, List.setIfInBounds_toArray, List.set_cons_zero, List.set_cons_succ])); (refine wpAnyH_take (i := 2) (v := ?_) (by simp only [List.getElem?_toArray, List.getElem?_cons_succ, List.getElem?_cons_zero]; rfl) (by kernel_rfl) (by kernel_rfl) (by kernel_rfl) (by exact fun _ _ _ h => h) (Or.inl ⟨by rfl, ?_⟩) hHeld ?_; rotate_left; (focus (intro w hSw; (try dsimp only at hSw); go_simp; all_goals with_reducible rfl)); (try simp only [Act.put, List.setIfInBounds_toArray, List.set_cons_zero, List.set_cons_succ])); (refine wpAnyH_take (i := 3) (v := ?_) (by simp only [List.getElem?_toArray, List.getElem?_cons_succ, List.getElem?_cons_zero]; rfl) (by kernel_rfl) (by kernel_rfl) (by kernel_rfl) (by exact fun _ _ _ h => h) (Or.inl ⟨by rfl, ?_⟩) hHeld ?_; rotate_left; (focus (intro w hSw; (try dsimp only at hSw); go_simp; all_goals with_reducible rfl)); (try simp only [Act.put, List.setIfInBounds_toArray, List.set_cons_zero, List.set_cons_succ])); (refine wpAnyH_take (i := 4) (v := ?_) (by simp only [List.getElem?_toArray, List.getElem?_cons_succ, List.getElem?_cons_zero]; rfl) (by kernel_rfl) (by kernel_rfl) (by kernel_rfl) (by exact fun _ _ _ h => h) (Or.inl ⟨by rfl, ?_⟩) hHeld ?_; rotate_left; (focus (intro w hSw; (try dsimp only at hSw); go_simp; all_goals with_reducible rfl)); (try simp only [Act.put, List.setIfInBounds_toArray, List.set_cons_zero, List.set_cons_succ])); (refine wpAnyH_take (i := 5) (v := ?_) (by simp only [List.getElem?_toArray, List.getElem?_cons_succ, List.getElem?_cons_zero]; rfl) (by kernel_rfl) (by kernel_rfl) (by kernel_rfl) (by exact fun _ _ _ h => h) (Or.inl ⟨by rfl, ?_⟩) hHeld ?_; rotate_left; (focus (intro w hSw; (try dsimp only at hSw); go_simp; all_goals with_reducible rfl)); (try simp only [Act.put, List.setIfInBounds_toArray, List.set_cons_zero, List.set_cons_succ])); (refine wpAnyH_take (i := 6) (v := ?_) (by simp only [List.getElem?_toArray, List.getElem?_cons_succ, List.getElem?_cons_zero]; rfl) (by kernel_rfl) (by kernel_rfl) (by kernel_rfl) (by exact fun _ _ _ h => h) (Or.inl ⟨by rfl, ?_⟩) hHeld ?_; rotate_left; (focus (intro w hSw; (try dsimp only at hSw); go_simp; all_goals with_reducible rfl)); (try simp only [Act.put, List.setIfInBounds_toArray, List.set_cons_zero, List.set_cons_succ]))
            (refine wpAnyH_ready (rs := [7]) (by kernel_rfl) (by simp) ?_; refine AllReadyH.cons (by simp only [List.getElem?_toArray, List.getElem?_cons_succ, List.getElem?_cons_zero]; rfl) (fun K hK => ?_) AllReadyH.nil; go_simp); (refine (TLook_any T b x _ (HTX.out.keep0 GF.out)).mono ?_; rw [HLW.out]; rintro e z1 ⟨rfl, hf2⟩; replace c2 := cell_fr' hf2 c2 (fun h => h); have GF1 := Lib.hid (GF.out.trans hf2); clear hf2); (try go_wp2_with fail); (refine hK.out _ _ c2 (fun hHeld => ?_)); clear hK K; (try simp only [Act.put, List.setIfInBounds_toArray, List.set_cons_zero, List.set_cons_succ])
            (refine wpAnyH_take (i := 8) (v := ?_) (by simp only [List.getElem?_toArray, List.getElem?_cons_succ, List.getElem?_cons_zero]; rfl) (by kernel_rfl) (by kernel_rfl) (by kernel_rfl) (by exact fun _ _ _ h => h) (Or.inl ⟨by rfl, ?_⟩) hHeld ?_; rotate_left; (focus (intro w hSw; (try dsimp only at hSw); go_simp; all_goals with_reducible rfl)); (try simp only [Act.put, List.setIfInBounds_toArray, List.set_cons_zero, List.set_cons_succ])); (refine wpAnyH_take (i := 9) (v := ?_) (by simp only [List.getElem?_toArray, List.getElem?_cons_succ, List.getElem?_cons_zero]; rfl) (by kernel_rfl) (by kernel_rfl) (by kernel_rfl) (by exact fun _ _ _ h => h) (Or.inl ⟨by rfl, ?_⟩) hHeld ?_; rotate_left; (focus (intro w hSw; (try dsimp only at hSw); go_simp; all_goals with_reducible rfl)); (try simp only [Act.put, List.setIfInBounds_toArray, List.set_cons_zero, List.set_cons_succ])); (refine wpAnyH_take (i := 10) (v := ?_) (by simp only [List.getElem?_toArray, List.getElem?_cons_succ, List.getElem?_cons_zero]; rfl) (by kernel_rfl) (by kernel_rfl) (by kernel_rfl) (by exact fun _ _ _ h => h) (Or.inl ⟨by rfl, ?_⟩) hHeld ?_; rotate_left; (focus (intro w hSw; (try dsimp only at hSw); go_simp; all_goals with_reducible rfl)); (try simp only [Act.put, List.setIfInBounds_toArray, List.set_cons_zero, List.set_cons_succ])); (refine wpAnyH_take (i := 11) (v := ?_) (by simp only [List.getElem?_toArray, List.getElem?_cons_succ, List.getElem?_cons_zero]; rfl) (by kernel_rfl) (by kernel_rfl) (by kernel_rfl) (by exact fun _ _ _ h => h) (Or.inl ⟨by rfl, ?_⟩) hHeld ?_; rotate_left; (focus (intro w hSw; (try dsimp only at hSw); go_simp; all_goals with_reducible rfl)); (try simp only [Act.put, List.setIfInBounds_toArray, List.set_cons_zero, List.set_cons_succ])); (refine wpAnyH_take (i := 13) (v := ?_) (by simp only [List.getElem?_toArray, List.getElem?_cons_succ, List.getElem?_cons_zero]; rfl) (by kernel_rfl) (by kernel_rfl) (by kernel_rfl) (by exact fun _ _ _ h => h) (Or.inl ⟨by rfl, ?_⟩) hHeld ?_; rotate_left; (focus (intro w hSw; (try dsimp only at hSw); go_simp; all_goals with_reducible rfl)); (try simp only [Act.put, List.setIfInBounds_toArray, List.set_cons_zero, List.set_cons_succ])); (refine wpAnyH_take (i := 14) (v := ?_) (by simp only [List.getElem?_toArray, List.getElem?_cons_succ, List.getElem?_cons_zero]; rfl) (by kernel_rfl) (by kernel_rfl) (by kernel_rfl) (by exact fun _ _ _ h => h) (Or.inl ⟨by rfl, ?_⟩) hHeld ?_; rotate_left; (focus (intro w hSw; (try dsimp only at hSw); go_simp; all_goals with_reducible rfl)); (try simp only [Act.put, List.setIfInBounds_toArray, List.set_cons_zero, List.set_cons_succ]))
            (refine wpAnyH_ready (rs := [12]) (by kernel_rfl) (by simp) ?_; refine AllReadyH.cons (by simp only [List.getElem?_toArray, List.getElem?_cons_succ, List.getElem?_cons_zero]; rfl) (fun K hK => ?_) AllReadyH.nil; go_simp); (refine (Look_any t ta tc L x _ HL.out (HTR.out.keep0 GF1.out) (cell_fr' GF1.out HTC.out (fun h => h))).mono ?_; rw [HV.out]; rintro e z2 ⟨rfl, hf2⟩; replace c2 := cell_fr' hf2 c2 (fun h => h); have GF2 := Lib.hid (GF1.out.trans hf2); clear hf2); (try go_wp2_with fail); (refine hK.out _ _ c2 (fun hHeld => ?_)); clear hK K; (try simp only [Act.put, List.setIfInBounds_toArray, List.set_cons_zero, List.set_cons_succ])
            (refine wpAnyH_ready (rs := [15]) (by kernel_rfl) (by simp) ?_; refine AllReadyH.cons (by simp only [List.getElem?_toArray, List.getElem?_cons_succ, List.getElem?_cons_zero]; rfl) (fun K hK => ?_) AllReadyH.nil; go_simp); (refine (TLook_any T b x _ (HTX.out.keep0 GF2.out)).mono ?_; rw [HLW.out]; rintro e z3 ⟨rfl, hf2⟩; replace c2 := cell_fr' hf2 c2 (fun h => h); have GF3 := Lib.hid (GF2.out.trans hf2); clear hf2); (try go_wp2_with fail); (refine hK.out _ _ c2 (fun hHeld => ?_)); clear hK K; (try simp only [Act.put, List.setIfInBounds_toArray, List.set_cons_zero, List.set_cons_succ])
            (refine wpAnyH_take (i := 16) (v := ?_) (by simp only [List.getElem?_toArray, List.getElem?_cons_succ, List.getElem?_cons_zero]; rfl) (by kernel_rfl) (by kernel_rfl) (by kernel_rfl) (by exact fun _ _ _ h => h) (Or.inl ⟨by rfl, ?_⟩) hHeld ?_; rotate_left; (focus (intro w hSw; (try dsimp only at hSw); go_simp; all_goals with_reducible rfl)); (try simp only [Act.put, List.setIfInBounds_toArray, List.set_cons_zero, List.set_cons_succ])); (refine wpAnyH_take (i := 17) (v := ?_) (by simp only [List.getElem?_toArray, List.getElem?_cons_succ, List.getElem?_cons_zero]; rfl) (by kernel_rfl) (by kernel_rfl) (by kernel_rfl) (by exact fun _ _ _ h => h) (Or.inl ⟨by rfl, ?_⟩) hHeld ?_; rotate_left; (focus (intro w hSw; (try dsimp only at hSw); go_simp; all_goals with_reducible rfl)); (try simp only [Act.put, List.setIfInBounds_toArray, List.set_cons_zero, List.set_cons_succ]))
            (refine wpAnyH_done (by kernel_rfl) ?_ _)
            go_wp2
            go_roundw
            case rel => exact ⟨k + 1, by omega, by go_num, by rw [HSN.out]; go_num, GF3.out⟩
            case measure => simp [intOf]; omega
          · have hd := decide_eq_false hh
            rw [if_neg hh] at hsn
            have HSN := Lib.hid hsn
            have HD := Lib.hid hd; clear hd; have HH := Lib.hid hh; clear hh
            clear hsn hhk
            go_wp2_with fail
            refine (RHas_any _ _ _ _).mono ?_
            rw [HD.out]
            rintro e w13 ⟨rfl, hf2⟩
            have HF13 := Lib.hid (hf.out.trans hf2)
            clear hf2
            go_wp2
            go_roundw
            case rel => exact ⟨k + 1, by omega, by go_num, by rw [HSN.out]; rfl, HF13.out⟩
            case measure => simp [intOf]; omega
        · have e : (Tb.leaves T).take k = Tb.leaves T := List.take_of_length_le (by omega)
          have hcx := HCNT.out
          rw [e]
          have HFE := Lib.hid (HF3.out.trans (HF12.out.trans hf.out))
          by_cases h0 : 0 ≤ x
          · by_cases h6 : x < 256
            · rw [if_pos ⟨h0, h6⟩] at hcx
              rw [hcx]
              clear hcx e hcl
              go_wp2
              go_ret
              exact ⟨rfl, HFE.out⟩
            · rw [if_neg (fun h => h6 h.2)] at hcx
              rw [hcx]
              clear hcx e hcl
              go_wp2
              go_ret
              exact ⟨rfl, HFE.out⟩
          · rw [if_neg (fun h => h0 h.1)] at hcx
            rw [hcx]
            clear hcx e hcl
            go_wp2
            go_ret
            exact ⟨rfl, HFE.out⟩

theorem TrieLeast_all (a0 : Option Addr) (n0 c0 : Nat) (X0 : Nat → Int) (a1 : Option Addr) (n1 c1 : Nat) (X1 : Nat → Int) (a2 : Int) (w : World) (r0 : Rd w a0 (n0 * 3) X0) (r1 : Rd w a1 (n1 * 3) X1) :
    Calls Try.prog 8 #[.slice a0 n0 c0, .slice a1 n1 c1, .int .i64 a2] w (TrueFr w) := by
  obtain ⟨S, rfl, hS⟩ := rs_of_rd r0
  obtain ⟨R, rfl, hR⟩ := rs_of_rd r1
  exact walk_any a0 a1 c0 c1 S R a2 w hS hR
end Go.Proofs.Ytglngngcohcmfaa.lawTrieLeast
