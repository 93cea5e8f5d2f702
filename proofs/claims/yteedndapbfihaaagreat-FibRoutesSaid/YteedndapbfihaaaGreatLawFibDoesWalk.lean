/- The walk of FibDoes. -/
import Derived.Test.YteedndapbfihaaaGreatB39
namespace Go.Proofs.YteedndapbfihaaaGreat
open Go.RowKit Go.Deep

set_option maxRecDepth 100000 in
set_option maxHeartbeats 8000000 in
theorem FibDoes_main (a0 : Option Addr) (n0 c0 : Nat) (X0 : Nat → Int) (n x : Int) (w : World) (hn0 : n0 ≤ 150) (r0 : Rd w a0 (n0 * 6) X0) :
    Calls Tryz.prog 3 #[.slice a0 n0 c0, .int .i64 n, .int .i64 x] w (TrueFr w) := by
  have hnb : decide ((150 : Int) < (n0 : Int)) = false := by simp; omega
  have R0 := Lib.hid r0; clear r0
  go_enter Tryz.func3, Tryz.ntmps3
  go_wp2_with fail
  refine (fibBegun_true _).mono ?_
  rintro e w1 ⟨rfl, hf1⟩
  have HF1 := Lib.hid hf1; clear hf1
  go_wp2_with fail
  refine (posts_any a0 n0 c0 X0 _ (by omega) (Rd.keep R0.out HF1.out (fun _ _ h => h))).mono ?_
  rintro e w2 ⟨q, v, tv, y, u, al, rfl, h2⟩
  have hok := Fb.POk.runF Fb.POk.begun X0 n0
  have h3 : PTK w q v tv y u al (Fb.runF Fb.begunP X0 n0) w2 := ⟨h2.p.at_, h2.t.at_, HF1.out.trans h2.p.f⟩
  clear h2 HF1 R0
  generalize Fb.runF Fb.begunP X0 n0 = S at *
  have c43 := h3.t.c43
  obtain ⟨c, hc⟩ := h3.t.own
  rw [hc] at c43
  clear hc
  have hxx : (Tb.look S.o x != Tb.look S.o x) = false := by simp
  have HOK := Lib.hid hok; clear hok; have H := Lib.hid h3; clear h3
  go_wp2_with fail
  go_region_held3 (fun W => W.cell? ⟨y.b, 43, none⟩ = some (.slice al S.o.length c))
    (first | exact c43 | exact d43 | exact e43 | exact f43 | exact g43)
    (first | (go_at_call 15; refine (Owners_any q v tv S _ HOK.out.o.len (by exact (H.out.keep (Fr.refl _ _).drew).p)).mono ?_; rintro e w3 ⟨v3, rfl, hv, hf⟩; have hf := (Fr.refl NoB w2).drew.trans hf; have d43 := cell_fr' hf c43 (fun h => h); have h3 := H.out.keep hf; obtain ⟨a3, c3, rfl, hr3, _⟩ := hv.shape; have HR3 := Lib.hid hr3; have H3 := Lib.hid h3; clear hv hf h3 hr3) | (go_at_call 14; refine (SameRt_self a3 al c3 c S.o _ (by have := HOK.out.o.len; omega) HR3.out H3.out.t.rs).mono ?_; rintro e w4 ⟨rfl, hf⟩; have e43 := cell_fr' hf d43 (fun h => h); have H4 := Lib.hid (H3.out.keep hf); clear hf) | (go_at_call 16; refine (Owner_any q v tv S x _ HOK.out.o.len H4.out.p).mono ?_; rintro e w5 ⟨rfl, hf⟩; have f43 := cell_fr' hf e43 (fun h => h); have H5 := Lib.hid (H4.out.keep hf); clear hf) | (go_at_call 17; refine (RLook_wf al c S.o x _ (by have := HOK.out.o.len; omega) HOK.out.o.wf H5.out.t.rs).mono ?_; rintro e w6 ⟨rfl, hf⟩; have g43 := cell_fr' hf f43 (fun h => h); have H6 := Lib.hid (H5.out.keep hf); clear hf))
  clear c43 d43 e43 f43 g43 H H3 H4 H5 HR3
  by_cases hr : Nt.isN n
  · obtain ⟨k, rfl⟩ := Int.eq_ofNat_of_zero_le hr.1
    have hk : k < 6 := by have := hr.2; omega
    have hsm := Fb.small_ok HOK.out.str hk HOK.out.o
    have hfl : (Fb.full S.t S.o k).length ≤ 40 := by have := HOK.out.o.len; rw [Fb.full_len]; exact this
    clear hr
    have HSM := Lib.hid hsm; clear hsm; have HFL := Lib.hid hfl; clear hfl
    go_wp2_with fail
    refine (PFull_any q v tv S k _ _ hk HOK.out H6.out.p).mono ?_
    rintro e w7 ⟨t7, v7, rfl, how7⟩
    have H7 := Lib.hid (H6.out.keep how7.f)
    have HA := Lib.hid how7.at_
    clear H6 how7
    go_wp2_with fail
    refine (PSmall_any q v tv S k _ _ hk HOK.out H7.out.p).mono ?_
    rintro e w8 ⟨t8, v8, rfl, how8⟩
    have H8 := Lib.hid (H7.out.keep how8.f)
    have HA8 := Lib.hid (HA.out.keep0 how8.f)
    have HB := Lib.hid how8.at_
    clear H7 HA how8
    go_wp2_with fail
    refine (RNode_yes _ _ (by omega) (by omega)).mono ?_; rintro e w' ⟨rfl, rfl⟩
    go_wp2_with fail
    refine (ListT_any t7 v7 _ _ (by have := HFL.out; omega) HA8.out).mono ?_
    rintro e w9 ⟨v9, rfl, hv, hf⟩
    obtain ⟨a9, c9, rfl, hr9, _⟩ := hv.shape
    have H9 := Lib.hid (H8.out.keep hf)
    have HB9 := Lib.hid (HB.out.keep0 hf)
    have HR9 := Lib.hid hr9
    clear H8 HA8 HB hv hf hr9
    go_wp2_with fail
    refine (TFull_any y u al S k _ hk HOK.out.o.len H9.out.t).mono ?_
    rintro e w10 ⟨v10, rfl, hv, hf⟩
    obtain ⟨a10, c10, rfl, hr10, _⟩ := hv.shape
    have H10 := Lib.hid (H9.out.keep hf)
    have HB10 := Lib.hid (HB9.out.keep0 hf)
    have HR9' := Lib.hid (HR9.out.keep0 hf)
    have HR10 := Lib.hid hr10
    clear H9 HB9 HR9 hv hf hr10
    go_wp2_with fail
    refine (SameRt_self a9 a10 c9 c10 _ _ (by have := HFL.out; omega) HR9'.out HR10.out).mono ?_
    rintro e w11 ⟨rfl, hf⟩
    have H11 := Lib.hid (H10.out.keep hf)
    have HB11 := Lib.hid (HB10.out.keep0 hf)
    clear H10 HB10 HR9' HR10 hf
    go_wp2_with fail
    refine (ListT_any t8 v8 _ _ (by have := HSM.out.2.2.1; omega) HB11.out).mono ?_
    rintro e w12 ⟨v12, rfl, hv, hf⟩
    obtain ⟨a12, c12, rfl, hr12, _⟩ := hv.shape
    have H12 := Lib.hid (H11.out.keep hf)
    have HR12 := Lib.hid hr12
    clear H11 HB11 hv hf hr12
    go_wp2_with fail
    refine (TSmall_any y u al S k _ _ hk HOK.out H12.out.t).mono ?_
    rintro e w13 ⟨v13, rfl, hv, hf⟩
    obtain ⟨a13, c13, rfl, hr13, _⟩ := hv.shape
    have H13 := Lib.hid (H12.out.keep hf)
    have HR12' := Lib.hid (HR12.out.keep0 hf)
    have HR13 := Lib.hid hr13
    clear H12 HR12 hv hf hr13
    go_wp2_with fail
    refine (SameRt_self a12 a13 c12 c13 _ _ (by have := HSM.out.2.2.1; omega) HR12'.out HR13.out).mono ?_
    rintro e w14 ⟨rfl, hf⟩
    have H14 := Lib.hid (H13.out.f.trans hf)
    clear H13 HR12' HR13 hf
    go_wp2
    go_ret
    exact ⟨rfl, H14.out⟩
  · have HR := Lib.hid hr; clear hr
    go_wp2_with fail
    refine (PFull_no q n _ HR.out).mono ?_; rintro e w' ⟨rfl, rfl⟩
    go_wp2_with fail
    refine (PSmall_no q n _ HR.out).mono ?_; rintro e w' ⟨rfl, rfl⟩
    go_wp2_with fail
    refine (RNode_no _ _ HR.out).mono ?_; rintro e w' ⟨rfl, rfl⟩
    go_wp2
    go_ret
    exact ⟨rfl, H6.out.f⟩
set_option maxRecDepth 100000 in
set_option maxHeartbeats 2000000 in
theorem FibDoes_all (a0 : Option Addr) (n0 c0 : Nat) (X0 : Nat → Int) (a1 a2 : Int) (w : World) (r0 : Rd w a0 (n0 * 6) X0) :
    Calls Tryz.prog 3 #[.slice a0 n0 c0, .int .i64 a1, .int .i64 a2] w (TrueFr w) := by
  by_cases hn : n0 ≤ 150
  · exact FibDoes_main a0 n0 c0 X0 a1 a2 w hn r0
  · clear r0
    have hnb : decide ((150 : Int) < (n0 : Int)) = true := by simp; omega
    go_enter Tryz.func3, Tryz.ntmps3
    go_wp2_with fail
    refine (fibBegun_true _).mono ?_
    rintro e w1 ⟨rfl, hF⟩
    have HF := Lib.hid hF; clear hF
    go_wp2
    go_ret
    exact ⟨rfl, HF.out⟩
end Go.Proofs.YteedndapbfihaaaGreat
