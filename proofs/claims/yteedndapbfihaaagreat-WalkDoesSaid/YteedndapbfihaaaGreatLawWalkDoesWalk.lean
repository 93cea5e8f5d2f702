/- The walk of WalkDoes. -/
import Derived.Test.YteedndapbfihaaaGreatB40
namespace Go.Proofs.YteedndapbfihaaaGreat
open Go.RowKit Go.Deep

set_option maxRecDepth 100000 in
set_option maxHeartbeats 8000000 in
theorem WalkDoes_main (a0 : Option Addr) (n0 c0 : Nat) (X0 : Nat → Int) (src x : Int) (small : Bool) (w : World) (hn0 : n0 ≤ 150) (r0 : Rd w a0 (n0 * 6) X0) :
    Calls Tryz.prog 7 #[.slice a0 n0 c0, .int .i64 src, .int .i64 x, .bool small] w (TrueFr w) := by
  have hnb : decide ((150 : Int) < (n0 : Int)) = false := by simp; omega
  have R0 := Lib.hid r0; clear r0
  go_enter Tryz.func7, Tryz.ntmps7
  go_wp2_with fail
  refine (walkBegun_true _).mono ?_
  rintro e w1 ⟨rfl, hf1⟩
  have HF1 := Lib.hid hf1; clear hf1
  go_wp2_with fail
  refine (posts_any a0 n0 c0 X0 _ (by omega) (Rd.keep R0.out HF1.out (fun _ _ h => h))).mono ?_
  rintro e w2 ⟨q, v, tv, y, u, al, rfl, h2⟩
  have hok := Fb.POk.runF Fb.POk.begun X0 n0
  have h3 : PTK w q v tv y u al (Fb.runF Fb.begunP X0 n0) w2 := ⟨h2.p.at_, h2.t.at_, HF1.out.trans h2.p.f⟩
  clear h2 HF1 R0
  generalize Fb.runF Fb.begunP X0 n0 = S at *
  have HOK := Lib.hid hok; clear hok; have H := Lib.hid h3; clear h3
  go_wp2_with fail
  refine (NewW small q v tv S _ _ HOK.out H.out.p).mono ?_
  rintro e w3 ⟨b, T, V, rfl, hw, hf, _⟩
  have H3 := Lib.hid (H.out.keep hf)
  have HW := Lib.hid hw; clear hw
  clear H hf
  have hlen := Wk.trip_len (Wk.hopA S.t (Tb.look S.o x)) S.t.C 7 [] 0 src
  have htg := fun (W : World) (h : TwAt W y u al S) => TGo_any y u al S _ small src x W HOK.out h
  have hwg := WGo_tab HOK.out HOK.out src x w3 HW.out H3.out.p
  unfold Wk.tripT at htg hwg
  generalize Wk.tripF (Wk.hopA S.t (Tb.look S.o x)) S.t.C 7 [] 0 src = R at *
  obtain ⟨l, co, e0⟩ := R
  dsimp only [List.length_nil] at hlen
  have HTG := Lib.hid htg; clear htg; have HWG := Lib.hid hwg; clear hwg; have HLEN := Lib.hid hlen; clear hlen
  go_wp2_with fail
  refine HWG.out.mono ?_
  rintro e w4 ⟨nv, rfl, hsl, hf⟩
  obtain ⟨al4, nc4, rfl, hr4, jj⟩ := hsl.rd
  have H4 := Lib.hid (H3.out.keep hf)
  clear H3 HW HWG hf hsl jj
  dsimp only
  have HR4 := Lib.hid hr4; clear hr4
  go_wp2_with fail
  refine (HTG.out _ H4.out.t).mono ?_
  rintro e w5 ⟨nv, rfl, hsl, hf⟩
  obtain ⟨al5, nc5, rfl, hr5, jj⟩ := hsl.rd
  have H5 := Lib.hid (H4.out.f.trans hf)
  have HR4' := Lib.hid (Rd.keep HR4.out hf (fun _ _ h => h))
  clear H4 HTG HR4 hf hsl jj
  dsimp only
  have HR5 := Lib.hid hr5; clear hr5
  go_wp2_with fail
  refine (sameTrip_any al4 al5 l.length nc4 nc5 (fun i => l.getD i 0) co e0 _ (by have := HLEN.out; omega) HR4'.out HR5.out).mono ?_
  rintro e w6 ⟨rfl, hf⟩
  have H6 := Lib.hid (H5.out.trans hf)
  clear H5 HR4' HR5 hf
  go_wp2
  go_ret
  exact ⟨rfl, H6.out⟩
set_option maxRecDepth 100000 in
set_option maxHeartbeats 2000000 in
theorem WalkDoes_all (a0 : Option Addr) (n0 c0 : Nat) (X0 : Nat → Int) (a1 a2 : Int) (a3 : Bool) (w : World) (r0 : Rd w a0 (n0 * 6) X0) :
    Calls Tryz.prog 7 #[.slice a0 n0 c0, .int .i64 a1, .int .i64 a2, .bool a3] w (TrueFr w) := by
  by_cases hn : n0 ≤ 150
  · exact WalkDoes_main a0 n0 c0 X0 a1 a2 a3 w hn r0
  · clear r0
    have hnb : decide ((150 : Int) < (n0 : Int)) = true := by simp; omega
    go_enter Tryz.func7, Tryz.ntmps7
    go_wp2_with fail
    refine (walkBegun_true _).mono ?_
    rintro e w1 ⟨rfl, hF⟩
    have HF := Lib.hid hF; clear hF
    go_wp2
    go_ret
    exact ⟨rfl, HF.out⟩
end Go.Proofs.YteedndapbfihaaaGreat
