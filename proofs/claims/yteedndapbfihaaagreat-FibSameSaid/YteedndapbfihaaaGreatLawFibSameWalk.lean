/- The walk of FibSame. -/
import Derived.Test.YteedndapbfihaaaGreatB39
import Derived.Test.YteedndapbfihaaaGreatB32
namespace Go.Proofs.YteedndapbfihaaaGreat
open Go.RowKit Go.Deep

set_option maxRecDepth 100000 in
set_option maxHeartbeats 8000000 in
theorem FibSame_main (a0 : Option Addr) (n0 c0 : Nat) (X0 : Nat → Int) (n : Nat) (x : Int) (w : World) (hn0 : n0 ≤ 150) (hn : n < 6) (r0 : Rd w a0 (n0 * 6) X0) :
    Calls Tryz.prog 6 #[.slice a0 n0 c0, .int .i64 n, .int .i64 x] w (TrueFr w) := by
  have hnb : decide ((150 : Int) < (n0 : Int)) = false := by simp; omega
  have R0 := Lib.hid r0; clear r0
  go_enter Tryz.func6, Tryz.ntmps6
  go_wp2_with fail
  refine (fibBegun_true _).mono ?_
  rintro e w1 ⟨rfl, hf1⟩
  have HF1 := Lib.hid hf1; clear hf1
  go_wp2_with fail
  refine (RNode_yes _ _ (by omega) (by omega)).mono ?_; rintro e w' ⟨rfl, rfl⟩
  go_wp2_with fail
  refine (posts_any a0 n0 c0 X0 _ (by omega) (Rd.keep R0.out HF1.out (fun _ _ h => h))).mono ?_
  rintro e w2 ⟨q, v, tv, y, u, al, rfl, h2⟩
  have hok := Fb.POk.runF Fb.POk.begun X0 n0
  have h3 : PK w q v tv (Fb.runF Fb.begunP X0 n0) w2 := ⟨h2.p.at_, HF1.out.trans h2.p.f⟩
  clear h2 HF1 R0
  generalize Fb.runF Fb.begunP X0 n0 = S at *
  have hsm := Fb.small_ok hok.str hn hok.o
  have hfw := Fb.full_wf hok.str hn hok.o
  have hfl : (Fb.full S.t S.o n).length ≤ 40 := by have := hok.o.len; rw [Fb.full_len]; exact this
  have hlk : Tb.look (Fb.small S.t S.o n) x = Tb.look (Fb.full S.t S.o n) x := (Fb.small_look hok.str hn hok.o x).trans (Fb.full_look hok.o n x).symm
  have HOK := Lib.hid hok; clear hok; have H := Lib.hid h3; clear h3
  go_wp2_with fail
  refine (PFull_any q v tv S n _ _ hn HOK.out H.out.at_).mono ?_
  rintro e w3 ⟨t3, v3, rfl, how⟩
  have h3 := H.out.keep how.f
  clear H
  have H := Lib.hid h3; clear h3; have HOW := Lib.hid how; clear how
  go_wp2_with fail
  refine (PSmall_any q v tv S n _ _ hn HOK.out H.out.at_).mono ?_
  rintro e w4 ⟨t4, v4, rfl, how4⟩
  have h3 := H.out.f.trans how4.f
  have hA := HOW.out.at_.keep0 how4.f
  have hB := how4.at_
  clear H HOW HOK how4
  generalize Fb.full S.t S.o n = A at *
  generalize Fb.small S.t S.o n = B at *
  have H := Lib.hid h3; clear h3; have HA := Lib.hid hA; clear hA; have HB := Lib.hid hB; clear hB; have HSM := Lib.hid hsm; clear hsm; have HFW := Lib.hid hfw; clear hfw; have HFL := Lib.hid hfl; clear hfl; have HLK := Lib.hid hlk; clear hlk
  go_wp2_with fail
  refine (TSame_any t3 t4 v3 v4 A B _ (by have := HFL.out; omega) (by have := HSM.out.2.2.1; omega) HFW.out HSM.out.1 HA.out HB.out).mono ?_
  rintro e w5 ⟨r, rfl, hr, hf⟩
  obtain rfl : r = true := hr.2 (fun m hm => Tb.look_of_all HSM.out.2.2.2.symm m)
  have h3 := H.out.trans hf
  have hA := HA.out.keep0 hf
  have hB := HB.out.keep0 hf
  clear H HA HB hr hf
  have H := Lib.hid h3; clear h3; have HA := Lib.hid hA; clear hA; have HB := Lib.hid hB; clear hB
  go_wp2_with fail
  refine (LookT_any t3 v3 A x _ (by have := HFL.out; omega) HA.out).mono ?_
  rintro e w6 ⟨rfl, hf⟩
  have h3 := H.out.trans hf
  have hA := HA.out.keep0 hf
  have hB := HB.out.keep0 hf
  clear H HA HB hf
  have H := Lib.hid h3; clear h3; have HA := Lib.hid hA; clear hA; have HB := Lib.hid hB; clear hB
  go_wp2_with fail
  refine (LookT_any t4 v4 B x _ (by have := HSM.out.2.2.1; omega) HB.out).mono ?_
  rw [HLK.out]
  rintro e w7 ⟨rfl, hf⟩
  have h3 := H.out.trans hf
  have hA := HA.out.keep0 hf
  have hB := HB.out.keep0 hf
  clear H HA HB hf
  have H := Lib.hid h3; clear h3; have HA := Lib.hid hA; clear hA; have HB := Lib.hid hB; clear hB
  have heq : (Tb.look A x == Tb.look A x) = true := by simp
  go_wp2_with fail
  refine (ListT_any t4 v4 B _ (by have := HSM.out.2.2.1; omega) HB.out).mono ?_
  rintro e w8 ⟨v8, rfl, hv, hf⟩
  obtain ⟨a8, c8, rfl, _⟩ := hv.shape
  have h3 := H.out.trans hf
  have hA := HA.out.keep0 hf
  clear H HA HB hf hv
  have H := Lib.hid h3; clear h3; have HA := Lib.hid hA; clear hA
  go_wp2_with fail
  refine (ListT_any t3 v3 A _ (by have := HFL.out; omega) HA.out).mono ?_
  rintro e w9 ⟨v9, rfl, hv, hf⟩
  obtain ⟨a9, c9, rfl, _⟩ := hv.shape
  have h3 := H.out.trans hf
  clear H HA hf hv
  have H := Lib.hid h3; clear h3
  have hle : decide (B.length ≤ A.length) = true := decide_eq_true HSM.out.2.1
  go_wp2
  go_ret
  exact ⟨rfl, H.out⟩
set_option maxRecDepth 100000 in
set_option maxHeartbeats 2000000 in
theorem FibSame_all (a0 : Option Addr) (n0 c0 : Nat) (X0 : Nat → Int) (a1 a2 : Int) (w : World) (r0 : Rd w a0 (n0 * 6) X0) :
    Calls Tryz.prog 6 #[.slice a0 n0 c0, .int .i64 a1, .int .i64 a2] w (TrueFr w) := by
  by_cases hn : n0 ≤ 150
  · by_cases hr : Nt.isN a1
    · obtain ⟨n, rfl⟩ := Int.eq_ofNat_of_zero_le hr.1
      exact FibSame_main a0 n0 c0 X0 n a2 w hn (by have := hr.2; omega) r0
    · clear r0
      have hnb : decide ((150 : Int) < (n0 : Int)) = false := by simp; omega
      have HR := Lib.hid hr; clear hr
      go_enter Tryz.func6, Tryz.ntmps6
      go_wp2_with fail
      refine (fibBegun_true _).mono ?_
      rintro e w1 ⟨rfl, hF⟩
      have HF := Lib.hid hF; clear hF
      go_wp2_with fail
      refine (RNode_no _ _ HR.out).mono ?_; rintro e w' ⟨rfl, rfl⟩
      go_wp2
      go_ret
      exact ⟨rfl, HF.out⟩
  · clear r0
    have hnb : decide ((150 : Int) < (n0 : Int)) = true := by simp; omega
    go_enter Tryz.func6, Tryz.ntmps6
    go_wp2_with fail
    refine (fibBegun_true _).mono ?_
    rintro e w1 ⟨rfl, hF⟩
    have HF := Lib.hid hF; clear hF
    go_wp2
    go_ret
    exact ⟨rfl, HF.out⟩
end Go.Proofs.YteedndapbfihaaaGreat
