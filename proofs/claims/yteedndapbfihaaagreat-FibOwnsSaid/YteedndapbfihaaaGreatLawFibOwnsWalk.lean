/- The walk of FibOwns. -/
import Derived.Test.YteedndapbfihaaaGreatB39
namespace Go.Proofs.YteedndapbfihaaaGreat
open Go.RowKit Go.Deep

set_option maxRecDepth 100000 in
set_option maxHeartbeats 8000000 in
theorem FibOwns_main (a0 : Option Addr) (n0 c0 : Nat) (X0 : Nat → Int) (n : Nat) (x : Int) (w : World) (hn0 : n0 ≤ 150) (hn : n < 6) (r0 : Rd w a0 (n0 * 6) X0) :
    Calls Tryz.prog 4 #[.slice a0 n0 c0, .int .i64 n, .int .i64 x] w (TrueFr w) := by
  have hnb : decide ((150 : Int) < (n0 : Int)) = false := by simp; omega
  have hfd := fieldHop
  have R0 := Lib.hid r0; clear r0
  go_enter Tryz.func4, Tryz.ntmps4
  go_wp2_with fail
  refine (fibBegun_true _).mono ?_
  rintro e w1 ⟨rfl, hf1⟩
  have HF1 := Lib.hid hf1; clear hf1
  go_wp2_with fail
  refine (RNode_yes _ _ (by omega) (by omega)).mono ?_; rintro e w' ⟨rfl, rfl⟩
  go_wp2_with fail
  refine (posts_any a0 n0 c0 X0 _ (by omega) (Rd.keep R0.out HF1.out (fun _ _ h => h))).mono ?_
  rintro e w2 ⟨q, v, tv, y, u, al, rfl, h2⟩
  have hok := Fb.POk.runF Fb.POk.begun X0 n0
  have h3 : PK w q v tv (Fb.runF Fb.begunP X0 n0) w2 := ⟨h2.p.at_, HF1.out.trans h2.p.f⟩
  clear h2 HF1 R0
  generalize Fb.runF Fb.begunP X0 n0 = S at *
  have HOK := Lib.hid hok; clear hok; have H := Lib.hid h3; clear h3
  go_wp2_with fail
  refine (PSmall_any q v tv S n _ _ hn HOK.out H.out.at_).mono ?_
  rintro e w3 ⟨t3, v3, rfl, how⟩
  have h3 := H.out.keep how.f
  clear H
  have H := Lib.hid h3; clear h3; have HOW := Lib.hid how; clear how
  go_wp2_with fail
  refine (LookT_any t3 v3 _ x _ (by have := (Fb.small_ok HOK.out.str hn HOK.out.o).2.2.1; omega) HOW.out.at_).mono ?_
  rw [Fb.small_look HOK.out.str hn HOK.out.o]
  rintro e w4 ⟨rfl, hf⟩
  have h3 := H.out.keep hf
  clear H HOW hf
  have H := Lib.hid h3; clear h3
  go_wp2_with fail
  refine (Owner_any q v tv S x _ HOK.out.o.len H.out.at_).mono ?_
  rintro e w5 ⟨rfl, hf⟩
  have h3 := H.out.keep hf
  have hVO : (Tb.look S.o x = -1 ∧ Fb.via S.t (Tb.look S.o x) n = -1) ∨ (Tb.look S.o x ≠ -1 ∧ Fb.via S.t (Tb.look S.o x) n = hopT S.t (Tb.look S.o x) n ∧ (Fb.via S.t (Tb.look S.o x) n = n ↔ Tb.look S.o x = n)) := by
    rcases Fb.owner_cases HOK.out.o x with e | e
    · exact .inl ⟨e, by rw [e]; exact if_pos rfl⟩
    · have hne : Tb.look S.o x ≠ -1 := by unfold Nt.isN at e; omega
      exact .inr ⟨hne, if_neg hne, Fb.via_self HOK.out.str hn e⟩
  clear H hf
  generalize Fb.via S.t (Tb.look S.o x) n = V at *
  generalize Tb.look S.o x = O at *
  have H := Lib.hid h3; clear h3
  rcases hVO with ⟨rfl, rfl⟩ | ⟨hO, hV, hiff⟩
  · go_wp2
    go_ret
    exact ⟨rfl, H.out.f⟩
  · have hob : (O == -1) = false := by simpa using hO
    have hvv : (V == V) = true := by simp
    have HO := Lib.hid hO; clear hO; have HV := Lib.hid hV; clear hV; have HIFF := Lib.hid hiff; clear hiff
    have p0 := H.out.at_.p0
    go_wp2_with fail
    refine (NHop_any q.x v S.t n O _ hn H.out.at_.net).mono ?_
    rw [← HV.out]
    rintro e w6 ⟨ws, wd, rfl, hf⟩
    have h3 := H.out.keep hf
    clear H hf p0
    have H := Lib.hid h3; clear h3
    by_cases hon : O = n
    · have b1 : (V == (n : Int)) = true := by simpa using HIFF.out.2 hon
      have b2 : (O == (n : Int)) = true := by simpa using hon
      clear hon
      go_wp2
      go_ret
      exact ⟨rfl, H.out.f⟩
    · have b1 : (V == (n : Int)) = false := by
        have : ¬ V = n := fun e => hon (HIFF.out.1 e)
        simpa using this
      have b2 : (O == (n : Int)) = false := by simpa using hon
      clear hon
      go_wp2
      go_ret
      exact ⟨rfl, H.out.f⟩
set_option maxRecDepth 100000 in
set_option maxHeartbeats 2000000 in
theorem FibOwns_all (a0 : Option Addr) (n0 c0 : Nat) (X0 : Nat → Int) (a1 a2 : Int) (w : World) (r0 : Rd w a0 (n0 * 6) X0) :
    Calls Tryz.prog 4 #[.slice a0 n0 c0, .int .i64 a1, .int .i64 a2] w (TrueFr w) := by
  by_cases hn : n0 ≤ 150
  · by_cases hr : Nt.isN a1
    · obtain ⟨n, rfl⟩ := Int.eq_ofNat_of_zero_le hr.1
      exact FibOwns_main a0 n0 c0 X0 n a2 w hn (by have := hr.2; omega) r0
    · clear r0
      have hnb : decide ((150 : Int) < (n0 : Int)) = false := by simp; omega
      have HR := Lib.hid hr; clear hr
      go_enter Tryz.func4, Tryz.ntmps4
      go_wp2_with fail
      refine (fibBegun_true _).mono ?_
      rintro e w1 ⟨rfl, hF⟩
      have HF := Lib.hid hF; clear hF
      go_wp2_with fail
      refine (RNode_no _ _ HR.out).mono ?_; rintro e w' ⟨rfl, rfl⟩
      go_wp2
      go_ret
      exact ⟨rfl, HF.out⟩
  · clear r0
    have hnb : decide ((150 : Int) < (n0 : Int)) = true := by simp; omega
    go_enter Tryz.func4, Tryz.ntmps4
    go_wp2_with fail
    refine (fibBegun_true _).mono ?_
    rintro e w1 ⟨rfl, hF⟩
    have HF := Lib.hid hF; clear hF
    go_wp2
    go_ret
    exact ⟨rfl, HF.out⟩
end Go.Proofs.YteedndapbfihaaaGreat
