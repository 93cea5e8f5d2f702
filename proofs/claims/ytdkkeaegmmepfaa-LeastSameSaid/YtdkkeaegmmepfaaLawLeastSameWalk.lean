/- LeastSame: the walk. -/
import Derived.Test.YtdkkeaegmmepfaaLs11
import Derived.Test.YtdkkeaegmmepfaaLsMath8
namespace Go.Proofs.Ytdkkeaegmmepfaa
open Go.RowKit Go.Deep

theorem LookT_any (t : Nat) (v : Value) (L : List Tb.Rt) (x : Int) (w : World) (hl : L.length ≤ 1000) (h : TAt w t v L) : Calls Try.prog 21 #[.pointer (some ⟨t, 0, none⟩), .int .i64 x] w (IntFr (Tb.look L x) w) := by
  obtain ⟨a, c, rfl, hr, _, hc⟩ := h.shape
  exact Look_any t a c L x w hl hr hc
set_option maxRecDepth 100000 in
set_option maxHeartbeats 8000000 in
theorem LeastSame_rs (la : Option Addr) (lc : Nat) (S : List Tb.Rt) (x : Int) (w : World) (hS : Rs w la S) : Calls Try.prog 5 #[.slice la S.length lc, .int .i64 x] w (TrueFr w) := by
  by_cases h1 : 120 < S.length
  · have hb1 : (120 : Int) < (S.length : Int) := by omega
    clear h1
    go_enter Try.func5, Try.ntmps5
    go_wp2_with fail
    refine (leastBegun_true _).mono ?_
    rintro e w1 ⟨rfl, hf⟩
    have HF := Lib.hid hf
    clear hf
    go_wp2
    go_ret
    exact ⟨rfl, HF.out⟩
  · have hb1 : ¬ (120 : Int) < (S.length : Int) := by omega
    have HLS : Hid (S.length ≤ 1000) := by show S.length ≤ 1000; omega
    have HS := Lib.hid hS; clear hS
    clear h1
    go_enter Try.func5, Try.ntmps5
    go_wp2_with fail
    refine (leastBegun_true _).mono ?_
    rintro e w1 ⟨rfl, hf⟩
    have HF := Lib.hid hf
    clear hf
    go_wp2_with fail
    refine (tables_any la lc S _ HLS.out (HS.out.keep0 HF.out)).mono ?_
    rintro e w2 ⟨t, v, ra, rc, rfl, h2⟩
    obtain ⟨hwf, h40⟩ := Tb.play_ok S
    generalize Tb.play S = L at *
    have HF2 := Lib.hid (HF.out.trans h2.f)
    have HA := Lib.hid h2.at_
    have HWF := Lib.hid hwf
    have HL : Hid (L.length ≤ 1000) := by show L.length ≤ 1000; omega
    have HWU := Lib.hid (Tb.few_wf hwf)
    have HFF := Lib.hid (Tb.few_few hwf)
    have HLK := Lib.hid (Tb.few_look hwf)
    clear h2 hwf h40 HF
    go_wp2_with fail
    refine (Few_any t v L _ HL.out HWF.out HA.out).mono ?_
    rintro e w3 (⟨h40, rfl, hf⟩ | ⟨h40, u, vu, rfl, hU, _, _, hf⟩)
    · have HA3 := Lib.hid (HA.out.keep0 hf)
      have HF3 := Lib.hid (HF2.out.trans hf)
      have hb : (40 : Int) < ((Tb.few L).length : Int) := by omega
      clear hf HA HF2 h40
      go_wp2_with fail
      refine (Count_any t v L _ HL.out HWF.out HA3.out).mono ?_
      rintro e w4 ⟨rfl, hf⟩
      have HF4 := Lib.hid (HF3.out.trans hf)
      clear hf HA3 HF3
      generalize (Tb.few L).length = n at *
      go_wp2
      go_ret
      exact ⟨rfl, HF4.out⟩
    · have HA3 := Lib.hid (HA.out.keep0 hf)
      have HU3 := Lib.hid hU
      have HF3 := Lib.hid (HF2.out.trans hf)
      have HLU : Hid ((Tb.few L).length ≤ 1000) := by show (Tb.few L).length ≤ 1000; omega
      have H40 := Lib.hid h40
      clear hf HA HF2 h40 hU
      go_wp2_with fail
      refine (Few_any u vu (Tb.few L) _ HLU.out HWU.out HU3.out).mono ?_
      unfold FewPost
      rw [HFF.out]
      rintro e w4 (⟨h40, _⟩ | ⟨_, y, vy, rfl, hY, _, _, hf⟩)
      · exact absurd H40.out (by omega)
      have HA4 := Lib.hid (HA3.out.keep0 hf)
      have HU4 := Lib.hid (HU3.out.keep0 hf)
      have HY4 := Lib.hid hY
      have HF4 := Lib.hid (HF3.out.trans hf)
      clear hf HA3 HF3 HU3 hY
      go_wp2_with fail
      refine (TSame_any t u v vu L (Tb.few L) _ HL.out HLU.out HWF.out HWU.out HA4.out HU4.out).mono ?_
      rintro e w5 ⟨r, rfl, hr, hf⟩
      obtain rfl : r = true := hr.2 (fun n _ => HLK.out n)
      have HA5 := Lib.hid (HA4.out.keep0 hf)
      have HU5 := Lib.hid (HU4.out.keep0 hf)
      have HY5 := Lib.hid (HY4.out.keep0 hf)
      have HF5 := Lib.hid (HF4.out.trans hf)
      clear hf HA4 HF4 HU4 HY4 hr
      go_wp2_with fail
      refine (LookT_any t v L x _ HL.out HA5.out).mono ?_
      rintro e w6 ⟨rfl, hf⟩
      have HA6 := Lib.hid (HA5.out.keep0 hf)
      have HU6 := Lib.hid (HU5.out.keep0 hf)
      have HY6 := Lib.hid (HY5.out.keep0 hf)
      have HF6 := Lib.hid (HF5.out.trans hf)
      clear hf HA5 HF5 HU5 HY5
      go_wp2_with fail
      refine (LookT_any u vu (Tb.few L) x _ HLU.out HU6.out).mono ?_
      rw [← HLK.out x]
      rintro e w7 ⟨rfl, hf⟩
      have HA7 := Lib.hid (HA6.out.keep0 hf)
      have HU7 := Lib.hid (HU6.out.keep0 hf)
      have HY7 := Lib.hid (HY6.out.keep0 hf)
      have HF7 := Lib.hid (HF6.out.trans hf)
      clear hf HA6 HF6 HU6 HY6
      go_wp2_with fail
      refine (ListT_any u vu (Tb.few L) _ HLU.out HU7.out).mono ?_
      rintro e w8 ⟨v8, rfl, hv, hf⟩
      obtain ⟨a8, c8, rfl, hr8, _⟩ := hv.shape
      have HR8 := Lib.hid hr8
      have HA8 := Lib.hid (HA7.out.keep0 hf)
      have HU8 := Lib.hid (HU7.out.keep0 hf)
      have HY8 := Lib.hid (HY7.out.keep0 hf)
      have HF8 := Lib.hid (HF7.out.trans hf)
      clear hf HA7 HF7 HU7 HY7 hv hr8
      go_wp2_with fail
      refine (ListT_any y vy (Tb.few L) _ HLU.out HY8.out).mono ?_
      rintro e w9 ⟨v9, rfl, hv, hf⟩
      obtain ⟨a9, c9, rfl, hr9, _⟩ := hv.shape
      have HR9 := Lib.hid hr9
      have HA9 := Lib.hid (HA8.out.keep0 hf)
      have HU9 := Lib.hid (HU8.out.keep0 hf)
      have HQ9 := Lib.hid (HR8.out.keep0 hf)
      have HF9 := Lib.hid (HF8.out.trans hf)
      clear hf HA8 HF8 HU8 HY8 HR8 hv hr9
      go_wp2_with fail
      refine (SameRoutes_any a8 a9 c8 c9 (Tb.few L) (Tb.few L) _ HLU.out HLU.out HQ9.out HR9.out).mono ?_
      rintro e w10 ⟨rfl, hf⟩
      rw [decide_eq_true (rfl : Tb.few L = Tb.few L)]
      have HA10 := Lib.hid (HA9.out.keep0 hf)
      have HU10 := Lib.hid (HU9.out.keep0 hf)
      have HF10 := Lib.hid (HF9.out.trans hf)
      clear hf HA9 HF9 HU9 HR9 HQ9
      go_wp2_with fail
      refine (ListT_any u vu (Tb.few L) _ HLU.out HU10.out).mono ?_
      rintro e w11 ⟨v11, rfl, hv, hf⟩
      obtain ⟨a11, c11, rfl, _⟩ := hv.shape
      have HA11 := Lib.hid (HA10.out.keep0 hf)
      have HF11 := Lib.hid (HF10.out.trans hf)
      clear hf HA10 HF10 HU10 hv
      go_wp2_with fail
      refine (Count_any t v L _ HL.out HWF.out HA11.out).mono ?_
      rintro e w12 ⟨rfl, hf⟩
      have HF12 := Lib.hid (HF11.out.trans hf)
      clear hf HA11 HF11
      generalize (Tb.few L).length = n at *
      go_wp2
      go_ret
      exact ⟨rfl, HF12.out⟩
theorem LeastSame_all (a0 : Option Addr) (n0 c0 : Nat) (X0 : Nat → Int) (a1 : Int) (w : World) (r0 : Rd w a0 (n0 * 3) X0) : Calls Try.prog 5 #[.slice a0 n0 c0, .int .i64 a1] w (TrueFr w) := by
  obtain ⟨S, rfl, hS⟩ := rs_of_rd r0
  exact LeastSame_rs a0 c0 S a1 w hS
end Go.Proofs.Ytdkkeaegmmepfaa
