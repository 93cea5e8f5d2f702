/- LeastFewest: the walk. -/
import Derived.Test.YtdkkeaegmmepfaaLs11
namespace Go.Proofs.Ytdkkeaegmmepfaa
open Go.RowKit Go.Deep

set_option maxRecDepth 100000 in
set_option maxHeartbeats 8000000 in
theorem LeastFewest_rs (la : Option Addr) (lc : Nat) (S : List Tb.Rt) (w : World) (hS : Rs w la S) : Calls Try.prog 4 #[.slice la S.length lc] w (TrueFr w) := by
  by_cases h1 : 120 < S.length
  · have hb1 : (120 : Int) < (S.length : Int) := by omega
    clear h1
    go_enter Try.func4, Try.ntmps4
    go_wp2_with fail
    refine (leastBegun_true _).mono ?_
    rintro e w1 ⟨rfl, hf⟩
    have HF := Lib.hid hf
    clear hf
    go_wp2
    go_ret
    exact ⟨rfl, HF.out⟩
  · have hb1 : ¬ (120 : Int) < (S.length : Int) := by omega
    have HLS : Hid (S.length ≤ 1000) := by show S.length ≤ 1000; omega
    have HS := Lib.hid hS; clear hS
    clear h1
    go_enter Try.func4, Try.ntmps4
    go_wp2_with fail
    refine (leastBegun_true _).mono ?_
    rintro e w1 ⟨rfl, hf⟩
    have HF := Lib.hid hf
    clear hf
    go_wp2_with fail
    refine (tables_any la lc S _ HLS.out (HS.out.keep0 HF.out)).mono ?_
    rintro e w2 ⟨t, v, ra, rc, rfl, h2⟩
    obtain ⟨hwf, h40⟩ := Tb.play_ok S
    generalize Tb.play S = L at *
    have HF2 := Lib.hid (HF.out.trans h2.f)
    have HA := Lib.hid h2
    have HWF := Lib.hid hwf
    have HL : Hid (L.length ≤ 1000) := by show L.length ≤ 1000; omega
    have HLK : Hid (∀ a : Int, (Tb.lookR L a).1 = Tb.look L a) := fun a => (Tb.look_both hwf a).1
    have hle1 := Tb.few_fewest hwf hwf rfl
    have hle2 := Tb.few_leaves hwf
    have hlv : Tb.lv 8 ⟨0, 0⟩ (Tb.allOf L) = Tb.leaves (Tb.mkT 8 ⟨0, 0⟩ (Tb.allOf L)) := (Tb.mkT_leaves 8 _ _ (Tb.fit_allOf L)).symm
    have hln : (Tb.leaves (Tb.mkT 8 ⟨0, 0⟩ (Tb.allOf L))).length ≤ 1000 := by
      rw [← hlv]
      have := (lv_len 8 _ _ (Tb.fit_allOf L)).2
      rw [Tb.allOf_len] at this
      omega
    rw [hlv] at hle2
    have HLN := Lib.hid hln
    have HLE2 : Hid (((Tb.few L).length : Int) ≤ ((Tb.leaves (Tb.mkT 8 ⟨0, 0⟩ (Tb.allOf L))).length : Int)) := by show _ ≤ _; omega
    have HLE1 : Hid (((Tb.few L).length : Int) ≤ (L.length : Int)) := by show _ ≤ _; omega
    clear h2 hwf h40 HF hle1 hle2 hlv hln
    go_wp2_with fail
    refine (Count_any t v L _ HL.out HWF.out HA.out.at_).mono ?_
    rintro e w3 ⟨rfl, hf⟩
    have HA3 := Lib.hid (HA.out.keep0 hf)
    have HF3 := Lib.hid (HF2.out.trans hf)
    clear hf HA HF2
    go_wp2_with fail
    refine (AllOf_any ra rc L _ HL.out HA3.out.rs).mono ?_
    rintro e w4 ⟨g, rfl, _, hrow, hf⟩
    have hrd : RdL w4 (some ⟨g, 0, none⟩) (Tb.allOf L) := rdl_row hrow (Tb.allOf_len L) (fun n hn => by rw [HLK.out]; exact allOf_get L hn)
    have HRD := Lib.hid hrd
    have HA4 := Lib.hid (HA3.out.keep0 hf)
    have HF4 := Lib.hid (HF3.out.trans hf)
    clear hf HA3 HF3 hrow hrd
    go_wp2_with fail
    refine (Fewest_any _ 256 L _ HWF.out HRD.out (Nat.le_refl _) (by omega)).mono ?_
    rintro e w5 ⟨rfl, hf⟩
    have HA5 := Lib.hid (HA4.out.keep0 hf)
    have HF5 := Lib.hid (HF4.out.trans hf)
    clear hf HA4 HF4 HRD
    go_wp2_with fail
    refine (TOf_any t v L _ HL.out HWF.out HA5.out.at_).mono ?_
    rintro e w6 ⟨b, rfl, ht, hf⟩
    have HT6 := Lib.hid ht
    have HA6 := Lib.hid (HA5.out.keep0 hf)
    have HF6 := Lib.hid (HF5.out.trans hf)
    clear hf HA5 HF5 ht
    go_wp2_with fail
    refine (size_any _ b _ HT6.out HLN.out).mono ?_
    rintro e w7 ⟨rfl, hf⟩
    have HA7 := Lib.hid (HA6.out.keep0 hf)
    have HF7 := Lib.hid (HF6.out.trans hf)
    have hle2 := HLE2.out
    generalize (Tb.leaves (Tb.mkT 8 ⟨0, 0⟩ (Tb.allOf L))).length = n2 at *
    clear hf HA6 HF6
    go_wp2_with fail
    refine (ListT_any t v L _ HL.out HA7.out.at_).mono ?_
    rintro e w8 ⟨v8, rfl, hv, hf⟩
    obtain ⟨a8, c8, rfl, _⟩ := hv.shape
    have hle1 := HLE1.out
    have HF8 := Lib.hid (HF7.out.trans hf)
    generalize (Tb.few L).length = n at *
    clear hf hv
    go_wp2
    go_ret
    exact ⟨rfl, HF8.out⟩
theorem LeastFewest_all (a0 : Option Addr) (n0 c0 : Nat) (X0 : Nat → Int) (w : World) (r0 : Rd w a0 (n0 * 3) X0) : Calls Try.prog 4 #[.slice a0 n0 c0] w (TrueFr w) := by
  obtain ⟨S, rfl, hS⟩ := rs_of_rd r0
  exact LeastFewest_rs a0 c0 S w hS
end Go.Proofs.Ytdkkeaegmmepfaa
