/- LeastDoes: the walk. -/
import Derived.Test.YtdkkeaegmmepfaaLs11
import Derived.Test.YtdkkeaegmmepfaaLs13
namespace Go.Proofs.Ytdkkeaegmmepfaa
open Go.RowKit Go.Deep

theorem rl_few {L : List Tb.Rt} (hw : Tb.Wf L) (g : Nat) (w : World) (h : RdL w (some ⟨g, 0, none⟩) (Tb.allOf L)) :
    Calls Try.prog 23 #[.agg #[.int .i64 0, .int .i64 0], .slice (some ⟨g, 0, none⟩) 256 256, .int .i64 (-1)] w (LvPost (Tb.few L) w) := by
  have k := rl_any 8 0 0 (Tb.allOf L) (-1) (some ⟨g, 0, none⟩) 256 w (Tb.fit_allOf L) (Tb.allOf_hops hw) (by unfold Tb.hopOK; omega) h (by rw [Tb.allOf_len]; exact Nat.le_refl _) (by omega)
  rw [Tb.allOf_len] at k
  exact k
set_option maxRecDepth 100000 in
set_option maxHeartbeats 16000000 in
theorem LeastDoes_rs (la : Option Addr) (lc : Nat) (S : List Tb.Rt) (ma : Option Addr) (mc : Nat) (S2 : List Tb.Rt) (ca : Option Addr) (cc : Nat) (D : List Tb.Ch) (w : World) (hS : Rs w la S) (hS2 : Rs w ma S2) (hD : Cs w ca D) :
    Calls Try.prog 6 #[.slice la S.length lc, .slice ma S2.length mc, .slice ca D.length cc] w (TrueFr w) := by
  by_cases h1 : 120 < S.length
  · have hb1 : (120 : Int) < (S.length : Int) := by omega
    clear h1
    go_enter Try.func6, Try.ntmps6
    go_wp2_with fail
    refine (leastBegun_true _).mono ?_
    rintro e w1 ⟨rfl, hf⟩
    have HF := Lib.hid hf
    clear hf
    go_wp2
    go_ret
    exact ⟨rfl, HF.out⟩
  have hb1 : ¬ (120 : Int) < (S.length : Int) := by omega
  by_cases h2 : 120 < S2.length
  · have hb2 : (120 : Int) < (S2.length : Int) := by omega
    clear h1 h2
    go_enter Try.func6, Try.ntmps6
    go_wp2_with fail
    refine (leastBegun_true _).mono ?_
    rintro e w1 ⟨rfl, hf⟩
    have HF := Lib.hid hf
    clear hf
    go_wp2
    go_ret
    exact ⟨rfl, HF.out⟩
  have hb2 : ¬ (120 : Int) < (S2.length : Int) := by omega
  by_cases h3 : 120 < D.length
  · have hb3 : (120 : Int) < (D.length : Int) := by omega
    clear h1 h2 h3
    go_enter Try.func6, Try.ntmps6
    go_wp2_with fail
    refine (leastBegun_true _).mono ?_
    rintro e w1 ⟨rfl, hf⟩
    have HF := Lib.hid hf
    clear hf
    go_wp2
    go_ret
    exact ⟨rfl, HF.out⟩
  have hb3 : ¬ (120 : Int) < (D.length : Int) := by omega
  have HLS : Hid (S.length ≤ 1000) := by show S.length ≤ 1000; omega
  have HLS2 : Hid (S2.length ≤ 1000) := by show S2.length ≤ 1000; omega
  have HLD : Hid (D.length ≤ 1000) := by show D.length ≤ 1000; omega
  have HDB : Hid (D ≠ [] → ∀ q, ca = some q → q.block < w.heap.size) := fun hne q hq => by
    obtain ⟨b, o, e, c0, _⟩ := hD 0 (List.length_pos_iff.2 hne)
    rw [hq] at e
    cases e
    exact World.block_lt_of_cell? w _ c0
  have HS := Lib.hid hS; clear hS; have HS2 := Lib.hid hS2; clear hS2; have HCS := Lib.hid hD; clear hD
  clear h1 h2 h3
  go_enter Try.func6, Try.ntmps6
  go_wp2_with fail
  refine (leastBegun_true _).mono ?_
  rintro e w1 ⟨rfl, hf⟩
  have HF := Lib.hid hf
  clear hf
  go_wp2_with fail
  refine (tablesC_any la lc S _ HLS.out (HS.out.keep0 HF.out)).mono ?_
  rintro e w2 ⟨t, v, ra, rc, rfl, hrc, h2⟩
  obtain ⟨hwf, h40⟩ := Tb.play_ok S
  generalize Tb.play S = A at *
  have HF2 := Lib.hid (HF.out.trans h2.f)
  have HA2 := Lib.hid h2
  have HTW : Hid (w.heap.size ≤ t) := Nat.le_trans HF.out.size h2.new
  have HVW : Hid (∀ g, v.ownBlock = some g → w.heap.size ≤ g) := fun g hg => Nat.le_trans HF.out.size (h2.own g hg)
  have HWA := Lib.hid hwf
  have HLA := Lib.hid h40
  have HRC := Lib.hid hrc
  have HRS : Hid (∀ q, ra = some q → q.spot = none) := fun q hq => (h2.sep q hq).1
  clear h2 hwf h40 HF hrc
  go_wp2_with fail
  refine (tables_any ma mc S2 _ HLS2.out (HS2.out.keep0 HF2.out)).mono ?_
  rintro e w3 ⟨u, v', rb, rd, rfl, h2⟩
  obtain ⟨hwf, h40⟩ := Tb.play_ok S2
  generalize Tb.play S2 = B at *
  have HF3 := Lib.hid (HF2.out.trans h2.f)
  have HA3 := Lib.hid (HA2.out.at_.keep0 h2.f)
  have HR3 := Lib.hid (HA2.out.rs.keep0 h2.f)
  have HB3 := Lib.hid h2.at_
  have HQ3 := Lib.hid h2.rs
  have HWB := Lib.hid hwf
  have HLB := Lib.hid h40
  have HLA1 : Hid (A.length ≤ 1000) := by have := HLA.out; show A.length ≤ 1000; omega
  have HLB1 : Hid (B.length ≤ 1000) := by have := HLB.out; show B.length ≤ 1000; omega
  have HLK : Hid (∀ a : Int, (Tb.lookR A a).1 = Tb.look A a) := fun a => (Tb.look_both HWA.out a).1
  have HSP : Hid (∀ q, ra = some q → q.block < w3.heap.size) := fun q hq => Nat.lt_of_lt_of_le (HA2.out.sep q hq).2.2.2 h2.f.size
  have HNT : Hid (∀ q, ra = some q → ¬ TB t v q.block) := fun q hq e => by
    obtain ⟨_, k2, k3, _⟩ := HA2.out.sep q hq
    rcases e with e | e
    · exact k2 e
    · exact k3 e
  clear h2 hwf h40 HA2 HF2
  go_wp2_with fail
  refine (AllOf_any ra rc A _ HLA1.out HR3.out).mono ?_
  rintro e w4 ⟨g, rfl, _, hrow, hf⟩
  have hrd : RdL w4 (some ⟨g, 0, none⟩) (Tb.allOf A) := rdl_row hrow (Tb.allOf_len A) (fun n hn => by rw [HLK.out]; exact allOf_get A hn)
  have HRD := Lib.hid hrd
  have HA4 := Lib.hid (HA3.out.keep0 hf)
  have HR4 := Lib.hid (HR3.out.keep0 hf)
  have HB4 := Lib.hid (HB3.out.keep0 hf)
  have HQ4 := Lib.hid (HQ3.out.keep0 hf)
  have HF4 := Lib.hid (HF3.out.trans hf)
  clear hf hrow hrd HA3 HR3 HB3 HQ3 HF3
  go_wp2_with fail
  refine (rl_few HWA.out g _ HRD.out).mono ?_
  rintro e w5 ⟨v5, rfl, hv, hf⟩
  obtain ⟨a5, c5, rfl, hr5, _⟩ := hv.shape
  have HX5 := Lib.hid hr5
  have HA5 := Lib.hid (HA4.out.keep0 hf)
  have HR5 := Lib.hid (HR4.out.keep0 hf)
  have HB5 := Lib.hid (HB4.out.keep0 hf)
  have HQ5 := Lib.hid (HQ4.out.keep0 hf)
  have HF5 := Lib.hid (HF4.out.trans hf)
  have HFL : Hid ((Tb.few A).length ≤ 1000) := by
    have h1 := Tb.few_fewest HWA.out HWA.out rfl
    have h2 := HLA.out
    show (Tb.few A).length ≤ 1000
    omega
  have HF40 : Hid ((Tb.few A).length ≤ 40) := by
    have h1 := Tb.few_fewest HWA.out HWA.out rfl
    have h2 := HLA.out
    show (Tb.few A).length ≤ 40
    omega
  clear hf hv hr5 HA4 HR4 HB4 HQ4 HF4 HRD
  go_wp2_with fail
  refine (Few_any t v A _ HLA1.out HWA.out HA5.out).mono ?_
  rintro e w6 (⟨h40, _⟩ | ⟨_, x, vx, rfl, hX, _, _, hf⟩)
  · exact absurd HF40.out (by omega)
  have HT6 := Lib.hid hX
  have HX6 := Lib.hid (HX5.out.keep0 hf)
  have HA6 := Lib.hid (HA5.out.keep0 hf)
  have HR6 := Lib.hid (HR5.out.keep0 hf)
  have HB6 := Lib.hid (HB5.out.keep0 hf)
  have HQ6 := Lib.hid (HQ5.out.keep0 hf)
  have HF6 := Lib.hid (HF5.out.trans hf)
  have hle : ((Tb.few A).length : Int) ≤ 40 := by have := HF40.out; omega
  have hle2 : decide (((Tb.few A).length : Int) ≤ 40) = true := decide_eq_true hle
  have hle3 : decide ((Tb.few A).length ≤ 40) = true := decide_eq_true HF40.out
  clear hf hX HA5 HR5 HB5 HQ5 HF5 HX5
  go_wp2_with fail
  refine (ListT_any x vx (Tb.few A) _ HFL.out HT6.out).mono ?_
  rintro e w7 ⟨v7, rfl, hv, hf⟩
  obtain ⟨a7, c7, rfl, hr7, _⟩ := hv.shape
  have HY7 := Lib.hid hr7
  have HX7 := Lib.hid (HX6.out.keep0 hf)
  have HA7 := Lib.hid (HA6.out.keep0 hf)
  have HR7 := Lib.hid (HR6.out.keep0 hf)
  have HB7 := Lib.hid (HB6.out.keep0 hf)
  have HQ7 := Lib.hid (HQ6.out.keep0 hf)
  have HF7 := Lib.hid (HF6.out.trans hf)
  clear hf hv hr7 HA6 HR6 HB6 HQ6 HF6 HX6 HT6
  go_wp2_with fail
  refine (SameRoutes_any a7 a5 c7 c5 (Tb.few A) (Tb.few A) _ HFL.out HFL.out HY7.out HX7.out).mono ?_
  rw [decide_eq_true (rfl : Tb.few A = Tb.few A)]
  rintro e w8 ⟨rfl, hf⟩
  have HA8 := Lib.hid (HA7.out.keep0 hf)
  have HR8 := Lib.hid (HR7.out.keep0 hf)
  have HB8 := Lib.hid (HB7.out.keep0 hf)
  have HQ8 := Lib.hid (HQ7.out.keep0 hf)
  have HF8 := Lib.hid (HF7.out.trans hf)
  clear hf HA7 HR7 HB7 HQ7 HF7 HX7 HY7
  go_wp2_with fail
  refine (Count_any t v A _ HLA1.out HWA.out HA8.out).mono ?_
  rintro e w9 ⟨rfl, hf⟩
  have HA9 := Lib.hid (HA8.out.keep0 hf)
  have HR9 := Lib.hid (HR8.out.keep0 hf)
  have HB9 := Lib.hid (HB8.out.keep0 hf)
  have HQ9 := Lib.hid (HQ8.out.keep0 hf)
  have HF9 := Lib.hid (HF8.out.trans hf)
  clear hf HA8 HR8 HB8 HQ8 HF8
  go_wp2_with fail
  refine (Diff_any t u v v' A B _ HLA.out HLB.out HWA.out HWB.out HA9.out HB9.out).mono ?_
  rintro e w10 ⟨dv, rfl, hd, hf⟩
  obtain ⟨da, dc, rfl, hcs, _⟩ := hd.cs
  have HC10 := Lib.hid hcs
  have HA10 := Lib.hid (HA9.out.keep0 hf)
  have HR10 := Lib.hid (HR9.out.keep0 hf)
  have HQ10 := Lib.hid (HQ9.out.keep0 hf)
  have HF10 := Lib.hid (HF9.out.trans hf)
  have HLC : Hid ((Tb.chs A B).length ≤ 1000) := by
    have := Tb.chs_len HWA.out HWB.out
    have := HLA.out
    have := HLB.out
    show (Tb.chs A B).length ≤ 1000
    omega
  clear hf hd hcs HA9 HR9 HB9 HQ9 HF9
  go_wp2_with fail
  refine (ChangesOf_any ra rc A rb rd B _ HLA.out HLB.out HWA.out HWB.out HRC.out HRS.out HR10.out HQ10.out).mono ?_
  rintro e w11 ⟨cv, rfl, hd, hf⟩
  obtain ⟨ka, kc, rfl, hcs, _⟩ := hd.cs
  have HK11 := Lib.hid hcs
  have HC11 := Lib.hid (HC10.out.keep0 hf)
  have HA11 := Lib.hid (HA10.out.keep0 hf)
  have HR11 := Lib.hid (HR10.out.keep0 hf)
  have HF11 := Lib.hid (HF10.out.trans hf)
  clear hf hd hcs HA10 HR10 HQ10 HF10 HC10
  go_wp2_with fail
  refine (SameChanges_any da ka dc kc (Tb.chs A B) (Tb.chs A B) _ HLC.out HLC.out HC11.out HK11.out).mono ?_
  rw [decide_eq_true (rfl : Tb.chs A B = Tb.chs A B)]
  rintro e w12 ⟨rfl, hf⟩
  have HA12 := Lib.hid (HA11.out.keep0 hf)
  have HR12 := Lib.hid (HR11.out.keep0 hf)
  have HF12 := Lib.hid (HF11.out.trans hf)
  clear hf HA11 HR11 HF11 HC11 HK11
  go_wp2_with fail
  refine (Do_any t v ca cc A D _ HLD.out HWA.out HLA.out HA12.out (HCS.out.keep0 HF12.out) (fun hne q hq => ⟨fun e => by
    have := HDB.out hne q hq
    rcases e with e | e
    · have := HTW.out; omega
    · have := HVW.out _ e; omega, Nat.lt_of_lt_of_le (HDB.out hne q hq) HF12.out.size⟩)).mono ?_
  rintro e w13 ⟨rfl, v13, hT, hf, ho⟩
  have HT13 := Lib.hid hT
  have HR13 := Lib.hid (HR12.out.keep hf HNT.out)
  have HF13 := Lib.hid (HF12.out.noB hf HTW.out HVW.out)
  clear hf hT ho HA12 HR12 HF12
  go_wp2_with fail
  refine (Done_any ra rc A ca cc D _ HLD.out HWA.out HLA.out HRS.out HR13.out (HCS.out.keep0 HF13.out)).mono ?_
  rintro e w14 ⟨za, zc, rfl, hz, hf⟩
  have HT14 := Lib.hid (HT13.out.keep0 hf)
  have HZ14 := Lib.hid hz
  have HF14 := Lib.hid (HF13.out.trans hf)
  have HZL : Hid ((Tb.done D A).1.length ≤ 1000) := by have := (Tb.done_ok D HWA.out HLA.out).2; show (Tb.done D A).1.length ≤ 1000; omega
  clear hf hz HT13 HR13 HF13
  generalize Tb.done D A = Z at *
  obtain ⟨M, code⟩ := Z
  dsimp only at HZL HT14 HZ14 ⊢
  go_wp2_with fail
  refine (ListT_any t v13 M _ HZL.out HT14.out).mono ?_
  rintro e w15 ⟨v15, rfl, hv, hf⟩
  obtain ⟨a15, c15, rfl, hr15, _⟩ := hv.shape
  have HX15 := Lib.hid hr15
  have HZ15 := Lib.hid (HZ14.out.keep0 hf)
  have HF15 := Lib.hid (HF14.out.trans hf)
  clear hf hv hr15 HT14 HZ14 HF14
  go_wp2_with fail
  refine (SameRoutes_any a15 za c15 zc M M _ HZL.out HZL.out HX15.out HZ15.out).mono ?_
  rw [decide_eq_true (rfl : M = M)]
  rintro e w16 ⟨rfl, hf⟩
  have HF16 := Lib.hid (HF15.out.trans hf)
  clear hf HF15 HX15 HZ15
  go_wp2
  go_ret
  exact ⟨rfl, HF16.out⟩
theorem LeastDoes_all (a0 : Option Addr) (n0 c0 : Nat) (X0 : Nat → Int) (a1 : Option Addr) (n1 c1 : Nat) (X1 : Nat → Int) (a2 : Option Addr) (n2 c2 : Nat) (X2 : Nat → Int) (w : World) (r0 : Rd w a0 (n0 * 3) X0) (r1 : Rd w a1 (n1 * 3) X1) (r2 : Rd w a2 (n2 * 4) X2) :
    Calls Try.prog 6 #[.slice a0 n0 c0, .slice a1 n1 c1, .slice a2 n2 c2] w (TrueFr w) := by
  obtain ⟨S, rfl, hS⟩ := rs_of_rd r0
  obtain ⟨S2, rfl, hS2⟩ := rs_of_rd r1
  obtain ⟨D, rfl, hD⟩ := cs_of_rd r2
  exact LeastDoes_rs a0 c0 S a1 c1 S2 a2 c2 D w hS hS2 hD
end Go.Proofs.Ytdkkeaegmmepfaa
