/- LeastNone: the walk. -/
import Derived.Test.YtdkkeaegmmepfaaLs11
import Derived.Test.YtdkkeaegmmepfaaLsMath
namespace Go.Proofs.Ytdkkeaegmmepfaa
open Go.RowKit Go.Deep

theorem mod_idx (k : Int) (n : Nat) (h0 : 0 < n) (hn : n ≤ 40) : ∃ j : Nat, j < n ∧ wrap64 ((IntKind.u64.wrap k).tmod (n : Int)) = j := by
  have h1 : 0 ≤ IntKind.u64.wrap k := by
    simp [IntKind.wrap, IntKind.signed, IntKind.bits]
    omega
  have h2 : (IntKind.u64.wrap k).tmod (n : Int) = IntKind.u64.wrap k % (n : Int) := Int.tmod_eq_emod_of_nonneg h1
  rw [h2]
  have h3 := Int.emod_nonneg (IntKind.u64.wrap k) (b := (n : Int)) (by omega)
  have h4 := Int.emod_lt_of_pos (IntKind.u64.wrap k) (b := (n : Int)) (by omega)
  refine ⟨(IntKind.u64.wrap k % (n : Int)).toNat, by omega, ?_⟩
  unfold wrap64
  omega
theorem u64_len (n : Nat) (hn : n ≤ 1000) : IntKind.u64.wrap (n : Int) = n := by rw [IntKind.wrap_u64]; omega
set_option maxRecDepth 100000 in
set_option maxHeartbeats 8000000 in
theorem LeastNone_rs (la : Option Addr) (lc : Nat) (S : List Tb.Rt) (k hop : Int) (w : World) (hS : Rs w la S) : Calls Try.prog 3 #[.slice la S.length lc, .int .i64 k, .int .i64 hop] w (TrueFr w) := by
  by_cases h1 : 120 < S.length
  · have hb1 : (120 : Int) < (S.length : Int) := by omega
    clear h1
    go_enter Try.func3, Try.ntmps3
    go_wp2_with fail
    refine (leastBegun_true _).mono ?_
    rintro e w1 ⟨rfl, hf⟩
    have HF := Lib.hid hf
    clear hf
    go_wp2
    go_ret
    exact ⟨rfl, HF.out⟩
  · have hb1 : ¬ (120 : Int) < (S.length : Int) := by omega
    have HLS : Hid (S.length ≤ 1000) := by show S.length ≤ 1000; omega
    have HS := Lib.hid hS; clear hS
    clear h1
    go_enter Try.func3, Try.ntmps3
    go_wp2_with fail
    refine (leastBegun_true _).mono ?_
    rintro e w1 ⟨rfl, hf⟩
    have HF := Lib.hid hf
    clear hf
    go_wp2_with fail
    refine (tables_any la lc S _ HLS.out (HS.out.keep0 HF.out)).mono ?_
    rintro e w2 ⟨t, v, ra, rc, rfl, h2⟩
    obtain ⟨hwf, h40⟩ := Tb.play_ok S
    generalize Tb.play S = L at *
    have HF2 := Lib.hid (HF.out.trans h2.f)
    have HA := Lib.hid h2.at_
    have HWF := Lib.hid hwf
    have HL : Hid (L.length ≤ 1000) := by show L.length ≤ 1000; omega
    have HWU := Lib.hid (Tb.few_wf hwf)
    have HCK := Lib.hid (Tb.chk_of_wf (Tb.few_wf hwf))
    have HSP : Hid (∀ p, Tb.get (Tb.few L) p ≠ -2 → Tb.allOf (Tb.setL (Tb.few L) p (-2)) ≠ Tb.allOf L) := fun p hg => Tb.spare_none hwf hg
    clear h2 hwf h40 HF
    go_wp2_with fail
    refine (Few_any t v L _ HL.out HWF.out HA.out).mono ?_
    rintro e w3 (⟨h40, rfl, hf⟩ | ⟨h40, u, vu, rfl, hU, _, _, hf⟩)
    · have HF3 := Lib.hid (HF2.out.trans hf)
      clear hf HA HF2 h40
      go_wp2
      go_ret
      exact ⟨rfl, HF3.out⟩
    · have HA3 := Lib.hid (HA.out.keep0 hf)
      have HU3 := Lib.hid hU
      have HF3 := Lib.hid (HF2.out.trans hf)
      have HLU : Hid ((Tb.few L).length ≤ 1000) := by show (Tb.few L).length ≤ 1000; omega
      have H40 := Lib.hid h40
      obtain ⟨U, hUe⟩ : ∃ U, U = Tb.few L := ⟨_, rfl⟩
      rw [← hUe] at HWU HCK HU3 HLU H40
      have HUE := Lib.hid hUe
      clear hf HA HF2 h40 hU hUe
      go_wp2_with fail
      refine (ListT_any u vu U _ HLU.out HU3.out).mono ?_
      rintro e w4 ⟨v4, rfl, hv, hf⟩
      obtain ⟨a4, c4, rfl, _⟩ := hv.shape
      have HA4 := Lib.hid (HA3.out.keep0 hf)
      have HU4 := Lib.hid (HU3.out.keep0 hf)
      have HF4 := Lib.hid (HF3.out.trans hf)
      clear hf HA3 HF3 HU3 hv
      by_cases h0 : U.length = 0
      · have hb : ((U.length : Int) == 0) = true := by simp [h0]
        clear h0
        generalize U.length = n at *
        go_wp2
        go_ret
        exact ⟨rfl, HF4.out⟩
      have hb : ((U.length : Int) == 0) = false := by simpa using h0
      have HN0 := Lib.hid (Nat.pos_of_ne_zero h0)
      clear h0
      go_wp2_with fail
      refine (ListT_any u vu U _ HLU.out HU4.out).mono ?_
      rintro e w5 ⟨v5, rfl, hv, hf⟩
      obtain ⟨a5, c5, rfl, hr5, _⟩ := hv.shape
      have HR5 := Lib.hid hr5
      have HA5 := Lib.hid (HA4.out.keep0 hf)
      have HF5 := Lib.hid (HF4.out.trans hf)
      have hu : IntKind.u64.wrap (U.length : Int) = U.length := u64_len _ HLU.out
      have hun : ((U.length : Int) == 0) = false := hb
      obtain ⟨j, hj, hje⟩ := mod_idx k U.length HN0.out H40.out
      obtain ⟨b0, o0, rfl, c0, c1, c2⟩ := HR5.out j hj
      obtain ⟨r, hr⟩ : ∃ r, Tb.nth U j = r := ⟨_, rfl⟩
      have hrm : r ∈ U := by rw [← hr]; exact Tb.nth_mem hj
      have hget := Tb.get_mem HWU.out hrm
      have hhop := Tb.hop_ne HWU.out hrm
      rw [hr] at c0 c1 c2
      obtain ⟨⟨l, b⟩, h⟩ := r
      dsimp only at c0 c1 c2 hget hhop
      have hgn : Tb.get U ⟨l, b⟩ ≠ -2 := by rw [hget]; exact hhop
      obtain ⟨hc1, hw1, hl1, _⟩ := Tb.take_away HWU.out hgn
      have hs1 := HSP.out ⟨l, b⟩ (by rw [← HUE.out]; exact hgn)
      rw [← HUE.out] at hs1
      have hs2 : Tb.hopOK hop → hop ≠ h → Tb.setC (Tb.setL U ⟨l, b⟩ (-2)) ⟨l, b⟩ hop = 0 ∧ Tb.allOf (Tb.setL (Tb.setL U ⟨l, b⟩ (-2)) ⟨l, b⟩ hop) ≠ Tb.allOf L := fun h1 h2 => by
        have := Tb.turn_none HWF.out (p := ⟨l, b⟩) (by rw [← HUE.out]; exact hgn) (by rw [← HUE.out]; exact H40.out) h1 (by rw [← HUE.out, hget]; exact h2)
        rw [← HUE.out] at this
        exact this
      obtain ⟨V, hV⟩ : ∃ V, V = Tb.setL U ⟨l, b⟩ (-2) := ⟨_, rfl⟩
      rw [← hV] at hw1 hl1 hs1 hs2
      have HVE := Lib.hid hV
      have HW1 := Lib.hid hw1
      have HL1 := Lib.hid (show V.length ≤ 40 by have := H40.out; omega)
      have HS1 := Lib.hid hs1
      have HS2 := Lib.hid hs2
      have HC1 := Lib.hid hc1
      clear hf HA4 HF4 HU4 hv hr5 hr hrm hget hhop hgn hc1 hw1 hl1 hs1 hs2 hV
      go_upto_region 15 with fail
      refine wp_name fun w6 hw => ?_
      have d0 : w6.cell? ⟨w5.heap.size, 0, none⟩ = some (.int .i64 l) := by rw [hw]; simp
      have d1 : w6.cell? ⟨w5.heap.size, 1, none⟩ = some (.int .i64 b) := by rw [hw]; simp
      have d2 : w6.cell? ⟨w5.heap.size, 2, none⟩ = some (.int .i64 h) := by rw [hw]; simp
      have hF : Fr NoB w5 w6 := by rw [hw]; (repeat (first | exact Fr.refl _ _ | refine Fr.alloc ?_ _ | refine Fr.setNew ?_ (by omega) _ _ | refine Fr.drewN ?_ _ | refine Fr.drew ?_))
      have hsz : w5.heap.size < w6.heap.size := World.block_lt_of_cell? w6 _ d0
      have HA6 := Lib.hid (HA5.out.keep0 hF)
      have HF6 := Lib.hid (HF5.out.trans hF)
      have HR6 := Lib.hid (HR5.out.keep0 hF)
      have HSZ := Lib.hid hsz
      clear hw hF c0 c1 c2 HA5 HF5 HR5 hsz hje hu hun hb
      go_wp2_with fail
      refine (OfTb_new (some ⟨b0, o0, none⟩) c5 U _ HLU.out HR6.out).mono ?_
      rintro e w7 (⟨hk, _⟩ | ⟨_, tv, vv, rfl, hV, htv, hvv, hf⟩)
      · exact absurd (HCK.out.trans (if_neg (by have := H40.out; omega))) hk
      have d0 := cell_fr' hf d0 (fun h => h)
      have d1 := cell_fr' hf d1 (fun h => h)
      have d2 := cell_fr' hf d2 (fun h => h)
      have hA7 := HA6.out.keep0 hf
      have HAT : Hid (t < w6.heap.size ∧ ∀ g, v.ownBlock = some g → g < w6.heap.size) := ⟨World.rowIs.lt HA6.out.row, fun g hg => (World.ownsRow.lt HA6.out.sl g hg).2⟩
      have HTV : Hid (w6.heap.size ≤ tv ∧ ∀ g, vv.ownBlock = some g → w6.heap.size ≤ g) := ⟨htv, hvv⟩
      have HZ : Hid (w6.heap.size ≤ w7.heap.size) := hf.size
      have HB : Hid (w.heap.size ≤ w6.heap.size) := HF6.out.size
      have HV7 := Lib.hid hV
      have HA7 := Lib.hid hA7
      have HF7 := Lib.hid (HF6.out.trans hf)
      clear hf htv hvv hV hA7 HA6 HF6 HR6
      go_wp2_with fail
      refine (Set_any tv vv U l b (-2) _ H40.out HWU.out HV7.out).mono ?_
      unfold SetTbPost
      rw [HC1.out, ← HVE.out]
      rintro e w8 ⟨rfl, v8, hT, hf, ho⟩
      have hnt : ∀ g, g < w6.heap.size → ¬ TB tv vv g := fun g hg e => by
        rcases e with e | e
        · have := HTV.out.1; omega
        · have := HTV.out.2 g e; omega
      have d0 := cell_fr' hf d0 (hnt _ HSZ.out)
      have d1 := cell_fr' hf d1 (hnt _ HSZ.out)
      have d2 := cell_fr' hf d2 (hnt _ HSZ.out)
      have HA8 := Lib.hid (HA7.out.keep hf (hnt _ HAT.out.1) (fun g hg => hnt _ (HAT.out.2 g hg)))
      have HF8 := Lib.hid (HF7.out.noB hf (Nat.le_trans HB.out HTV.out.1) (fun g hg => Nat.le_trans HB.out (HTV.out.2 g hg)))
      have HT8 := Lib.hid hT
      have HV8 : Hid (∀ g, v8.ownBlock = some g → w6.heap.size ≤ g) := fun g hg => by
        rcases ho g hg with k | k
        · exact HTV.out.2 g k
        · exact Nat.le_trans HZ.out k
      clear hf hT ho hnt HA7 HF7 HV7
      go_wp2_with fail
      refine (TSame_any t tv v v8 L V _ HL.out (by have := HL1.out; omega) HWF.out HW1.out HA8.out HT8.out).mono ?_
      rintro e w9 ⟨r, rfl, hr, hf⟩
      obtain rfl : r = false := by
        cases r
        · rfl
        · exact absurd (Tb.allOf_ext (fun n hn => (hr.1 rfl n hn).symm)) HS1.out
      have d0 := cell_fr' hf d0 (fun h => h)
      have d1 := cell_fr' hf d1 (fun h => h)
      have d2 := cell_fr' hf d2 (fun h => h)
      have HA9 := Lib.hid (HA8.out.keep0 hf)
      have HT9 := Lib.hid (HT8.out.keep0 hf)
      have HF9 := Lib.hid (HF8.out.trans hf)
      clear hf HA8 HT8 HF8 hr
      go_wp2_with fail
      refine (IsHop_any _ _).mono ?_
      rintro e w10 ⟨rfl, rfl⟩
      by_cases hh : Tb.hopOK hop
      · rw [decide_eq_true hh]
        by_cases he : hop = h
        · have hb : (hop == h) = true := by simp [he]
          clear he hh
          go_wp2
          go_ret
          exact ⟨rfl, HF9.out⟩
        have hb : (hop == h) = false := by simpa using he
        obtain ⟨q1, q2⟩ := HS2.out hh he
        have HQ1 := Lib.hid q1
        have HQ2 := Lib.hid q2
        clear he hh q1 q2
        go_wp2_with fail
        refine (Set_any tv v8 V l b hop _ HL1.out HW1.out HT9.out).mono ?_
        unfold SetTbPost
        rw [HQ1.out]
        rintro e w11 ⟨rfl, v11, hT, hf, ho⟩
        have hnt : ∀ g, g < w6.heap.size → ¬ TB tv v8 g := fun g hg e => by
          rcases e with e | e
          · have := HTV.out.1; omega
          · have := HV8.out g e; omega
        have HA11 := Lib.hid (HA9.out.keep hf (hnt _ HAT.out.1) (fun g hg => hnt _ (HAT.out.2 g hg)))
        have HF11 := Lib.hid (HF9.out.noB hf (Nat.le_trans HB.out HTV.out.1) (fun g hg => Nat.le_trans HB.out (HV8.out g hg)))
        have HT11 := Lib.hid hT
        have HWL := Lib.hid (Tb.setL_ok HW1.out HL1.out ⟨l, b⟩ hop)
        clear hf hT ho hnt HA9 HF9 HT9
        go_wp2_with fail
        refine (TSame_any t tv v v11 L _ _ HL.out (by have := HWL.out.2; omega) HWF.out HWL.out.1 HA11.out HT11.out).mono ?_
        rintro e w12 ⟨r, rfl, hr, hf⟩
        obtain rfl : r = false := by
          cases r
          · rfl
          · exact absurd (Tb.allOf_ext (fun n hn => (hr.1 rfl n hn).symm)) HQ2.out
        have HF12 := Lib.hid (HF11.out.trans hf)
        clear hf HF11 HA11 HT11 hr
        go_wp2
        go_ret
        exact ⟨rfl, HF12.out⟩
      · rw [decide_eq_false hh]
        clear hh
        go_wp2
        go_ret
        exact ⟨rfl, HF9.out⟩
theorem LeastNone_all (a0 : Option Addr) (n0 c0 : Nat) (X0 : Nat → Int) (a1 a2 : Int) (w : World) (r0 : Rd w a0 (n0 * 3) X0) : Calls Try.prog 3 #[.slice a0 n0 c0, .int .i64 a1, .int .i64 a2] w (TrueFr w) := by
  obtain ⟨S, rfl, hS⟩ := rs_of_rd r0
  exact LeastNone_rs a0 c0 S a1 a2 w hS
end Go.Proofs.Ytdkkeaegmmepfaa
