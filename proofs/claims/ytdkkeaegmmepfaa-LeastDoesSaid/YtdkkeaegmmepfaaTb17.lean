/- Walks: (*Table).Set, where it sets nothing. -/
import Derived.Test.YtdkkeaegmmepfaaTb16
namespace Go.Proofs.Ytdkkeaegmmepfaa
open Go.RowKit Go.Deep

set_option maxRecDepth 100000 in
set_option maxHeartbeats 4000000 in
theorem SetTb_no (t : Nat) (v : Value) (L : List Tb.Rt) (l b hop : Int) (w : World) (hl : L.length ≤ 40) (hw : Tb.Wf L) (h : TAt w t v L) (hc : Tb.setC L ⟨l, b⟩ hop ≠ 0) :
    Calls Try.prog 13 #[.pointer (some ⟨t, 0, none⟩), .agg #[.int .i64 l, .int .i64 b], .int .i64 hop] w (IntFr (Tb.setC L ⟨l, b⟩ hop) w) := by
  obtain ⟨a, c, rfl, ha, hs, hcell⟩ := h.shape
  clear h hs
  have HA := Lib.hid ha; clear ha; have HW := Lib.hid hw; clear hw; have HLL := Lib.hid hl; clear hl; have HC := Lib.hid hcell; clear hcell
  by_cases hok : Tb.ok ⟨l, b⟩
  · have hd := decide_eq_true hok
    by_cases h2 : hop = -2
    · subst h2
      by_cases hg : Tb.get L ⟨l, b⟩ = -2
      · have e : Tb.setC L ⟨l, b⟩ (-2) = 6 := by unfold Tb.setC; rw [if_neg (by simp [hok]), if_pos ⟨hg, rfl⟩]
        have hdg := decide_eq_false (show ¬ Tb.get L ⟨l, b⟩ ≠ -2 from fun h => h hg)
        rw [e]
        have HD := Lib.hid hd; clear hd; have HOK := Lib.hid hok; clear hok; have HDG := Lib.hid hdg; clear hdg
        clear e hc hg
        go_enter Try.func13, Try.ntmps13
        go_upto_region 1 with fail
        refine wp_name fun w1 hw1 => ?_
        have c0 : w1.cell? ⟨w.heap.size, 0, none⟩ = some (.int .i64 l) := by rw [hw1]; simp
        have c1 : w1.cell? ⟨w.heap.size, 1, none⟩ = some (.int .i64 b) := by rw [hw1]; simp
        have hF : Fr NoB w w1 := by rw [hw1]; (repeat (first | exact Fr.refl _ _ | refine Fr.alloc ?_ _ | refine Fr.setNew ?_ (by omega) _ _ | refine Fr.drewN ?_ _ | refine Fr.drew ?_))
        have hc := cell_fr' hF HC.out (fun h => h)
        clear hw1
        have HF0 := Lib.hid hF; clear hF
        go_wp2_with fail
        refine (at_any t a c L l b _ (by have := HLL.out; omega) HW.out (HA.out.keep0 HF0.out) hc).mono ?_
        unfold AtPost
        rw [HDG.out]
        rintro e w2 ⟨rfl, hf⟩
        have c0 := cell_fr' hf c0 (fun h => h)
        have c1 := cell_fr' hf c1 (fun h => h)
        have hc := cell_fr' hf hc (fun h => h)
        have HF1 := Lib.hid (HF0.out.trans hf)
        clear hf HF0
        go_wp2_with fail
        refine (Check_any l b _).mono ?_
        rw [HD.out]
        rintro e w3 ⟨rfl, hf⟩
        have c0 := cell_fr' hf c0 (fun h => h)
        have c1 := cell_fr' hf c1 (fun h => h)
        have hc := cell_fr' hf hc (fun h => h)
        have HF2 := Lib.hid (HF1.out.trans hf)
        clear hf HF1
        go_wp2
        go_ret
        exact ⟨rfl, HF2.out⟩
      · exact absurd (by unfold Tb.setC; rw [if_neg (by simp [hok]), if_neg (fun h => hg h.1), if_neg (fun h => hg h.1)]) hc
    · have hb : (hop == -2) = false := by simpa using h2
      have hb2 : (hop != -2) = true := by simpa using h2
      by_cases hho : Tb.hopOK hop
      · have hd2 := decide_eq_true hho
        by_cases hg : Tb.get L ⟨l, b⟩ = -2
        · by_cases h40 : 40 ≤ L.length
          · have e : Tb.setC L ⟨l, b⟩ hop = 9 := by unfold Tb.setC; rw [if_neg (by simp [hok, hho]), if_neg (fun h => h2 h.2), if_pos ⟨hg, h40⟩]
            have hdg := decide_eq_false (show ¬ Tb.get L ⟨l, b⟩ ≠ -2 from fun h => h hg)
            have hb40 : ((L.length : Int) == 40) = true := by have := HLL.out; simp; omega
            rw [e]
            have HD := Lib.hid hd; clear hd; have HOK := Lib.hid hok; clear hok; have HDG := Lib.hid hdg; clear hdg; have HD2 := Lib.hid hd2; clear hd2; have HHO := Lib.hid hho; clear hho
            clear e hc h2 hg
            go_enter Try.func13, Try.ntmps13
            go_upto_region 1 with fail
            refine wp_name fun w1 hw1 => ?_
            have c0 : w1.cell? ⟨w.heap.size, 0, none⟩ = some (.int .i64 l) := by rw [hw1]; simp
            have c1 : w1.cell? ⟨w.heap.size, 1, none⟩ = some (.int .i64 b) := by rw [hw1]; simp
            have hF : Fr NoB w w1 := by rw [hw1]; (repeat (first | exact Fr.refl _ _ | refine Fr.alloc ?_ _ | refine Fr.setNew ?_ (by omega) _ _ | refine Fr.drewN ?_ _ | refine Fr.drew ?_))
            have hc := cell_fr' hF HC.out (fun h => h)
            clear hw1
            have HF0 := Lib.hid hF; clear hF
            go_wp2_with fail
            refine (at_any t a c L l b _ (by have := HLL.out; omega) HW.out (HA.out.keep0 HF0.out) hc).mono ?_
            unfold AtPost
            rw [HDG.out]
            rintro e w2 ⟨rfl, hf⟩
            have c0 := cell_fr' hf c0 (fun h => h)
            have c1 := cell_fr' hf c1 (fun h => h)
            have hc := cell_fr' hf hc (fun h => h)
            have HF1 := Lib.hid (HF0.out.trans hf)
            clear hf HF0
            go_wp2_with fail
            refine (Check_any l b _).mono ?_
            rw [HD.out]
            rintro e w3 ⟨rfl, hf⟩
            have c0 := cell_fr' hf c0 (fun h => h)
            have c1 := cell_fr' hf c1 (fun h => h)
            have hc := cell_fr' hf hc (fun h => h)
            have HF2 := Lib.hid (HF1.out.trans hf)
            clear hf HF1
            go_wp2_with fail
            refine (Hop_any hop _).mono ?_
            rw [HD2.out]
            rintro e w4 ⟨rfl, rfl⟩
            go_wp2
            go_ret
            exact ⟨rfl, HF2.out⟩
          · exact absurd (by unfold Tb.setC; rw [if_neg (by simp [hok, hho]), if_neg (fun h => h2 h.2), if_neg (fun h => h40 h.2)]) hc
        · exact absurd (by unfold Tb.setC; rw [if_neg (by simp [hok, hho]), if_neg (fun h => hg h.1), if_neg (fun h => hg h.1)]) hc
      · have hd2 := decide_eq_false hho
        have e : Tb.setC L ⟨l, b⟩ hop = 1 := by unfold Tb.setC; rw [if_pos (.inr ⟨h2, hho⟩)]
        have hdg : ∃ bb, decide (Tb.get L ⟨l, b⟩ ≠ -2) = bb := ⟨_, rfl⟩
        obtain ⟨bb, hdg⟩ := hdg
        rw [e]
        have HD := Lib.hid hd; clear hd; have HOK := Lib.hid hok; clear hok; have HD2 := Lib.hid hd2; clear hd2; have HHO := Lib.hid hho; clear hho; have HDG := Lib.hid hdg; clear hdg
        clear e hc h2
        go_enter Try.func13, Try.ntmps13
        go_upto_region 1 with fail
        refine wp_name fun w1 hw1 => ?_
        have c0 : w1.cell? ⟨w.heap.size, 0, none⟩ = some (.int .i64 l) := by rw [hw1]; simp
        have c1 : w1.cell? ⟨w.heap.size, 1, none⟩ = some (.int .i64 b) := by rw [hw1]; simp
        have hF : Fr NoB w w1 := by rw [hw1]; (repeat (first | exact Fr.refl _ _ | refine Fr.alloc ?_ _ | refine Fr.setNew ?_ (by omega) _ _ | refine Fr.drewN ?_ _ | refine Fr.drew ?_))
        have hc := cell_fr' hF HC.out (fun h => h)
        clear hw1
        have HF0 := Lib.hid hF; clear hF
        go_wp2_with fail
        refine (at_any t a c L l b _ (by have := HLL.out; omega) HW.out (HA.out.keep0 HF0.out) hc).mono ?_
        unfold AtPost
        rw [HDG.out]
        rintro e w2 ⟨rfl, hf⟩
        have c0 := cell_fr' hf c0 (fun h => h)
        have c1 := cell_fr' hf c1 (fun h => h)
        have hc := cell_fr' hf hc (fun h => h)
        have HF1 := Lib.hid (HF0.out.trans hf)
        clear hf HF0
        go_wp2_with fail
        refine (Check_any l b _).mono ?_
        rw [HD.out]
        rintro e w3 ⟨rfl, hf⟩
        have c0 := cell_fr' hf c0 (fun h => h)
        have c1 := cell_fr' hf c1 (fun h => h)
        have hc := cell_fr' hf hc (fun h => h)
        have HF2 := Lib.hid (HF1.out.trans hf)
        clear hf HF1
        go_wp2_with fail
        refine (Hop_any hop _).mono ?_
        rw [HD2.out]
        rintro e w4 ⟨rfl, rfl⟩
        go_wp2
        go_ret
        exact ⟨rfl, HF2.out⟩
  · have hd := decide_eq_false hok
    have e : Tb.setC L ⟨l, b⟩ hop = 1 := by unfold Tb.setC; rw [if_pos (.inl hok)]
    have hdg : ∃ bb, decide (Tb.get L ⟨l, b⟩ ≠ -2) = bb := ⟨_, rfl⟩
    obtain ⟨bb, hdg⟩ := hdg
    rw [e]
    have HD := Lib.hid hd; clear hd; have HOK := Lib.hid hok; clear hok; have HDG := Lib.hid hdg; clear hdg
    clear e hc
    go_enter Try.func13, Try.ntmps13
    go_upto_region 1 with fail
    refine wp_name fun w1 hw1 => ?_
    have c0 : w1.cell? ⟨w.heap.size, 0, none⟩ = some (.int .i64 l) := by rw [hw1]; simp
    have c1 : w1.cell? ⟨w.heap.size, 1, none⟩ = some (.int .i64 b) := by rw [hw1]; simp
    have hF : Fr NoB w w1 := by rw [hw1]; (repeat (first | exact Fr.refl _ _ | refine Fr.alloc ?_ _ | refine Fr.setNew ?_ (by omega) _ _ | refine Fr.drewN ?_ _ | refine Fr.drew ?_))
    have hc := cell_fr' hF HC.out (fun h => h)
    clear hw1
    have HF0 := Lib.hid hF; clear hF
    go_wp2_with fail
    refine (at_any t a c L l b _ (by have := HLL.out; omega) HW.out (HA.out.keep0 HF0.out) hc).mono ?_
    unfold AtPost
    rw [HDG.out]
    rintro e w2 ⟨rfl, hf⟩
    have c0 := cell_fr' hf c0 (fun h => h)
    have c1 := cell_fr' hf c1 (fun h => h)
    have hc := cell_fr' hf hc (fun h => h)
    have HF1 := Lib.hid (HF0.out.trans hf)
    clear hf HF0
    go_wp2_with fail
    refine (Check_any l b _).mono ?_
    rw [HD.out]
    rintro e w3 ⟨rfl, hf⟩
    have c0 := cell_fr' hf c0 (fun h => h)
    have c1 := cell_fr' hf c1 (fun h => h)
    have hc := cell_fr' hf hc (fun h => h)
    have HF2 := Lib.hid (HF1.out.trans hf)
    clear hf HF1
    go_wp2
    go_ret
    exact ⟨rfl, HF2.out⟩
end Go.Proofs.Ytdkkeaegmmepfaa
