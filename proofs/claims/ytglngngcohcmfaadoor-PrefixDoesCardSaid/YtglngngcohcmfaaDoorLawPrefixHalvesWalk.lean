/- The law PrefixHalves: its walk. -/
import Derived.Test.YtglngngcohcmfaaDoorLawPrefixSpanWalk
namespace Go.Proofs.YtglngngcohcmfaaDoor
open Go.RowKit Go.Deep

def HvC (l b m c : Int) (w : World) (W : World) : Prop :=
  W.cell? ⟨w.heap.size, 0, none⟩ = some (.int .i64 l) ∧ W.cell? ⟨w.heap.size, 1, none⟩ = some (.int .i64 b) ∧ W.cell? ⟨w.heap.size + 1, 0, none⟩ = some (.int .i64 m) ∧ W.cell? ⟨w.heap.size + 1, 1, none⟩ = some (.int .i64 c) ∧ Fr NoB w W
def HvS (l b m c : Int) (w : World) (r : Bool) (s : Value) (W : World) : Prop := s = .bool r ∧ HvC l b m c w W
theorem ch_some (l b x : Int) (h : Tb.ok ⟨l, b⟩) (hl : l < 8) (h0 : 0 ≤ x) (h1 : x ≤ 1) (W : World) : Calls Tryd.prog 17 #[.agg #[.int .i64 l, .int .i64 b], .int .i64 x] W (RetFr (.tuple #[.agg #[.int .i64 (l + 1), .int .i64 (b * 2 + x)], .bool true]) W) := by
  have k := Child_any l b x W
  unfold chOf at k
  rw [if_pos ⟨h, hl, h0, h1⟩] at k
  exact k
theorem ch_none (l b x : Int) (h : ¬ Tb.hasChild ⟨l, b⟩ x) (W : World) : Calls Tryd.prog 17 #[.agg #[.int .i64 l, .int .i64 b], .int .i64 x] W (RetFr (.tuple #[.agg #[.int .i64 0, .int .i64 0], .bool false]) W) := by
  have k := Child_any l b x W
  unfold chOf at k
  rw [if_neg h] at k
  exact k
theorem pa_some (l b x : Int) (h : Tb.ok ⟨l, b⟩) (hl : l < 8) (h0 : 0 ≤ x) (h1 : x ≤ 1) (W : World) : Calls Tryd.prog 18 #[.agg #[.int .i64 (l + 1), .int .i64 (b * 2 + x)]] W (RetFr (.tuple #[.agg #[.int .i64 l, .int .i64 b], .bool true]) W) := by
  have k := Parent_any (l + 1) (b * 2 + x) W
  have e := Tb.parent_child (bit := x) h hl h0 h1
  unfold paOf at k
  rw [if_pos (show Tb.hasParent ⟨l + 1, b * 2 + x⟩ from e.1), show Tb.parent ⟨l + 1, b * 2 + x⟩ = ⟨l, b⟩ from e.2] at k
  exact k
set_option maxRecDepth 100000 in
set_option maxHeartbeats 16000000 in
theorem Halves_no (l b m c a : Int) (w : World) (hT : Tab w) (h : ∀ x, ¬ Tb.hasChild ⟨l, b⟩ x) : Calls Tryd.prog 6 #[.agg #[.int .i64 l, .int .i64 b], .agg #[.int .i64 m, .int .i64 c], .int .i64 a] w (BoolFr true w) := by
  have hch0 := ch_none l b 0 (h 0)
  have hch1 := ch_none l b 1 (h 1)
  have HT := Lib.hid hT; clear hT; have H := Lib.hid h; clear h; have HCH0 := Lib.hid hch0; clear hch0; have HCH1 := Lib.hid hch1; clear hch1
  go_enter Tryd.func6, Tryd.ntmps6
  go_upto_region 1 with fail
  refine wp_name fun w0 hw0 => ?_
  have hF : Fr NoB w w0 := by rw [hw0]; (repeat (first | exact Fr.refl _ _ | refine Fr.alloc ?_ _ | refine Fr.setNew ?_ (by omega) _ _ | refine Fr.drewN ?_ _ | refine Fr.drew ?_))
  have a0 : w0.cell? ⟨w.heap.size, 0, none⟩ = some (.int .i64 l) := by rw [hw0]; exact up_cell _ (box0 w _ _ _)
  have a1 : w0.cell? ⟨w.heap.size, 1, none⟩ = some (.int .i64 b) := by rw [hw0]; exact up_cell _ (box1 w _ _ _)
  have b0 : w0.cell? ⟨w.heap.size + 1, 0, none⟩ = some (.int .i64 m) := by rw [hw0]; exact box_at0 _ _ (by simp) _ _ _
  have b1 : w0.cell? ⟨w.heap.size + 1, 1, none⟩ = some (.int .i64 c) := by rw [hw0]; exact box_at1 _ _ (by simp) _ _ _
  clear hw0
  have HF0 := Lib.hid hF
  clear hF
  go_wp2_with fail
  refine (begun_any _ (HT.out.keep HF0.out)).mono ?_
  rintro e w1 ⟨rfl, hf⟩
  have a0 := cell_fr' hf a0 (fun h => h)
  have a1 := cell_fr' hf a1 (fun h => h)
  have b0 := cell_fr' hf b0 (fun h => h)
  have b1 := cell_fr' hf b1 (fun h => h)
  have HF1 := Lib.hid (HF0.out.trans hf)
  clear hf HF0
  go_wp2_with fail
  refine (HCH0.out _).mono ?_
  rintro e w2 ⟨rfl, hf⟩
  have a0 := cell_fr' hf a0 (fun h => h)
  have a1 := cell_fr' hf a1 (fun h => h)
  have b0 := cell_fr' hf b0 (fun h => h)
  have b1 := cell_fr' hf b1 (fun h => h)
  have HF2 := Lib.hid (HF1.out.trans hf)
  clear hf HF1
  go_upto_region 4 with fail
  refine wp_name fun w3 hw => ?_
  have hf : Fr NoB w2 w3 := by rw [hw]; (repeat (first | exact Fr.refl _ _ | refine Fr.alloc ?_ _ | refine Fr.setNew ?_ (by omega) _ _ | refine Fr.drewN ?_ _ | refine Fr.drew ?_))
  clear hw
  have a0 := cell_fr' hf a0 (fun h => h)
  have a1 := cell_fr' hf a1 (fun h => h)
  have b0 := cell_fr' hf b0 (fun h => h)
  have b1 := cell_fr' hf b1 (fun h => h)
  have HF3 := Lib.hid (HF2.out.trans hf)
  clear hf HF2
  go_wp2_with fail
  refine (HCH1.out _).mono ?_
  rintro e w4 ⟨rfl, hf⟩
  have a0 := cell_fr' hf a0 (fun h => h)
  have a1 := cell_fr' hf a1 (fun h => h)
  have b0 := cell_fr' hf b0 (fun h => h)
  have b1 := cell_fr' hf b1 (fun h => h)
  have HF4 := Lib.hid (HF3.out.trans hf)
  clear hf HF3
  go_upto_region 5 with fail
  refine wp_name fun w5 hw => ?_
  have hf : Fr NoB w4 w5 := by rw [hw]; (repeat (first | exact Fr.refl _ _ | refine Fr.alloc ?_ _ | refine Fr.setNew ?_ (by omega) _ _ | refine Fr.drewN ?_ _ | refine Fr.drew ?_))
  clear hw
  have a0 := cell_fr' hf a0 (fun h => h)
  have a1 := cell_fr' hf a1 (fun h => h)
  have b0 := cell_fr' hf b0 (fun h => h)
  have b1 := cell_fr' hf b1 (fun h => h)
  have HF5 := Lib.hid (HF4.out.trans hf)
  clear hf HF4
  go_upto_region 12 with fail
  by_cases hpa : Tb.has ⟨l, b⟩ a
  · by_cases hqa : Tb.has ⟨m, c⟩ a
    · by_cases hcv : Tb.covers ⟨l, b⟩ ⟨m, c⟩
      · have h1 := decide_eq_true hpa
        have h2 := decide_eq_true hqa
        have h3 := decide_eq_true hcv
        have HPA := Lib.hid h1; clear h1; have HQA := Lib.hid h2; clear h2; have HC1 := Lib.hid h3; clear h3; have HPAP := Lib.hid hpa; clear hpa; have HQAP := Lib.hid hqa; clear hqa; have HCVP := Lib.hid hcv; clear hcv
        go_wp2_with fail
        refine (Has_any l b a _).mono ?_
        rw [HPA.out]
        rintro e w6 ⟨rfl, hf⟩
        have a0 := cell_fr' hf a0 (fun h => h)
        have a1 := cell_fr' hf a1 (fun h => h)
        have b0 := cell_fr' hf b0 (fun h => h)
        have b1 := cell_fr' hf b1 (fun h => h)
        have HF6 := Lib.hid (HF5.out.trans hf)
        clear hf HF5
        go_wp2_with fail
        refine (Has_any m c a _).mono ?_
        rw [HQA.out]
        rintro e w7 ⟨rfl, hf⟩
        have a0 := cell_fr' hf a0 (fun h => h)
        have a1 := cell_fr' hf a1 (fun h => h)
        have b0 := cell_fr' hf b0 (fun h => h)
        have b1 := cell_fr' hf b1 (fun h => h)
        have HF7 := Lib.hid (HF6.out.trans hf)
        clear hf HF6
        go_wp2_with fail
        refine (Covers_any l b m c _).mono ?_
        rw [HC1.out]
        rintro e w8 ⟨rfl, hf⟩
        have a0 := cell_fr' hf a0 (fun h => h)
        have a1 := cell_fr' hf a1 (fun h => h)
        have b0 := cell_fr' hf b0 (fun h => h)
        have b1 := cell_fr' hf b1 (fun h => h)
        have HF8 := Lib.hid (HF7.out.trans hf)
        clear hf HF7
        go_wp2
        go_ret
        exact ⟨rfl, HF8.out⟩
      · have h1 := decide_eq_true hpa
        have h2 := decide_eq_true hqa
        have h3 := decide_eq_false hcv
        have h4 := decide_eq_true ((Tb.apart_or hpa hqa).resolve_left hcv)
        have HPA := Lib.hid h1; clear h1; have HQA := Lib.hid h2; clear h2; have HC1 := Lib.hid h3; clear h3; have HC2 := Lib.hid h4; clear h4; have HPAP := Lib.hid hpa; clear hpa; have HQAP := Lib.hid hqa; clear hqa; have HCVP := Lib.hid hcv; clear hcv
        go_wp2_with fail
        refine (Has_any l b a _).mono ?_
        rw [HPA.out]
        rintro e w6 ⟨rfl, hf⟩
        have a0 := cell_fr' hf a0 (fun h => h)
        have a1 := cell_fr' hf a1 (fun h => h)
        have b0 := cell_fr' hf b0 (fun h => h)
        have b1 := cell_fr' hf b1 (fun h => h)
        have HF6 := Lib.hid (HF5.out.trans hf)
        clear hf HF5
        go_wp2_with fail
        refine (Has_any m c a _).mono ?_
        rw [HQA.out]
        rintro e w7 ⟨rfl, hf⟩
        have a0 := cell_fr' hf a0 (fun h => h)
        have a1 := cell_fr' hf a1 (fun h => h)
        have b0 := cell_fr' hf b0 (fun h => h)
        have b1 := cell_fr' hf b1 (fun h => h)
        have HF7 := Lib.hid (HF6.out.trans hf)
        clear hf HF6
        go_wp2_with fail
        refine (Covers_any l b m c _).mono ?_
        rw [HC1.out]
        rintro e w8 ⟨rfl, hf⟩
        have a0 := cell_fr' hf a0 (fun h => h)
        have a1 := cell_fr' hf a1 (fun h => h)
        have b0 := cell_fr' hf b0 (fun h => h)
        have b1 := cell_fr' hf b1 (fun h => h)
        have HF8 := Lib.hid (HF7.out.trans hf)
        clear hf HF7
        go_wp2_with fail
        refine (Covers_any m c l b _).mono ?_
        rw [HC2.out]
        rintro e w9 ⟨rfl, hf⟩
        have a0 := cell_fr' hf a0 (fun h => h)
        have a1 := cell_fr' hf a1 (fun h => h)
        have b0 := cell_fr' hf b0 (fun h => h)
        have b1 := cell_fr' hf b1 (fun h => h)
        have HF9 := Lib.hid (HF8.out.trans hf)
        clear hf HF8
        go_wp2
        go_ret
        exact ⟨rfl, HF9.out⟩
    · have h1 := decide_eq_true hpa
      have h2 := decide_eq_false hqa
      have HPA := Lib.hid h1; clear h1; have HQA := Lib.hid h2; clear h2; have HPAP := Lib.hid hpa; clear hpa; have HQAP := Lib.hid hqa; clear hqa
      go_wp2_with fail
      refine (Has_any l b a _).mono ?_
      rw [HPA.out]
      rintro e w6 ⟨rfl, hf⟩
      have a0 := cell_fr' hf a0 (fun h => h)
      have a1 := cell_fr' hf a1 (fun h => h)
      have b0 := cell_fr' hf b0 (fun h => h)
      have b1 := cell_fr' hf b1 (fun h => h)
      have HF6 := Lib.hid (HF5.out.trans hf)
      clear hf HF5
      go_wp2_with fail
      refine (Has_any m c a _).mono ?_
      rw [HQA.out]
      rintro e w7 ⟨rfl, hf⟩
      have a0 := cell_fr' hf a0 (fun h => h)
      have a1 := cell_fr' hf a1 (fun h => h)
      have b0 := cell_fr' hf b0 (fun h => h)
      have b1 := cell_fr' hf b1 (fun h => h)
      have HF7 := Lib.hid (HF6.out.trans hf)
      clear hf HF6
      go_wp2
      go_ret
      exact ⟨rfl, HF7.out⟩
  · have h1 := decide_eq_false hpa
    have HPA := Lib.hid h1; clear h1; have HPAP := Lib.hid hpa; clear hpa
    go_wp2_with fail
    refine (Has_any l b a _).mono ?_
    rw [HPA.out]
    rintro e w6 ⟨rfl, hf⟩
    have a0 := cell_fr' hf a0 (fun h => h)
    have a1 := cell_fr' hf a1 (fun h => h)
    have b0 := cell_fr' hf b0 (fun h => h)
    have b1 := cell_fr' hf b1 (fun h => h)
    have HF6 := Lib.hid (HF5.out.trans hf)
    clear hf HF5
    go_wp2
    go_ret
    exact ⟨rfl, HF6.out⟩
set_option maxRecDepth 100000 in
set_option maxHeartbeats 16000000 in
theorem Halves_ok (l b m c a : Int) (w : World) (hT : Tab w) (h : Tb.ok ⟨l, b⟩) (hl : l < 8) : Calls Tryd.prog 6 #[.agg #[.int .i64 l, .int .i64 b], .agg #[.int .i64 m, .int .i64 c], .int .i64 a] w (BoolFr true w) := by
  have hch0 := ch_some l b 0 h hl (by decide) (by decide)
  have hch1 := ch_some l b 1 h hl (by decide) (by decide)
  have hpa0 := pa_some l b 0 h hl (by decide) (by decide)
  have hpa1 := pa_some l b 1 h hl (by decide) (by decide)
  have hall := Tb.halves h hl a
  unfold Tb.child at hall
  dsimp only at hall
  rw [Int.add_zero] at hch0 hpa0 hall
  have HT := Lib.hid hT; clear hT; have H := Lib.hid h; clear h; have HCH0 := Lib.hid hch0; clear hch0; have HCH1 := Lib.hid hch1; clear hch1; have HPA0 := Lib.hid hpa0; clear hpa0; have HPA1 := Lib.hid hpa1; clear hpa1; have HALL := Lib.hid hall; clear hall
  go_enter Tryd.func6, Tryd.ntmps6
  go_upto_region 1 with fail
  refine wp_name fun w0 hw0 => ?_
  have hF : Fr NoB w w0 := by rw [hw0]; (repeat (first | exact Fr.refl _ _ | refine Fr.alloc ?_ _ | refine Fr.setNew ?_ (by omega) _ _ | refine Fr.drewN ?_ _ | refine Fr.drew ?_))
  have a0 : w0.cell? ⟨w.heap.size, 0, none⟩ = some (.int .i64 l) := by rw [hw0]; exact up_cell _ (box0 w _ _ _)
  have a1 : w0.cell? ⟨w.heap.size, 1, none⟩ = some (.int .i64 b) := by rw [hw0]; exact up_cell _ (box1 w _ _ _)
  have b0 : w0.cell? ⟨w.heap.size + 1, 0, none⟩ = some (.int .i64 m) := by rw [hw0]; exact box_at0 _ _ (by simp) _ _ _
  have b1 : w0.cell? ⟨w.heap.size + 1, 1, none⟩ = some (.int .i64 c) := by rw [hw0]; exact box_at1 _ _ (by simp) _ _ _
  clear hw0
  have HF0 := Lib.hid hF
  clear hF
  go_wp2_with fail
  refine (begun_any _ (HT.out.keep HF0.out)).mono ?_
  rintro e w1 ⟨rfl, hf⟩
  have a0 := cell_fr' hf a0 (fun h => h)
  have a1 := cell_fr' hf a1 (fun h => h)
  have b0 := cell_fr' hf b0 (fun h => h)
  have b1 := cell_fr' hf b1 (fun h => h)
  have HF1 := Lib.hid (HF0.out.trans hf)
  clear hf HF0
  go_wp2_with fail
  refine (HCH0.out _).mono ?_
  rintro e w2 ⟨rfl, hf⟩
  have a0 := cell_fr' hf a0 (fun h => h)
  have a1 := cell_fr' hf a1 (fun h => h)
  have b0 := cell_fr' hf b0 (fun h => h)
  have b1 := cell_fr' hf b1 (fun h => h)
  have HF2 := Lib.hid (HF1.out.trans hf)
  clear hf HF1
  go_upto_region 4 with fail
  refine wp_name fun w3 hw => ?_
  have c0 : w3.cell? ⟨w2.heap.size, 0, none⟩ = some (.int .i64 (l + 1)) := by rw [hw]; exact box0 w2 _ _ _
  have c1 : w3.cell? ⟨w2.heap.size, 1, none⟩ = some (.int .i64 (b * 2)) := by rw [hw]; exact box1 w2 _ _ _
  have hf : Fr NoB w2 w3 := by rw [hw]; (repeat (first | exact Fr.refl _ _ | refine Fr.alloc ?_ _ | refine Fr.setNew ?_ (by omega) _ _ | refine Fr.drewN ?_ _ | refine Fr.drew ?_))
  clear hw
  have a0 := cell_fr' hf a0 (fun h => h)
  have a1 := cell_fr' hf a1 (fun h => h)
  have b0 := cell_fr' hf b0 (fun h => h)
  have b1 := cell_fr' hf b1 (fun h => h)
  have HF3 := Lib.hid (HF2.out.trans hf)
  clear hf HF2
  go_wp2_with fail
  refine (HCH1.out _).mono ?_
  rintro e w4 ⟨rfl, hf⟩
  have a0 := cell_fr' hf a0 (fun h => h)
  have a1 := cell_fr' hf a1 (fun h => h)
  have b0 := cell_fr' hf b0 (fun h => h)
  have b1 := cell_fr' hf b1 (fun h => h)
  have c0 := cell_fr' hf c0 (fun h => h)
  have c1 := cell_fr' hf c1 (fun h => h)
  have HF4 := Lib.hid (HF3.out.trans hf)
  clear hf HF3
  go_upto_region 8 with fail
  refine wp_name fun w5 hw => ?_
  have d0 : w5.cell? ⟨w4.heap.size, 0, none⟩ = some (.int .i64 (l + 1)) := by rw [hw]; exact box0 w4 _ _ _
  have d1 : w5.cell? ⟨w4.heap.size, 1, none⟩ = some (.int .i64 (b * 2 + 1)) := by rw [hw]; exact box1 w4 _ _ _
  have hf : Fr NoB w4 w5 := by rw [hw]; (repeat (first | exact Fr.refl _ _ | refine Fr.alloc ?_ _ | refine Fr.setNew ?_ (by omega) _ _ | refine Fr.drewN ?_ _ | refine Fr.drew ?_))
  clear hw
  have a0 := cell_fr' hf a0 (fun h => h)
  have a1 := cell_fr' hf a1 (fun h => h)
  have b0 := cell_fr' hf b0 (fun h => h)
  have b1 := cell_fr' hf b1 (fun h => h)
  have c0 := cell_fr' hf c0 (fun h => h)
  have c1 := cell_fr' hf c1 (fun h => h)
  have HF5 := Lib.hid (HF4.out.trans hf)
  clear hf HF4
  go_wp2_with fail
  refine (HPA0.out _).mono ?_
  rintro e w6 ⟨rfl, hf⟩
  have a0 := cell_fr' hf a0 (fun h => h)
  have a1 := cell_fr' hf a1 (fun h => h)
  have b0 := cell_fr' hf b0 (fun h => h)
  have b1 := cell_fr' hf b1 (fun h => h)
  have c0 := cell_fr' hf c0 (fun h => h)
  have c1 := cell_fr' hf c1 (fun h => h)
  have d0 := cell_fr' hf d0 (fun h => h)
  have d1 := cell_fr' hf d1 (fun h => h)
  have HF6 := Lib.hid (HF5.out.trans hf)
  clear hf HF5
  go_upto_region 9 with fail
  refine wp_name fun w7 hw => ?_
  have e0 : w7.cell? ⟨w6.heap.size, 0, none⟩ = some (.int .i64 (l)) := by rw [hw]; exact box0 w6 _ _ _
  have e1 : w7.cell? ⟨w6.heap.size, 1, none⟩ = some (.int .i64 (b)) := by rw [hw]; exact box1 w6 _ _ _
  have hf : Fr NoB w6 w7 := by rw [hw]; (repeat (first | exact Fr.refl _ _ | refine Fr.alloc ?_ _ | refine Fr.setNew ?_ (by omega) _ _ | refine Fr.drewN ?_ _ | refine Fr.drew ?_))
  clear hw
  have a0 := cell_fr' hf a0 (fun h => h)
  have a1 := cell_fr' hf a1 (fun h => h)
  have b0 := cell_fr' hf b0 (fun h => h)
  have b1 := cell_fr' hf b1 (fun h => h)
  have c0 := cell_fr' hf c0 (fun h => h)
  have c1 := cell_fr' hf c1 (fun h => h)
  have d0 := cell_fr' hf d0 (fun h => h)
  have d1 := cell_fr' hf d1 (fun h => h)
  have HF7 := Lib.hid (HF6.out.trans hf)
  clear hf HF6
  go_wp2_with fail
  refine (HPA1.out _).mono ?_
  rintro e w8 ⟨rfl, hf⟩
  have a0 := cell_fr' hf a0 (fun h => h)
  have a1 := cell_fr' hf a1 (fun h => h)
  have b0 := cell_fr' hf b0 (fun h => h)
  have b1 := cell_fr' hf b1 (fun h => h)
  have c0 := cell_fr' hf c0 (fun h => h)
  have c1 := cell_fr' hf c1 (fun h => h)
  have d0 := cell_fr' hf d0 (fun h => h)
  have d1 := cell_fr' hf d1 (fun h => h)
  have e0 := cell_fr' hf e0 (fun h => h)
  have e1 := cell_fr' hf e1 (fun h => h)
  have HF8 := Lib.hid (HF7.out.trans hf)
  clear hf HF7
  go_upto_region 10 with fail
  refine wp_name fun w9 hw => ?_
  have f0 : w9.cell? ⟨w8.heap.size, 0, none⟩ = some (.int .i64 (l)) := by rw [hw]; exact box0 w8 _ _ _
  have f1 : w9.cell? ⟨w8.heap.size, 1, none⟩ = some (.int .i64 (b)) := by rw [hw]; exact box1 w8 _ _ _
  have hf : Fr NoB w8 w9 := by rw [hw]; (repeat (first | exact Fr.refl _ _ | refine Fr.alloc ?_ _ | refine Fr.setNew ?_ (by omega) _ _ | refine Fr.drewN ?_ _ | refine Fr.drew ?_))
  clear hw
  have a0 := cell_fr' hf a0 (fun h => h)
  have a1 := cell_fr' hf a1 (fun h => h)
  have b0 := cell_fr' hf b0 (fun h => h)
  have b1 := cell_fr' hf b1 (fun h => h)
  have c0 := cell_fr' hf c0 (fun h => h)
  have c1 := cell_fr' hf c1 (fun h => h)
  have d0 := cell_fr' hf d0 (fun h => h)
  have d1 := cell_fr' hf d1 (fun h => h)
  have e0 := cell_fr' hf e0 (fun h => h)
  have e1 := cell_fr' hf e1 (fun h => h)
  have HF9 := Lib.hid (HF8.out.trans hf)
  clear hf HF8
  go_cut [80] (fun s wx => HvS l b m c w false s wx)
  case first =>
    by_cases hx : Tb.has ⟨l + 1, b * 2⟩ a
    · have hy : ¬ Tb.has ⟨l + 1, b * 2 + 1⟩ a := fun h => HALL.out.1 ⟨hx, h⟩
      have h0 : decide (Tb.has ⟨l + 1, b * 2⟩ a) = true := decide_eq_true hx
      have h1 : decide (Tb.has ⟨l + 1, b * 2 + 1⟩ a) = false := decide_eq_false hy
      have h2 : decide (Tb.has ⟨l, b⟩ a) = true := decide_eq_true (HALL.out.2.2 (.inl hx))
      have HH0 := Lib.hid h0; clear h0; have HH1 := Lib.hid h1; clear h1; have HH2 := Lib.hid h2; clear h2; have HXX := Lib.hid hx; clear hx; have HYY := Lib.hid hy; clear hy
      (refine wp_region_held_drew (S := (fun W => W.cell? ⟨w.heap.size, 0, none⟩ = some (.int .i64 l) ∧ W.cell? ⟨w.heap.size, 1, none⟩ = some (.int .i64 b) ∧ W.cell? ⟨w.heap.size + 1, 0, none⟩ = some (.int .i64 m) ∧ W.cell? ⟨w.heap.size + 1, 1, none⟩ = some (.int .i64 c) ∧ W.cell? ⟨w2.heap.size, 0, none⟩ = some (.int .i64 (l + 1)) ∧ W.cell? ⟨w2.heap.size, 1, none⟩ = some (.int .i64 (b * 2)) ∧ W.cell? ⟨w4.heap.size, 0, none⟩ = some (.int .i64 (l + 1)) ∧ W.cell? ⟨w4.heap.size, 1, none⟩ = some (.int .i64 (b * 2 + 1)) ∧ W.cell? ⟨w6.heap.size, 0, none⟩ = some (.int .i64 l) ∧ W.cell? ⟨w6.heap.size, 1, none⟩ = some (.int .i64 b) ∧ W.cell? ⟨w8.heap.size, 0, none⟩ = some (.int .i64 l) ∧ W.cell? ⟨w8.heap.size, 1, none⟩ = some (.int .i64 b))) (by kernel_rfl) ⟨a0, a1, b0, b1, c0, c1, d0, d1, e0, e1, f0, f1⟩ (fun hHeld => ?_))
      (refine wpAnyH_take (i := 0) (v := ?_) (by simp only [List.getElem?_toArray, List.getElem?_cons_zero]; rfl) (by kernel_rfl) (by kernel_rfl) (by kernel_rfl) (by exact fun _ _ _ h => h) (Or.inl ⟨by rfl, ?_⟩) hHeld ?_; rotate_left; (focus (intro w hSw; (try dsimp only at hSw); go_simp; all_goals with_reducible rfl)); (try simp only [Act.put, List.setIfInBounds_toArray, List.set_cons_zero, List.set_cons_succ])); (refine wpAnyH_take (i := 1) (v := ?_) (by simp only [List.getElem?_toArray, List.getElem?_cons_succ, List.getElem?_cons_zero]; rfl) (by kernel_rfl) (by kernel_rfl) (by kernel_rfl) (by exact fun _ _ _ h => h) (Or.inl ⟨by rfl, ?_⟩) hHeld ?_; rotate_left; (focus (intro w hSw; (try dsimp only at hSw); go_simp; all_goals with_reducible rfl)); (try simp only [Act.put, List.setIfInBounds_toArray, List.set_cons_zero, List.set_cons_succ])); (refine wpAnyH_take (i := 2) (v := ?_) (by simp only [List.getElem?_toArray, List.getElem?_cons_succ, List.getElem?_cons_zero]; rfl) (by kernel_rfl) (by kernel_rfl) (by kernel_rfl) (by exact fun _ _ _ h => h) (Or.inl ⟨by rfl, ?_⟩) hHeld ?_; rotate_left; (focus (intro w hSw; (try dsimp only at hSw); go_simp; all_goals with_reducible rfl)); (try simp only [Act.put, List.setIfInBounds_toArray, List.set_cons_zero, List.set_cons_succ])); (refine wpAnyH_take (i := 3) (v := ?_) (by simp only [List.getElem?_toArray, List.getElem?_cons_succ, List.getElem?_cons_zero]; rfl) (by kernel_rfl) (by kernel_rfl) (by kernel_rfl) (by exact fun _ _ _ h => h) (Or.inl ⟨by rfl, ?_⟩) hHeld ?_; rotate_left; (focus (intro w hSw; (try dsimp only at hSw); go_simp; all_goals with_reducible rfl)); (try simp only [Act.put, List.setIfInBounds_toArray, List.set_cons_zero, List.set_cons_succ])); (refine wpAnyH_take (i := 4) (v := ?_) (by simp only [List.getElem?_toArray, List.getElem?_cons_succ, List.getElem?_cons_zero]; rfl) (by kernel_rfl) (by kernel_rfl) (by kernel_rfl) (by exact fun _ _ _ h => h) (Or.inl ⟨by rfl, ?_⟩) hHeld ?_; rotate_left; (focus (intro w hSw; (try dsimp only at hSw); go_simp; all_goals with_reducible rfl)); (try simp only [Act.put, List.setIfInBounds_toArray, List.set_cons_zero, List.set_cons_succ])); (refine wpAnyH_take (i := 5) (v := ?_) (by simp only [List.getElem?_toArray, List.getElem?_cons_succ, List.getElem?_cons_zero]; rfl) (by kernel_rfl) (by kernel_rfl) (by kernel_rfl) (by exact fun _ _ _ h => h) (Or.inl ⟨by rfl, ?_⟩) hHeld ?_; rotate_left; (focus (intro w hSw; (try dsimp only at hSw); go_simp; all_goals with_reducible rfl)); (try simp only [Act.put, List.setIfInBounds_toArray, List.set_cons_zero, List.set_cons_succ])); (refine wpAnyH_take (i := 6) (v := ?_) (by simp only [List.getElem?_toArray, List.getElem?_cons_succ, List.getElem?_cons_zero]; rfl) (by kernel_rfl) (by kernel_rfl) (by kernel_rfl) (by exact fun _ _ _ h => h) (Or.inl ⟨by rfl, ?_⟩) hHeld ?_; rotate_left; (focus (intro w hSw; (try dsimp only at hSw); go_simp; all_goals with_reducible rfl)); (try simp only [Act.put, List.setIfInBounds_toArray, List.set_cons_zero, List.set_cons_succ])); (refine wpAnyH_take (i := 7) (v := ?_) (by simp only [List.getElem?_toArray, List.getElem?_cons_succ, List.getElem?_cons_zero]; rfl) (by kernel_rfl) (by kernel_rfl) (by kernel_rfl) (by exact fun _ _ _ h => h) (Or.inl ⟨by rfl, ?_⟩) hHeld ?_; rotate_left; (focus (intro w hSw; (try dsimp only at hSw); go_simp; all_goals with_reducible rfl)); (try simp only [Act.put, List.setIfInBounds_toArray, List.set_cons_zero, List.set_cons_succ])); (refine wpAnyH_take (i := 8) (v := ?_) (by simp only [List.getElem?_toArray, List.getElem?_cons_succ, List.getElem?_cons_zero]; rfl) (by kernel_rfl) (by kernel_rfl) (by kernel_rfl) (by exact fun _ _ _ h => h) (Or.inl ⟨by rfl, ?_⟩) hHeld ?_; rotate_left; (focus (intro w hSw; (try dsimp only at hSw); go_simp; all_goals with_reducible rfl)); (try simp only [Act.put, List.setIfInBounds_toArray, List.set_cons_zero, List.set_cons_succ])); (refine wpAnyH_take (i := 9) (v := ?_) (by simp only [List.getElem?_toArray, List.getElem?_cons_succ, List.getElem?_cons_zero]; rfl) (by kernel_rfl) (by kernel_rfl) (by kernel_rfl) (by exact fun _ _ _ h => h) (Or.inl ⟨by rfl, ?_⟩) hHeld ?_; rotate_left; (focus (intro w hSw; (try dsimp only at hSw); go_simp; all_goals with_reducible rfl)); (try simp only [Act.put, List.setIfInBounds_toArray, List.set_cons_zero, List.set_cons_succ])); (refine wpAnyH_take (i := 10) (v := ?_) (by simp only [List.getElem?_toArray, List.getElem?_cons_succ, List.getElem?_cons_zero]; rfl) (by kernel_rfl) (by kernel_rfl) (by kernel_rfl) (by exact fun _ _ _ h => h) (Or.inl ⟨by rfl, ?_⟩) hHeld ?_; rotate_left; (focus (intro w hSw; (try dsimp only at hSw); go_simp; all_goals with_reducible rfl)); (try simp only [Act.put, List.setIfInBounds_toArray, List.set_cons_zero, List.set_cons_succ])); (refine wpAnyH_take (i := 11) (v := ?_) (by simp only [List.getElem?_toArray, List.getElem?_cons_succ, List.getElem?_cons_zero]; rfl) (by kernel_rfl) (by kernel_rfl) (by kernel_rfl) (by exact fun _ _ _ h => h) (Or.inl ⟨by rfl, ?_⟩) hHeld ?_; rotate_left; (focus (intro w hSw; (try dsimp only at hSw); go_simp; all_goals with_reducible rfl)); (try simp only [Act.put, List.setIfInBounds_toArray, List.set_cons_zero, List.set_cons_succ])); (refine wpAnyH_take (i := 12) (v := ?_) (by simp only [List.getElem?_toArray, List.getElem?_cons_succ, List.getElem?_cons_zero]; rfl) (by kernel_rfl) (by kernel_rfl) (by kernel_rfl) (by exact fun _ _ _ h => h) (Or.inl ⟨by rfl, ?_⟩) hHeld ?_; rotate_left; (focus (intro w hSw; (try dsimp only at hSw); go_simp; all_goals with_reducible rfl)); (try simp only [Act.put, List.setIfInBounds_toArray, List.set_cons_zero, List.set_cons_succ])); (refine wpAnyH_take (i := 13) (v := ?_) (by simp only [List.getElem?_toArray, List.getElem?_cons_succ, List.getElem?_cons_zero]; rfl) (by kernel_rfl) (by kernel_rfl) (by kernel_rfl) (by exact fun _ _ _ h => h) (Or.inl ⟨by rfl, ?_⟩) hHeld ?_; rotate_left; (focus (intro w hSw; (try dsimp only at hSw); go_simp; all_goals with_reducible rfl)); (try simp only [Act.put, List.setIfInBounds_toArray, List.set_cons_zero, List.set_cons_succ])); (refine wpAnyH_take (i := 14) (v := ?_) (by simp only [List.getElem?_toArray, List.getElem?_cons_succ, List.getElem?_cons_zero]; rfl) (by kernel_rfl) (by kernel_rfl) (by kernel_rfl) (by exact fun _ _ _ h => h) (Or.inl ⟨by rfl, ?_⟩) hHeld ?_; rotate_left; (focus (intro w hSw; (try dsimp only at hSw); go_simp; all_goals with_reducible rfl)); (try simp only [Act.put, List.setIfInBounds_toArray, List.set_cons_zero, List.set_cons_succ])); (refine wpAnyH_take (i := 15) (v := ?_) (by simp only [List.getElem?_toArray, List.getElem?_cons_succ, List.getElem?_cons_zero]; rfl) (by kernel_rfl) (by kernel_rfl) (by kernel_rfl) (by exact fun _ _ _ h => h) (Or.inl ⟨by rfl, ?_⟩) hHeld ?_; rotate_left; (focus (intro w hSw; (try dsimp only at hSw); go_simp; all_goals with_reducible rfl)); (try simp only [Act.put, List.setIfInBounds_toArray, List.set_cons_zero, List.set_cons_succ])); (refine wpAnyH_take (i := 16) (v := ?_) (by simp only [List.getElem?_toArray, List.getElem?_cons_succ, List.getElem?_cons_zero]; rfl) (by kernel_rfl) (by kernel_rfl) (by kernel_rfl) (by exact fun _ _ _ h => h) (Or.inl ⟨by rfl, ?_⟩) hHeld ?_; rotate_left; (focus (intro w hSw; (try dsimp only at hSw); go_simp; all_goals with_reducible rfl)); (try simp only [Act.put, List.setIfInBounds_toArray, List.set_cons_zero, List.set_cons_succ])); (refine wpAnyH_take (i := 17) (v := ?_) (by simp only [List.getElem?_toArray, List.getElem?_cons_succ, List.getElem?_cons_zero]; rfl) (by kernel_rfl) (by kernel_rfl) (by kernel_rfl) (by exact fun _ _ _ h => h) (Or.inl ⟨by rfl, ?_⟩) hHeld ?_; rotate_left; (focus (intro w hSw; (try dsimp only at hSw); go_simp; all_goals with_reducible rfl)); (try simp only [Act.put, List.setIfInBounds_toArray, List.set_cons_zero, List.set_cons_succ])); (refine wpAnyH_take (i := 18) (v := ?_) (by simp only [List.getElem?_toArray, List.getElem?_cons_succ, List.getElem?_cons_zero]; rfl) (by kernel_rfl) (by kernel_rfl) (by kernel_rfl) (by exact fun _ _ _ h => h) (Or.inl ⟨by rfl, ?_⟩) hHeld ?_; rotate_left; (focus (intro w hSw; (try dsimp only at hSw); go_simp; all_goals with_reducible rfl)); (try simp only [Act.put, List.setIfInBounds_toArray, List.set_cons_zero, List.set_cons_succ]))
      (refine wpAnyH_ready (rs := [19]) (by kernel_rfl) (by simp) ?_; refine AllReadyH.cons (by simp only [List.getElem?_toArray, List.getElem?_cons_succ, List.getElem?_cons_zero]; rfl) (fun K hK => ?_) AllReadyH.nil; go_simp); (refine (Has_any (l + 1) (b * 2) a _).mono ?_; rw [HH0.out]; rintro e w10 ⟨rfl, hf⟩; replace a0 := cell_fr' hf a0 (fun h => h); replace a1 := cell_fr' hf a1 (fun h => h); replace b0 := cell_fr' hf b0 (fun h => h); replace b1 := cell_fr' hf b1 (fun h => h); replace c0 := cell_fr' hf c0 (fun h => h); replace c1 := cell_fr' hf c1 (fun h => h); replace d0 := cell_fr' hf d0 (fun h => h); replace d1 := cell_fr' hf d1 (fun h => h); replace e0 := cell_fr' hf e0 (fun h => h); replace e1 := cell_fr' hf e1 (fun h => h); replace f0 := cell_fr' hf f0 (fun h => h); replace f1 := cell_fr' hf f1 (fun h => h); have HF10 := Lib.hid (HF9.out.drew.trans hf); clear hf); (try go_wp2_with fail); (refine hK.out _ _ ⟨a0, a1, b0, b1, c0, c1, d0, d1, e0, e1, f0, f1⟩ (fun hHeld => ?_)); clear hK K; (try simp only [Act.put, List.setIfInBounds_toArray, List.set_cons_zero, List.set_cons_succ])
      (refine wpAnyH_take (i := 20) (v := ?_) (by simp only [List.getElem?_toArray, List.getElem?_cons_succ, List.getElem?_cons_zero]; rfl) (by kernel_rfl) (by kernel_rfl) (by kernel_rfl) (by exact fun _ _ _ h => h) (Or.inl ⟨by rfl, ?_⟩) hHeld ?_; rotate_left; (focus (intro w hSw; (try dsimp only at hSw); go_simp; all_goals with_reducible rfl)); (try simp only [Act.put, List.setIfInBounds_toArray, List.set_cons_zero, List.set_cons_succ]))
      (refine wpAnyH_take (i := 21) (v := ?_) (by simp only [List.getElem?_toArray, List.getElem?_cons_succ, List.getElem?_cons_zero]; rfl) (by kernel_rfl) (by kernel_rfl) (by kernel_rfl) (by exact fun _ _ _ h => h) (Or.inl ⟨by rfl, ?_⟩) hHeld ?_; rotate_left; (focus (intro w hSw; (try dsimp only at hSw); go_simp; all_goals with_reducible rfl)); (try simp only [Act.put, List.setIfInBounds_toArray, List.set_cons_zero, List.set_cons_succ])); (refine wpAnyH_take (i := 22) (v := ?_) (by simp only [List.getElem?_toArray, List.getElem?_cons_succ, List.getElem?_cons_zero]; rfl) (by kernel_rfl) (by kernel_rfl) (by kernel_rfl) (by exact fun _ _ _ h => h) (Or.inl ⟨by rfl, ?_⟩) hHeld ?_; rotate_left; (focus (intro w hSw; (try dsimp only at hSw); go_simp; all_goals with_reducible rfl)); (try simp only [Act.put, List.setIfInBounds_toArray, List.set_cons_zero, List.set_cons_succ]))
      (refine wpAnyH_ready (rs := [23]) (by kernel_rfl) (by simp) ?_; refine AllReadyH.cons (by simp only [List.getElem?_toArray, List.getElem?_cons_succ, List.getElem?_cons_zero]; rfl) (fun K hK => ?_) AllReadyH.nil; go_simp); (refine (Has_any (l + 1) (b * 2 + 1) a _).mono ?_; rw [HH1.out]; rintro e w11 ⟨rfl, hf⟩; replace a0 := cell_fr' hf a0 (fun h => h); replace a1 := cell_fr' hf a1 (fun h => h); replace b0 := cell_fr' hf b0 (fun h => h); replace b1 := cell_fr' hf b1 (fun h => h); replace c0 := cell_fr' hf c0 (fun h => h); replace c1 := cell_fr' hf c1 (fun h => h); replace d0 := cell_fr' hf d0 (fun h => h); replace d1 := cell_fr' hf d1 (fun h => h); replace e0 := cell_fr' hf e0 (fun h => h); replace e1 := cell_fr' hf e1 (fun h => h); replace f0 := cell_fr' hf f0 (fun h => h); replace f1 := cell_fr' hf f1 (fun h => h); have HF11 := Lib.hid (HF10.out.trans hf); clear hf); (try go_wp2_with fail); (refine hK.out _ _ ⟨a0, a1, b0, b1, c0, c1, d0, d1, e0, e1, f0, f1⟩ (fun hHeld => ?_)); clear hK K; (try simp only [Act.put, List.setIfInBounds_toArray, List.set_cons_zero, List.set_cons_succ])
      (refine wpAnyH_take (i := 24) (v := ?_) (by simp only [List.getElem?_toArray, List.getElem?_cons_succ, List.getElem?_cons_zero]; rfl) (by kernel_rfl) (by kernel_rfl) (by kernel_rfl) (by exact fun _ _ _ h => h) (Or.inl ⟨by rfl, ?_⟩) hHeld ?_; rotate_left; (focus (intro w hSw; (try dsimp only at hSw); go_simp; all_goals with_reducible rfl)); (try simp only [Act.put, List.setIfInBounds_toArray, List.set_cons_zero, List.set_cons_succ])); (refine wpAnyH_take (i := 25) (v := ?_) (by simp only [List.getElem?_toArray, List.getElem?_cons_succ, List.getElem?_cons_zero]; rfl) (by kernel_rfl) (by kernel_rfl) (by kernel_rfl) (by exact fun _ _ _ h => h) (Or.inl ⟨by rfl, ?_⟩) hHeld ?_; rotate_left; (focus (intro w hSw; (try dsimp only at hSw); go_simp; all_goals with_reducible rfl)); (try simp only [Act.put, List.setIfInBounds_toArray, List.set_cons_zero, List.set_cons_succ])); (refine wpAnyH_take (i := 26) (v := ?_) (by simp only [List.getElem?_toArray, List.getElem?_cons_succ, List.getElem?_cons_zero]; rfl) (by kernel_rfl) (by kernel_rfl) (by kernel_rfl) (by exact fun _ _ _ h => h) (Or.inl ⟨by rfl, ?_⟩) hHeld ?_; rotate_left; (focus (intro w hSw; (try dsimp only at hSw); go_simp; all_goals with_reducible rfl)); (try simp only [Act.put, List.setIfInBounds_toArray, List.set_cons_zero, List.set_cons_succ])); (refine wpAnyH_take (i := 27) (v := ?_) (by simp only [List.getElem?_toArray, List.getElem?_cons_succ, List.getElem?_cons_zero]; rfl) (by kernel_rfl) (by kernel_rfl) (by kernel_rfl) (by exact fun _ _ _ h => h) (Or.inl ⟨by rfl, ?_⟩) hHeld ?_; rotate_left; (focus (intro w hSw; (try dsimp only at hSw); go_simp; all_goals with_reducible rfl)); (try simp only [Act.put, List.setIfInBounds_toArray, List.set_cons_zero, List.set_cons_succ])); (refine wpAnyH_take (i := 28) (v := ?_) (by simp only [List.getElem?_toArray, List.getElem?_cons_succ, List.getElem?_cons_zero]; rfl) (by kernel_rfl) (by kernel_rfl) (by kernel_rfl) (by exact fun _ _ _ h => h) (Or.inl ⟨by rfl, ?_⟩) hHeld ?_; rotate_left; (focus (intro w hSw; (try dsimp only at hSw); go_simp; all_goals with_reducible rfl)); (try simp only [Act.put, List.setIfInBounds_toArray, List.set_cons_zero, List.set_cons_succ])); (refine wpAnyH_take (i := 30) (v := ?_) (by simp only [List.getElem?_toArray, List.getElem?_cons_succ, List.getElem?_cons_zero]; rfl) (by kernel_rfl) (by kernel_rfl) (by kernel_rfl) (by exact fun _ _ _ h => h) (Or.inl ⟨by rfl, ?_⟩) hHeld ?_; rotate_left; (focus (intro w hSw; (try dsimp only at hSw); go_simp; all_goals with_reducible rfl)); (try simp only [Act.put, List.setIfInBounds_toArray, List.set_cons_zero, List.set_cons_succ])); (refine wpAnyH_take (i := 31) (v := ?_) (by simp only [List.getElem?_toArray, List.getElem?_cons_succ, List.getElem?_cons_zero]; rfl) (by kernel_rfl) (by kernel_rfl) (by kernel_rfl) (by exact fun _ _ _ h => h) (Or.inl ⟨by rfl, ?_⟩) hHeld ?_; rotate_left; (focus (intro w hSw; (try dsimp only at hSw); go_simp; all_goals with_reducible rfl)); (try simp only [Act.put, List.setIfInBounds_toArray, List.set_cons_zero, List.set_cons_succ]))
      (refine wpAnyH_ready (rs := [29]) (by kernel_rfl) (by simp) ?_; refine AllReadyH.cons (by simp only [List.getElem?_toArray, List.getElem?_cons_succ, List.getElem?_cons_zero]; rfl) (fun K hK => ?_) AllReadyH.nil; go_simp); (refine (Has_any l b a _).mono ?_; rw [HH2.out]; rintro e w12 ⟨rfl, hf⟩; replace a0 := cell_fr' hf a0 (fun h => h); replace a1 := cell_fr' hf a1 (fun h => h); replace b0 := cell_fr' hf b0 (fun h => h); replace b1 := cell_fr' hf b1 (fun h => h); replace c0 := cell_fr' hf c0 (fun h => h); replace c1 := cell_fr' hf c1 (fun h => h); replace d0 := cell_fr' hf d0 (fun h => h); replace d1 := cell_fr' hf d1 (fun h => h); replace e0 := cell_fr' hf e0 (fun h => h); replace e1 := cell_fr' hf e1 (fun h => h); replace f0 := cell_fr' hf f0 (fun h => h); replace f1 := cell_fr' hf f1 (fun h => h); have HF12 := Lib.hid (HF11.out.trans hf); clear hf); (try go_wp2_with fail); (refine hK.out _ _ ⟨a0, a1, b0, b1, c0, c1, d0, d1, e0, e1, f0, f1⟩ (fun hHeld => ?_)); clear hK K; (try simp only [Act.put, List.setIfInBounds_toArray, List.set_cons_zero, List.set_cons_succ])
      (refine wpAnyH_ready (rs := [32]) (by kernel_rfl) (by simp) ?_; refine AllReadyH.cons (by simp only [List.getElem?_toArray, List.getElem?_cons_succ, List.getElem?_cons_zero]; rfl) (fun K hK => ?_) AllReadyH.nil; go_simp); (refine (Has_any (l + 1) (b * 2) a _).mono ?_; rw [HH0.out]; rintro e w13 ⟨rfl, hf⟩; replace a0 := cell_fr' hf a0 (fun h => h); replace a1 := cell_fr' hf a1 (fun h => h); replace b0 := cell_fr' hf b0 (fun h => h); replace b1 := cell_fr' hf b1 (fun h => h); replace c0 := cell_fr' hf c0 (fun h => h); replace c1 := cell_fr' hf c1 (fun h => h); replace d0 := cell_fr' hf d0 (fun h => h); replace d1 := cell_fr' hf d1 (fun h => h); replace e0 := cell_fr' hf e0 (fun h => h); replace e1 := cell_fr' hf e1 (fun h => h); replace f0 := cell_fr' hf f0 (fun h => h); replace f1 := cell_fr' hf f1 (fun h => h); have HF13 := Lib.hid (HF12.out.trans hf); clear hf); (try go_wp2_with fail); (refine hK.out _ _ ⟨a0, a1, b0, b1, c0, c1, d0, d1, e0, e1, f0, f1⟩ (fun hHeld => ?_)); clear hK K; (try simp only [Act.put, List.setIfInBounds_toArray, List.set_cons_zero, List.set_cons_succ])
      (refine wpAnyH_take (i := 33) (v := ?_) (by simp only [List.getElem?_toArray, List.getElem?_cons_succ, List.getElem?_cons_zero]; rfl) (by kernel_rfl) (by kernel_rfl) (by kernel_rfl) (by exact fun _ _ _ h => h) (Or.inl ⟨by rfl, ?_⟩) hHeld ?_; rotate_left; (focus (intro w hSw; (try dsimp only at hSw); go_simp; all_goals with_reducible rfl)); (try simp only [Act.put, List.setIfInBounds_toArray, List.set_cons_zero, List.set_cons_succ]))
      (refine wpAnyH_take (i := 34) (v := undef) (by simp only [List.getElem?_toArray, List.getElem?_cons_succ, List.getElem?_cons_zero]; rfl) (by kernel_rfl) (by kernel_rfl) (by kernel_rfl) (by exact fun _ _ _ h => h) (Or.inr ⟨by rfl, rfl⟩) hHeld ?_; (try simp only [Act.put, List.setIfInBounds_toArray, List.set_cons_zero, List.set_cons_succ])); (refine wpAnyH_take (i := 35) (v := undef) (by simp only [List.getElem?_toArray, List.getElem?_cons_succ, List.getElem?_cons_zero]; rfl) (by kernel_rfl) (by kernel_rfl) (by kernel_rfl) (by exact fun _ _ _ h => h) (Or.inr ⟨by rfl, rfl⟩) hHeld ?_; (try simp only [Act.put, List.setIfInBounds_toArray, List.set_cons_zero, List.set_cons_succ])); (refine wpAnyH_take (i := 36) (v := undef) (by simp only [List.getElem?_toArray, List.getElem?_cons_succ, List.getElem?_cons_zero]; rfl) (by kernel_rfl) (by kernel_rfl) (by kernel_rfl) (by exact fun _ _ _ h => h) (Or.inr ⟨by rfl, rfl⟩) hHeld ?_; (try simp only [Act.put, List.setIfInBounds_toArray, List.set_cons_zero, List.set_cons_succ])); (refine wpAnyH_take (i := 37) (v := ?_) (by simp only [List.getElem?_toArray, List.getElem?_cons_succ, List.getElem?_cons_zero]; rfl) (by kernel_rfl) (by kernel_rfl) (by kernel_rfl) (by exact fun _ _ _ h => h) (Or.inl ⟨by rfl, ?_⟩) hHeld ?_; rotate_left; (focus (intro w hSw; (try dsimp only at hSw); go_simp; all_goals with_reducible rfl)); (try simp only [Act.put, List.setIfInBounds_toArray, List.set_cons_zero, List.set_cons_succ])); (refine wpAnyH_take (i := 38) (v := ?_) (by simp only [List.getElem?_toArray, List.getElem?_cons_succ, List.getElem?_cons_zero]; rfl) (by kernel_rfl) (by kernel_rfl) (by kernel_rfl) (by exact fun _ _ _ h => h) (Or.inl ⟨by rfl, ?_⟩) hHeld ?_; rotate_left; (focus (intro w hSw; (try dsimp only at hSw); go_simp; all_goals with_reducible rfl)); (try simp only [Act.put, List.setIfInBounds_toArray, List.set_cons_zero, List.set_cons_succ])); (refine wpAnyH_take (i := 39) (v := ?_) (by simp only [List.getElem?_toArray, List.getElem?_cons_succ, List.getElem?_cons_zero]; rfl) (by kernel_rfl) (by kernel_rfl) (by kernel_rfl) (by exact fun _ _ _ h => h) (Or.inl ⟨by rfl, ?_⟩) hHeld ?_; rotate_left; (focus (intro w hSw; (try dsimp only at hSw); go_simp; all_goals with_reducible rfl)); (try simp only [Act.put, List.setIfInBounds_toArray, List.set_cons_zero, List.set_cons_succ]))
      (refine wpAnyH_done (by kernel_rfl) ?_ _)
      go_wp2_with fail
      go_meet
      exact ⟨rfl, a0, a1, b0, b1, HF13.out⟩
    · by_cases hy : Tb.has ⟨l + 1, b * 2 + 1⟩ a
      · have h0 : decide (Tb.has ⟨l + 1, b * 2⟩ a) = false := decide_eq_false hx
        have h1 : decide (Tb.has ⟨l + 1, b * 2 + 1⟩ a) = true := decide_eq_true hy
        have h2 : decide (Tb.has ⟨l, b⟩ a) = true := decide_eq_true (HALL.out.2.2 (.inr hy))
        have HH0 := Lib.hid h0; clear h0; have HH1 := Lib.hid h1; clear h1; have HH2 := Lib.hid h2; clear h2; have HXX := Lib.hid hx; clear hx; have HYY := Lib.hid hy; clear hy
        (refine wp_region_held_drew (S := (fun W => W.cell? ⟨w.heap.size, 0, none⟩ = some (.int .i64 l) ∧ W.cell? ⟨w.heap.size, 1, none⟩ = some (.int .i64 b) ∧ W.cell? ⟨w.heap.size + 1, 0, none⟩ = some (.int .i64 m) ∧ W.cell? ⟨w.heap.size + 1, 1, none⟩ = some (.int .i64 c) ∧ W.cell? ⟨w2.heap.size, 0, none⟩ = some (.int .i64 (l + 1)) ∧ W.cell? ⟨w2.heap.size, 1, none⟩ = some (.int .i64 (b * 2)) ∧ W.cell? ⟨w4.heap.size, 0, none⟩ = some (.int .i64 (l + 1)) ∧ W.cell? ⟨w4.heap.size, 1, none⟩ = some (.int .i64 (b * 2 + 1)) ∧ W.cell? ⟨w6.heap.size, 0, none⟩ = some (.int .i64 l) ∧ W.cell? ⟨w6.heap.size, 1, none⟩ = some (.int .i64 b) ∧ W.cell? ⟨w8.heap.size, 0, none⟩ = some (.int .i64 l) ∧ W.cell? ⟨w8.heap.size, 1, none⟩ = some (.int .i64 b))) (by kernel_rfl) ⟨a0, a1, b0, b1, c0, c1, d0, d1, e0, e1, f0, f1⟩ (fun hHeld => ?_))
        (refine wpAnyH_take (i := 0) (v := ?_) (by simp only [List.getElem?_toArray, List.getElem?_cons_zero]; rfl) (by kernel_rfl) (by kernel_rfl) (by kernel_rfl) (by exact fun _ _ _ h => h) (Or.inl ⟨by rfl, ?_⟩) hHeld ?_; rotate_left; (focus (intro w hSw; (try dsimp only at hSw); go_simp; all_goals with_reducible rfl)); (try simp only [Act.put, List.setIfInBounds_toArray, List.set_cons_zero, List.set_cons_succ])); (refine wpAnyH_take (i := 1) (v := ?_) (by simp only [List.getElem?_toArray, List.getElem?_cons_succ, List.getElem?_cons_zero]; rfl) (by kernel_rfl) (by kernel_rfl) (by kernel_rfl) (by exact fun _ _ _ h => h) (Or.inl ⟨by rfl, ?_⟩) hHeld ?_; rotate_left; (focus (intro w hSw; (try dsimp only at hSw); go_simp; all_goals with_reducible rfl)); (try simp only [Act.put, List.setIfInBounds_toArray, List.set_cons_zero, List.set_cons_succ])); (refine wpAnyH_take (i := 2) (v := ?_) (by simp only [List.getElem?_toArray, List.getElem?_cons_succ, List.getElem?_cons_zero]; rfl) (by kernel_rfl) (by kernel_rfl) (by kernel_rfl) (by exact fun _ _ _ h => h) (Or.inl ⟨by rfl, ?_⟩) hHeld ?_; rotate_left; (focus (intro w hSw; (try dsimp only at hSw); go_simp; all_goals with_reducible rfl)); (try simp only [Act.put, List.setIfInBounds_toArray, List.set_cons_zero, List.set_cons_succ])); (refine wpAnyH_take (i := 3) (v := ?_) (by simp only [List.getElem?_toArray, List.getElem?_cons_succ, List.getElem?_cons_zero]; rfl) (by kernel_rfl) (by kernel_rfl) (by kernel_rfl) (by exact fun _ _ _ h => h) (Or.inl ⟨by rfl, ?_⟩) hHeld ?_; rotate_left; (focus (intro w hSw; (try dsimp only at hSw); go_simp; all_goals with_reducible rfl)); (try simp only [Act.put, List.setIfInBounds_toArray, List.set_cons_zero, List.set_cons_succ])); (refine wpAnyH_take (i := 4) (v := ?_) (by simp only [List.getElem?_toArray, List.getElem?_cons_succ, List.getElem?_cons_zero]; rfl) (by kernel_rfl) (by kernel_rfl) (by kernel_rfl) (by exact fun _ _ _ h => h) (Or.inl ⟨by rfl, ?_⟩) hHeld ?_; rotate_left; (focus (intro w hSw; (try dsimp only at hSw); go_simp; all_goals with_reducible rfl)); (try simp only [Act.put, List.setIfInBounds_toArray, List.set_cons_zero, List.set_cons_succ])); (refine wpAnyH_take (i := 5) (v := ?_) (by simp only [List.getElem?_toArray, List.getElem?_cons_succ, List.getElem?_cons_zero]; rfl) (by kernel_rfl) (by kernel_rfl) (by kernel_rfl) (by exact fun _ _ _ h => h) (Or.inl ⟨by rfl, ?_⟩) hHeld ?_; rotate_left; (focus (intro w hSw; (try dsimp only at hSw); go_simp; all_goals with_reducible rfl)); (try simp only [Act.put, List.setIfInBounds_toArray, List.set_cons_zero, List.set_cons_succ])); (refine wpAnyH_take (i := 6) (v := ?_) (by simp only [List.getElem?_toArray, List.getElem?_cons_succ, List.getElem?_cons_zero]; rfl) (by kernel_rfl) (by kernel_rfl) (by kernel_rfl) (by exact fun _ _ _ h => h) (Or.inl ⟨by rfl, ?_⟩) hHeld ?_; rotate_left; (focus (intro w hSw; (try dsimp only at hSw); go_simp; all_goals with_reducible rfl)); (try simp only [Act.put, List.setIfInBounds_toArray, List.set_cons_zero, List.set_cons_succ])); (refine wpAnyH_take (i := 7) (v := ?_) (by simp only [List.getElem?_toArray, List.getElem?_cons_succ, List.getElem?_cons_zero]; rfl) (by kernel_rfl) (by kernel_rfl) (by kernel_rfl) (by exact fun _ _ _ h => h) (Or.inl ⟨by rfl, ?_⟩) hHeld ?_; rotate_left; (focus (intro w hSw; (try dsimp only at hSw); go_simp; all_goals with_reducible rfl)); (try simp only [Act.put, List.setIfInBounds_toArray, List.set_cons_zero, List.set_cons_succ])); (refine wpAnyH_take (i := 8) (v := ?_) (by simp only [List.getElem?_toArray, List.getElem?_cons_succ, List.getElem?_cons_zero]; rfl) (by kernel_rfl) (by kernel_rfl) (by kernel_rfl) (by exact fun _ _ _ h => h) (Or.inl ⟨by rfl, ?_⟩) hHeld ?_; rotate_left; (focus (intro w hSw; (try dsimp only at hSw); go_simp; all_goals with_reducible rfl)); (try simp only [Act.put, List.setIfInBounds_toArray, List.set_cons_zero, List.set_cons_succ])); (refine wpAnyH_take (i := 9) (v := ?_) (by simp only [List.getElem?_toArray, List.getElem?_cons_succ, List.getElem?_cons_zero]; rfl) (by kernel_rfl) (by kernel_rfl) (by kernel_rfl) (by exact fun _ _ _ h => h) (Or.inl ⟨by rfl, ?_⟩) hHeld ?_; rotate_left; (focus (intro w hSw; (try dsimp only at hSw); go_simp; all_goals with_reducible rfl)); (try simp only [Act.put, List.setIfInBounds_toArray, List.set_cons_zero, List.set_cons_succ])); (refine wpAnyH_take (i := 10) (v := ?_) (by simp only [List.getElem?_toArray, List.getElem?_cons_succ, List.getElem?_cons_zero]; rfl) (by kernel_rfl) (by kernel_rfl) (by kernel_rfl) (by exact fun _ _ _ h => h) (Or.inl ⟨by rfl, ?_⟩) hHeld ?_; rotate_left; (focus (intro w hSw; (try dsimp only at hSw); go_simp; all_goals with_reducible rfl)); (try simp only [Act.put, List.setIfInBounds_toArray, List.set_cons_zero, List.set_cons_succ])); (refine wpAnyH_take (i := 11) (v := ?_) (by simp only [List.getElem?_toArray, List.getElem?_cons_succ, List.getElem?_cons_zero]; rfl) (by kernel_rfl) (by kernel_rfl) (by kernel_rfl) (by exact fun _ _ _ h => h) (Or.inl ⟨by rfl, ?_⟩) hHeld ?_; rotate_left; (focus (intro w hSw; (try dsimp only at hSw); go_simp; all_goals with_reducible rfl)); (try simp only [Act.put, List.setIfInBounds_toArray, List.set_cons_zero, List.set_cons_succ])); (refine wpAnyH_take (i := 12) (v := ?_) (by simp only [List.getElem?_toArray, List.getElem?_cons_succ, List.getElem?_cons_zero]; rfl) (by kernel_rfl) (by kernel_rfl) (by kernel_rfl) (by exact fun _ _ _ h => h) (Or.inl ⟨by rfl, ?_⟩) hHeld ?_; rotate_left; (focus (intro w hSw; (try dsimp only at hSw); go_simp; all_goals with_reducible rfl)); (try simp only [Act.put, List.setIfInBounds_toArray, List.set_cons_zero, List.set_cons_succ])); (refine wpAnyH_take (i := 13) (v := ?_) (by simp only [List.getElem?_toArray, List.getElem?_cons_succ, List.getElem?_cons_zero]; rfl) (by kernel_rfl) (by kernel_rfl) (by kernel_rfl) (by exact fun _ _ _ h => h) (Or.inl ⟨by rfl, ?_⟩) hHeld ?_; rotate_left; (focus (intro w hSw; (try dsimp only at hSw); go_simp; all_goals with_reducible rfl)); (try simp only [Act.put, List.setIfInBounds_toArray, List.set_cons_zero, List.set_cons_succ])); (refine wpAnyH_take (i := 14) (v := ?_) (by simp only [List.getElem?_toArray, List.getElem?_cons_succ, List.getElem?_cons_zero]; rfl) (by kernel_rfl) (by kernel_rfl) (by kernel_rfl) (by exact fun _ _ _ h => h) (Or.inl ⟨by rfl, ?_⟩) hHeld ?_; rotate_left; (focus (intro w hSw; (try dsimp only at hSw); go_simp; all_goals with_reducible rfl)); (try simp only [Act.put, List.setIfInBounds_toArray, List.set_cons_zero, List.set_cons_succ])); (refine wpAnyH_take (i := 15) (v := ?_) (by simp only [List.getElem?_toArray, List.getElem?_cons_succ, List.getElem?_cons_zero]; rfl) (by kernel_rfl) (by kernel_rfl) (by kernel_rfl) (by exact fun _ _ _ h => h) (Or.inl ⟨by rfl, ?_⟩) hHeld ?_; rotate_left; (focus (intro w hSw; (try dsimp only at hSw); go_simp; all_goals with_reducible rfl)); (try simp only [Act.put, List.setIfInBounds_toArray, List.set_cons_zero, List.set_cons_succ])); (refine wpAnyH_take (i := 16) (v := ?_) (by simp only [List.getElem?_toArray, List.getElem?_cons_succ, List.getElem?_cons_zero]; rfl) (by kernel_rfl) (by kernel_rfl) (by kernel_rfl) (by exact fun _ _ _ h => h) (Or.inl ⟨by rfl, ?_⟩) hHeld ?_; rotate_left; (focus (intro w hSw; (try dsimp only at hSw); go_simp; all_goals with_reducible rfl)); (try simp only [Act.put, List.setIfInBounds_toArray, List.set_cons_zero, List.set_cons_succ])); (refine wpAnyH_take (i := 17) (v := ?_) (by simp only [List.getElem?_toArray, List.getElem?_cons_succ, List.getElem?_cons_zero]; rfl) (by kernel_rfl) (by kernel_rfl) (by kernel_rfl) (by exact fun _ _ _ h => h) (Or.inl ⟨by rfl, ?_⟩) hHeld ?_; rotate_left; (focus (intro w hSw; (try dsimp only at hSw); go_simp; all_goals with_reducible rfl)); (try simp only [Act.put, List.setIfInBounds_toArray, List.set_cons_zero, List.set_cons_succ])); (refine wpAnyH_take (i := 18) (v := ?_) (by simp only [List.getElem?_toArray, List.getElem?_cons_succ, List.getElem?_cons_zero]; rfl) (by kernel_rfl) (by kernel_rfl) (by kernel_rfl) (by exact fun _ _ _ h => h) (Or.inl ⟨by rfl, ?_⟩) hHeld ?_; rotate_left; (focus (intro w hSw; (try dsimp only at hSw); go_simp; all_goals with_reducible rfl)); (try simp only [Act.put, List.setIfInBounds_toArray, List.set_cons_zero, List.set_cons_succ]))
        (refine wpAnyH_ready (rs := [19]) (by kernel_rfl) (by simp) ?_; refine AllReadyH.cons (by simp only [List.getElem?_toArray, List.getElem?_cons_succ, List.getElem?_cons_zero]; rfl) (fun K hK => ?_) AllReadyH.nil; go_simp); (refine (Has_any (l + 1) (b * 2) a _).mono ?_; rw [HH0.out]; rintro e w10 ⟨rfl, hf⟩; replace a0 := cell_fr' hf a0 (fun h => h); replace a1 := cell_fr' hf a1 (fun h => h); replace b0 := cell_fr' hf b0 (fun h => h); replace b1 := cell_fr' hf b1 (fun h => h); replace c0 := cell_fr' hf c0 (fun h => h); replace c1 := cell_fr' hf c1 (fun h => h); replace d0 := cell_fr' hf d0 (fun h => h); replace d1 := cell_fr' hf d1 (fun h => h); replace e0 := cell_fr' hf e0 (fun h => h); replace e1 := cell_fr' hf e1 (fun h => h); replace f0 := cell_fr' hf f0 (fun h => h); replace f1 := cell_fr' hf f1 (fun h => h); have HF10 := Lib.hid (HF9.out.drew.trans hf); clear hf); (try go_wp2_with fail); (refine hK.out _ _ ⟨a0, a1, b0, b1, c0, c1, d0, d1, e0, e1, f0, f1⟩ (fun hHeld => ?_)); clear hK K; (try simp only [Act.put, List.setIfInBounds_toArray, List.set_cons_zero, List.set_cons_succ])
        (refine wpAnyH_take (i := 20) (v := ?_) (by simp only [List.getElem?_toArray, List.getElem?_cons_succ, List.getElem?_cons_zero]; rfl) (by kernel_rfl) (by kernel_rfl) (by kernel_rfl) (by exact fun _ _ _ h => h) (Or.inl ⟨by rfl, ?_⟩) hHeld ?_; rotate_left; (focus (intro w hSw; (try dsimp only at hSw); go_simp; all_goals with_reducible rfl)); (try simp only [Act.put, List.setIfInBounds_toArray, List.set_cons_zero, List.set_cons_succ]))
        (refine wpAnyH_take (i := 21) (v := undef) (by simp only [List.getElem?_toArray, List.getElem?_cons_succ, List.getElem?_cons_zero]; rfl) (by kernel_rfl) (by kernel_rfl) (by kernel_rfl) (by exact fun _ _ _ h => h) (Or.inr ⟨by rfl, rfl⟩) hHeld ?_; (try simp only [Act.put, List.setIfInBounds_toArray, List.set_cons_zero, List.set_cons_succ])); (refine wpAnyH_take (i := 22) (v := undef) (by simp only [List.getElem?_toArray, List.getElem?_cons_succ, List.getElem?_cons_zero]; rfl) (by kernel_rfl) (by kernel_rfl) (by kernel_rfl) (by exact fun _ _ _ h => h) (Or.inr ⟨by rfl, rfl⟩) hHeld ?_; (try simp only [Act.put, List.setIfInBounds_toArray, List.set_cons_zero, List.set_cons_succ])); (refine wpAnyH_take (i := 23) (v := undef) (by simp only [List.getElem?_toArray, List.getElem?_cons_succ, List.getElem?_cons_zero]; rfl) (by kernel_rfl) (by kernel_rfl) (by kernel_rfl) (by exact fun _ _ _ h => h) (Or.inr ⟨by rfl, rfl⟩) hHeld ?_; (try simp only [Act.put, List.setIfInBounds_toArray, List.set_cons_zero, List.set_cons_succ])); (refine wpAnyH_take (i := 24) (v := ?_) (by simp only [List.getElem?_toArray, List.getElem?_cons_succ, List.getElem?_cons_zero]; rfl) (by kernel_rfl) (by kernel_rfl) (by kernel_rfl) (by exact fun _ _ _ h => h) (Or.inl ⟨by rfl, ?_⟩) hHeld ?_; rotate_left; (focus (intro w hSw; (try dsimp only at hSw); go_simp; all_goals with_reducible rfl)); (try simp only [Act.put, List.setIfInBounds_toArray, List.set_cons_zero, List.set_cons_succ])); (refine wpAnyH_take (i := 25) (v := ?_) (by simp only [List.getElem?_toArray, List.getElem?_cons_succ, List.getElem?_cons_zero]; rfl) (by kernel_rfl) (by kernel_rfl) (by kernel_rfl) (by exact fun _ _ _ h => h) (Or.inl ⟨by rfl, ?_⟩) hHeld ?_; rotate_left; (focus (intro w hSw; (try dsimp only at hSw); go_simp; all_goals with_reducible rfl)); (try simp only [Act.put, List.setIfInBounds_toArray, List.set_cons_zero, List.set_cons_succ])); (refine wpAnyH_take (i := 26) (v := ?_) (by simp only [List.getElem?_toArray, List.getElem?_cons_succ, List.getElem?_cons_zero]; rfl) (by kernel_rfl) (by kernel_rfl) (by kernel_rfl) (by exact fun _ _ _ h => h) (Or.inl ⟨by rfl, ?_⟩) hHeld ?_; rotate_left; (focus (intro w hSw; (try dsimp only at hSw); go_simp; all_goals with_reducible rfl)); (try simp only [Act.put, List.setIfInBounds_toArray, List.set_cons_zero, List.set_cons_succ])); (refine wpAnyH_take (i := 27) (v := ?_) (by simp only [List.getElem?_toArray, List.getElem?_cons_succ, List.getElem?_cons_zero]; rfl) (by kernel_rfl) (by kernel_rfl) (by kernel_rfl) (by exact fun _ _ _ h => h) (Or.inl ⟨by rfl, ?_⟩) hHeld ?_; rotate_left; (focus (intro w hSw; (try dsimp only at hSw); go_simp; all_goals with_reducible rfl)); (try simp only [Act.put, List.setIfInBounds_toArray, List.set_cons_zero, List.set_cons_succ])); (refine wpAnyH_take (i := 28) (v := ?_) (by simp only [List.getElem?_toArray, List.getElem?_cons_succ, List.getElem?_cons_zero]; rfl) (by kernel_rfl) (by kernel_rfl) (by kernel_rfl) (by exact fun _ _ _ h => h) (Or.inl ⟨by rfl, ?_⟩) hHeld ?_; rotate_left; (focus (intro w hSw; (try dsimp only at hSw); go_simp; all_goals with_reducible rfl)); (try simp only [Act.put, List.setIfInBounds_toArray, List.set_cons_zero, List.set_cons_succ])); (refine wpAnyH_take (i := 30) (v := ?_) (by simp only [List.getElem?_toArray, List.getElem?_cons_succ, List.getElem?_cons_zero]; rfl) (by kernel_rfl) (by kernel_rfl) (by kernel_rfl) (by exact fun _ _ _ h => h) (Or.inl ⟨by rfl, ?_⟩) hHeld ?_; rotate_left; (focus (intro w hSw; (try dsimp only at hSw); go_simp; all_goals with_reducible rfl)); (try simp only [Act.put, List.setIfInBounds_toArray, List.set_cons_zero, List.set_cons_succ])); (refine wpAnyH_take (i := 31) (v := ?_) (by simp only [List.getElem?_toArray, List.getElem?_cons_succ, List.getElem?_cons_zero]; rfl) (by kernel_rfl) (by kernel_rfl) (by kernel_rfl) (by exact fun _ _ _ h => h) (Or.inl ⟨by rfl, ?_⟩) hHeld ?_; rotate_left; (focus (intro w hSw; (try dsimp only at hSw); go_simp; all_goals with_reducible rfl)); (try simp only [Act.put, List.setIfInBounds_toArray, List.set_cons_zero, List.set_cons_succ]))
        (refine wpAnyH_ready (rs := [29]) (by kernel_rfl) (by simp) ?_; refine AllReadyH.cons (by simp only [List.getElem?_toArray, List.getElem?_cons_succ, List.getElem?_cons_zero]; rfl) (fun K hK => ?_) AllReadyH.nil; go_simp); (refine (Has_any l b a _).mono ?_; rw [HH2.out]; rintro e w11 ⟨rfl, hf⟩; replace a0 := cell_fr' hf a0 (fun h => h); replace a1 := cell_fr' hf a1 (fun h => h); replace b0 := cell_fr' hf b0 (fun h => h); replace b1 := cell_fr' hf b1 (fun h => h); replace c0 := cell_fr' hf c0 (fun h => h); replace c1 := cell_fr' hf c1 (fun h => h); replace d0 := cell_fr' hf d0 (fun h => h); replace d1 := cell_fr' hf d1 (fun h => h); replace e0 := cell_fr' hf e0 (fun h => h); replace e1 := cell_fr' hf e1 (fun h => h); replace f0 := cell_fr' hf f0 (fun h => h); replace f1 := cell_fr' hf f1 (fun h => h); have HF11 := Lib.hid (HF10.out.trans hf); clear hf); (try go_wp2_with fail); (refine hK.out _ _ ⟨a0, a1, b0, b1, c0, c1, d0, d1, e0, e1, f0, f1⟩ (fun hHeld => ?_)); clear hK K; (try simp only [Act.put, List.setIfInBounds_toArray, List.set_cons_zero, List.set_cons_succ])
        (refine wpAnyH_ready (rs := [32]) (by kernel_rfl) (by simp) ?_; refine AllReadyH.cons (by simp only [List.getElem?_toArray, List.getElem?_cons_succ, List.getElem?_cons_zero]; rfl) (fun K hK => ?_) AllReadyH.nil; go_simp); (refine (Has_any (l + 1) (b * 2) a _).mono ?_; rw [HH0.out]; rintro e w12 ⟨rfl, hf⟩; replace a0 := cell_fr' hf a0 (fun h => h); replace a1 := cell_fr' hf a1 (fun h => h); replace b0 := cell_fr' hf b0 (fun h => h); replace b1 := cell_fr' hf b1 (fun h => h); replace c0 := cell_fr' hf c0 (fun h => h); replace c1 := cell_fr' hf c1 (fun h => h); replace d0 := cell_fr' hf d0 (fun h => h); replace d1 := cell_fr' hf d1 (fun h => h); replace e0 := cell_fr' hf e0 (fun h => h); replace e1 := cell_fr' hf e1 (fun h => h); replace f0 := cell_fr' hf f0 (fun h => h); replace f1 := cell_fr' hf f1 (fun h => h); have HF12 := Lib.hid (HF11.out.trans hf); clear hf); (try go_wp2_with fail); (refine hK.out _ _ ⟨a0, a1, b0, b1, c0, c1, d0, d1, e0, e1, f0, f1⟩ (fun hHeld => ?_)); clear hK K; (try simp only [Act.put, List.setIfInBounds_toArray, List.set_cons_zero, List.set_cons_succ])
        (refine wpAnyH_take (i := 33) (v := ?_) (by simp only [List.getElem?_toArray, List.getElem?_cons_succ, List.getElem?_cons_zero]; rfl) (by kernel_rfl) (by kernel_rfl) (by kernel_rfl) (by exact fun _ _ _ h => h) (Or.inl ⟨by rfl, ?_⟩) hHeld ?_; rotate_left; (focus (intro w hSw; (try dsimp only at hSw); go_simp; all_goals with_reducible rfl)); (try simp only [Act.put, List.setIfInBounds_toArray, List.set_cons_zero, List.set_cons_succ]))
        (refine wpAnyH_take (i := 34) (v := ?_) (by simp only [List.getElem?_toArray, List.getElem?_cons_succ, List.getElem?_cons_zero]; rfl) (by kernel_rfl) (by kernel_rfl) (by kernel_rfl) (by exact fun _ _ _ h => h) (Or.inl ⟨by rfl, ?_⟩) hHeld ?_; rotate_left; (focus (intro w hSw; (try dsimp only at hSw); go_simp; all_goals with_reducible rfl)); (try simp only [Act.put, List.setIfInBounds_toArray, List.set_cons_zero, List.set_cons_succ])); (refine wpAnyH_take (i := 35) (v := ?_) (by simp only [List.getElem?_toArray, List.getElem?_cons_succ, List.getElem?_cons_zero]; rfl) (by kernel_rfl) (by kernel_rfl) (by kernel_rfl) (by exact fun _ _ _ h => h) (Or.inl ⟨by rfl, ?_⟩) hHeld ?_; rotate_left; (focus (intro w hSw; (try dsimp only at hSw); go_simp; all_goals with_reducible rfl)); (try simp only [Act.put, List.setIfInBounds_toArray, List.set_cons_zero, List.set_cons_succ]))
        (refine wpAnyH_ready (rs := [36]) (by kernel_rfl) (by simp) ?_; refine AllReadyH.cons (by simp only [List.getElem?_toArray, List.getElem?_cons_succ, List.getElem?_cons_zero]; rfl) (fun K hK => ?_) AllReadyH.nil; go_simp); (refine (Has_any (l + 1) (b * 2 + 1) a _).mono ?_; rw [HH1.out]; rintro e w13 ⟨rfl, hf⟩; replace a0 := cell_fr' hf a0 (fun h => h); replace a1 := cell_fr' hf a1 (fun h => h); replace b0 := cell_fr' hf b0 (fun h => h); replace b1 := cell_fr' hf b1 (fun h => h); replace c0 := cell_fr' hf c0 (fun h => h); replace c1 := cell_fr' hf c1 (fun h => h); replace d0 := cell_fr' hf d0 (fun h => h); replace d1 := cell_fr' hf d1 (fun h => h); replace e0 := cell_fr' hf e0 (fun h => h); replace e1 := cell_fr' hf e1 (fun h => h); replace f0 := cell_fr' hf f0 (fun h => h); replace f1 := cell_fr' hf f1 (fun h => h); have HF13 := Lib.hid (HF12.out.trans hf); clear hf); (try go_wp2_with fail); (refine hK.out _ _ ⟨a0, a1, b0, b1, c0, c1, d0, d1, e0, e1, f0, f1⟩ (fun hHeld => ?_)); clear hK K; (try simp only [Act.put, List.setIfInBounds_toArray, List.set_cons_zero, List.set_cons_succ])
        (refine wpAnyH_take (i := 37) (v := ?_) (by simp only [List.getElem?_toArray, List.getElem?_cons_succ, List.getElem?_cons_zero]; rfl) (by kernel_rfl) (by kernel_rfl) (by kernel_rfl) (by exact fun _ _ _ h => h) (Or.inl ⟨by rfl, ?_⟩) hHeld ?_; rotate_left; (focus (intro w hSw; (try dsimp only at hSw); go_simp; all_goals with_reducible rfl)); (try simp only [Act.put, List.setIfInBounds_toArray, List.set_cons_zero, List.set_cons_succ])); (refine wpAnyH_take (i := 38) (v := ?_) (by simp only [List.getElem?_toArray, List.getElem?_cons_succ, List.getElem?_cons_zero]; rfl) (by kernel_rfl) (by kernel_rfl) (by kernel_rfl) (by exact fun _ _ _ h => h) (Or.inl ⟨by rfl, ?_⟩) hHeld ?_; rotate_left; (focus (intro w hSw; (try dsimp only at hSw); go_simp; all_goals with_reducible rfl)); (try simp only [Act.put, List.setIfInBounds_toArray, List.set_cons_zero, List.set_cons_succ])); (refine wpAnyH_take (i := 39) (v := ?_) (by simp only [List.getElem?_toArray, List.getElem?_cons_succ, List.getElem?_cons_zero]; rfl) (by kernel_rfl) (by kernel_rfl) (by kernel_rfl) (by exact fun _ _ _ h => h) (Or.inl ⟨by rfl, ?_⟩) hHeld ?_; rotate_left; (focus (intro w hSw; (try dsimp only at hSw); go_simp; all_goals with_reducible rfl)); (try simp only [Act.put, List.setIfInBounds_toArray, List.set_cons_zero, List.set_cons_succ]))
        (refine wpAnyH_done (by kernel_rfl) ?_ _)
        go_wp2_with fail
        go_meet
        exact ⟨rfl, a0, a1, b0, b1, HF13.out⟩
      · have h0 : decide (Tb.has ⟨l + 1, b * 2⟩ a) = false := decide_eq_false hx
        have h1 : decide (Tb.has ⟨l + 1, b * 2 + 1⟩ a) = false := decide_eq_false hy
        have h2 : decide (Tb.has ⟨l, b⟩ a) = false := decide_eq_false (fun k => (HALL.out.2.1 k).elim hx hy)
        have HH0 := Lib.hid h0; clear h0; have HH1 := Lib.hid h1; clear h1; have HH2 := Lib.hid h2; clear h2; have HXX := Lib.hid hx; clear hx; have HYY := Lib.hid hy; clear hy
        (refine wp_region_held_drew (S := (fun W => W.cell? ⟨w.heap.size, 0, none⟩ = some (.int .i64 l) ∧ W.cell? ⟨w.heap.size, 1, none⟩ = some (.int .i64 b) ∧ W.cell? ⟨w.heap.size + 1, 0, none⟩ = some (.int .i64 m) ∧ W.cell? ⟨w.heap.size + 1, 1, none⟩ = some (.int .i64 c) ∧ W.cell? ⟨w2.heap.size, 0, none⟩ = some (.int .i64 (l + 1)) ∧ W.cell? ⟨w2.heap.size, 1, none⟩ = some (.int .i64 (b * 2)) ∧ W.cell? ⟨w4.heap.size, 0, none⟩ = some (.int .i64 (l + 1)) ∧ W.cell? ⟨w4.heap.size, 1, none⟩ = some (.int .i64 (b * 2 + 1)) ∧ W.cell? ⟨w6.heap.size, 0, none⟩ = some (.int .i64 l) ∧ W.cell? ⟨w6.heap.size, 1, none⟩ = some (.int .i64 b) ∧ W.cell? ⟨w8.heap.size, 0, none⟩ = some (.int .i64 l) ∧ W.cell? ⟨w8.heap.size, 1, none⟩ = some (.int .i64 b))) (by kernel_rfl) ⟨a0, a1, b0, b1, c0, c1, d0, d1, e0, e1, f0, f1⟩ (fun hHeld => ?_))
        (refine wpAnyH_take (i := 0) (v := ?_) (by simp only [List.getElem?_toArray, List.getElem?_cons_zero]; rfl) (by kernel_rfl) (by kernel_rfl) (by kernel_rfl) (by exact fun _ _ _ h => h) (Or.inl ⟨by rfl, ?_⟩) hHeld ?_; rotate_left; (focus (intro w hSw; (try dsimp only at hSw); go_simp; all_goals with_reducible rfl)); (try simp only [Act.put, List.setIfInBounds_toArray, List.set_cons_zero, List.set_cons_succ])); (refine wpAnyH_take (i := 1) (v := ?_) (by simp only [List.getElem?_toArray, List.getElem?_cons_succ, List.getElem?_cons_zero]; rfl) (by kernel_rfl) (by kernel_rfl) (by kernel_rfl) (by exact fun _ _ _ h => h) (Or.inl ⟨by rfl, ?_⟩) hHeld ?_; rotate_left; (focus (intro w hSw; (try dsimp only at hSw); go_simp; all_goals with_reducible rfl)); (try simp only [Act.put, List.setIfInBounds_toArray, List.set_cons_zero, List.set_cons_succ])); (refine wpAnyH_take (i := 2) (v := ?_) (by simp only [List.getElem?_toArray, List.getElem?_cons_succ, List.getElem?_cons_zero]; rfl) (by kernel_rfl) (by kernel_rfl) (by kernel_rfl) (by exact fun _ _ _ h => h) (Or.inl ⟨by rfl, ?_⟩) hHeld ?_; rotate_left; (focus (intro w hSw; (try dsimp only at hSw); go_simp; all_goals with_reducible rfl)); (try simp only [Act.put, List.setIfInBounds_toArray, List.set_cons_zero, List.set_cons_succ])); (refine wpAnyH_take (i := 3) (v := ?_) (by simp only [List.getElem?_toArray, List.getElem?_cons_succ, List.getElem?_cons_zero]; rfl) (by kernel_rfl) (by kernel_rfl) (by kernel_rfl) (by exact fun _ _ _ h => h) (Or.inl ⟨by rfl, ?_⟩) hHeld ?_; rotate_left; (focus (intro w hSw; (try dsimp only at hSw); go_simp; all_goals with_reducible rfl)); (try simp only [Act.put, List.setIfInBounds_toArray, List.set_cons_zero, List.set_cons_succ])); (refine wpAnyH_take (i := 4) (v := ?_) (by simp only [List.getElem?_toArray, List.getElem?_cons_succ, List.getElem?_cons_zero]; rfl) (by kernel_rfl) (by kernel_rfl) (by kernel_rfl) (by exact fun _ _ _ h => h) (Or.inl ⟨by rfl, ?_⟩) hHeld ?_; rotate_left; (focus (intro w hSw; (try dsimp only at hSw); go_simp; all_goals with_reducible rfl)); (try simp only [Act.put, List.setIfInBounds_toArray, List.set_cons_zero, List.set_cons_succ])); (refine wpAnyH_take (i := 5) (v := ?_) (by simp only [List.getElem?_toArray, List.getElem?_cons_succ, List.getElem?_cons_zero]; rfl) (by kernel_rfl) (by kernel_rfl) (by kernel_rfl) (by exact fun _ _ _ h => h) (Or.inl ⟨by rfl, ?_⟩) hHeld ?_; rotate_left; (focus (intro w hSw; (try dsimp only at hSw); go_simp; all_goals with_reducible rfl)); (try simp only [Act.put, List.setIfInBounds_toArray, List.set_cons_zero, List.set_cons_succ])); (refine wpAnyH_take (i := 6) (v := ?_) (by simp only [List.getElem?_toArray, List.getElem?_cons_succ, List.getElem?_cons_zero]; rfl) (by kernel_rfl) (by kernel_rfl) (by kernel_rfl) (by exact fun _ _ _ h => h) (Or.inl ⟨by rfl, ?_⟩) hHeld ?_; rotate_left; (focus (intro w hSw; (try dsimp only at hSw); go_simp; all_goals with_reducible rfl)); (try simp only [Act.put, List.setIfInBounds_toArray, List.set_cons_zero, List.set_cons_succ])); (refine wpAnyH_take (i := 7) (v := ?_) (by simp only [List.getElem?_toArray, List.getElem?_cons_succ, List.getElem?_cons_zero]; rfl) (by kernel_rfl) (by kernel_rfl) (by kernel_rfl) (by exact fun _ _ _ h => h) (Or.inl ⟨by rfl, ?_⟩) hHeld ?_; rotate_left; (focus (intro w hSw; (try dsimp only at hSw); go_simp; all_goals with_reducible rfl)); (try simp only [Act.put, List.setIfInBounds_toArray, List.set_cons_zero, List.set_cons_succ])); (refine wpAnyH_take (i := 8) (v := ?_) (by simp only [List.getElem?_toArray, List.getElem?_cons_succ, List.getElem?_cons_zero]; rfl) (by kernel_rfl) (by kernel_rfl) (by kernel_rfl) (by exact fun _ _ _ h => h) (Or.inl ⟨by rfl, ?_⟩) hHeld ?_; rotate_left; (focus (intro w hSw; (try dsimp only at hSw); go_simp; all_goals with_reducible rfl)); (try simp only [Act.put, List.setIfInBounds_toArray, List.set_cons_zero, List.set_cons_succ])); (refine wpAnyH_take (i := 9) (v := ?_) (by simp only [List.getElem?_toArray, List.getElem?_cons_succ, List.getElem?_cons_zero]; rfl) (by kernel_rfl) (by kernel_rfl) (by kernel_rfl) (by exact fun _ _ _ h => h) (Or.inl ⟨by rfl, ?_⟩) hHeld ?_; rotate_left; (focus (intro w hSw; (try dsimp only at hSw); go_simp; all_goals with_reducible rfl)); (try simp only [Act.put, List.setIfInBounds_toArray, List.set_cons_zero, List.set_cons_succ])); (refine wpAnyH_take (i := 10) (v := ?_) (by simp only [List.getElem?_toArray, List.getElem?_cons_succ, List.getElem?_cons_zero]; rfl) (by kernel_rfl) (by kernel_rfl) (by kernel_rfl) (by exact fun _ _ _ h => h) (Or.inl ⟨by rfl, ?_⟩) hHeld ?_; rotate_left; (focus (intro w hSw; (try dsimp only at hSw); go_simp; all_goals with_reducible rfl)); (try simp only [Act.put, List.setIfInBounds_toArray, List.set_cons_zero, List.set_cons_succ])); (refine wpAnyH_take (i := 11) (v := ?_) (by simp only [List.getElem?_toArray, List.getElem?_cons_succ, List.getElem?_cons_zero]; rfl) (by kernel_rfl) (by kernel_rfl) (by kernel_rfl) (by exact fun _ _ _ h => h) (Or.inl ⟨by rfl, ?_⟩) hHeld ?_; rotate_left; (focus (intro w hSw; (try dsimp only at hSw); go_simp; all_goals with_reducible rfl)); (try simp only [Act.put, List.setIfInBounds_toArray, List.set_cons_zero, List.set_cons_succ])); (refine wpAnyH_take (i := 12) (v := ?_) (by simp only [List.getElem?_toArray, List.getElem?_cons_succ, List.getElem?_cons_zero]; rfl) (by kernel_rfl) (by kernel_rfl) (by kernel_rfl) (by exact fun _ _ _ h => h) (Or.inl ⟨by rfl, ?_⟩) hHeld ?_; rotate_left; (focus (intro w hSw; (try dsimp only at hSw); go_simp; all_goals with_reducible rfl)); (try simp only [Act.put, List.setIfInBounds_toArray, List.set_cons_zero, List.set_cons_succ])); (refine wpAnyH_take (i := 13) (v := ?_) (by simp only [List.getElem?_toArray, List.getElem?_cons_succ, List.getElem?_cons_zero]; rfl) (by kernel_rfl) (by kernel_rfl) (by kernel_rfl) (by exact fun _ _ _ h => h) (Or.inl ⟨by rfl, ?_⟩) hHeld ?_; rotate_left; (focus (intro w hSw; (try dsimp only at hSw); go_simp; all_goals with_reducible rfl)); (try simp only [Act.put, List.setIfInBounds_toArray, List.set_cons_zero, List.set_cons_succ])); (refine wpAnyH_take (i := 14) (v := ?_) (by simp only [List.getElem?_toArray, List.getElem?_cons_succ, List.getElem?_cons_zero]; rfl) (by kernel_rfl) (by kernel_rfl) (by kernel_rfl) (by exact fun _ _ _ h => h) (Or.inl ⟨by rfl, ?_⟩) hHeld ?_; rotate_left; (focus (intro w hSw; (try dsimp only at hSw); go_simp; all_goals with_reducible rfl)); (try simp only [Act.put, List.setIfInBounds_toArray, List.set_cons_zero, List.set_cons_succ])); (refine wpAnyH_take (i := 15) (v := ?_) (by simp only [List.getElem?_toArray, List.getElem?_cons_succ, List.getElem?_cons_zero]; rfl) (by kernel_rfl) (by kernel_rfl) (by kernel_rfl) (by exact fun _ _ _ h => h) (Or.inl ⟨by rfl, ?_⟩) hHeld ?_; rotate_left; (focus (intro w hSw; (try dsimp only at hSw); go_simp; all_goals with_reducible rfl)); (try simp only [Act.put, List.setIfInBounds_toArray, List.set_cons_zero, List.set_cons_succ])); (refine wpAnyH_take (i := 16) (v := ?_) (by simp only [List.getElem?_toArray, List.getElem?_cons_succ, List.getElem?_cons_zero]; rfl) (by kernel_rfl) (by kernel_rfl) (by kernel_rfl) (by exact fun _ _ _ h => h) (Or.inl ⟨by rfl, ?_⟩) hHeld ?_; rotate_left; (focus (intro w hSw; (try dsimp only at hSw); go_simp; all_goals with_reducible rfl)); (try simp only [Act.put, List.setIfInBounds_toArray, List.set_cons_zero, List.set_cons_succ])); (refine wpAnyH_take (i := 17) (v := ?_) (by simp only [List.getElem?_toArray, List.getElem?_cons_succ, List.getElem?_cons_zero]; rfl) (by kernel_rfl) (by kernel_rfl) (by kernel_rfl) (by exact fun _ _ _ h => h) (Or.inl ⟨by rfl, ?_⟩) hHeld ?_; rotate_left; (focus (intro w hSw; (try dsimp only at hSw); go_simp; all_goals with_reducible rfl)); (try simp only [Act.put, List.setIfInBounds_toArray, List.set_cons_zero, List.set_cons_succ])); (refine wpAnyH_take (i := 18) (v := ?_) (by simp only [List.getElem?_toArray, List.getElem?_cons_succ, List.getElem?_cons_zero]; rfl) (by kernel_rfl) (by kernel_rfl) (by kernel_rfl) (by exact fun _ _ _ h => h) (Or.inl ⟨by rfl, ?_⟩) hHeld ?_; rotate_left; (focus (intro w hSw; (try dsimp only at hSw); go_simp; all_goals with_reducible rfl)); (try simp only [Act.put, List.setIfInBounds_toArray, List.set_cons_zero, List.set_cons_succ]))
        (refine wpAnyH_ready (rs := [19]) (by kernel_rfl) (by simp) ?_; refine AllReadyH.cons (by simp only [List.getElem?_toArray, List.getElem?_cons_succ, List.getElem?_cons_zero]; rfl) (fun K hK => ?_) AllReadyH.nil; go_simp); (refine (Has_any (l + 1) (b * 2) a _).mono ?_; rw [HH0.out]; rintro e w10 ⟨rfl, hf⟩; replace a0 := cell_fr' hf a0 (fun h => h); replace a1 := cell_fr' hf a1 (fun h => h); replace b0 := cell_fr' hf b0 (fun h => h); replace b1 := cell_fr' hf b1 (fun h => h); replace c0 := cell_fr' hf c0 (fun h => h); replace c1 := cell_fr' hf c1 (fun h => h); replace d0 := cell_fr' hf d0 (fun h => h); replace d1 := cell_fr' hf d1 (fun h => h); replace e0 := cell_fr' hf e0 (fun h => h); replace e1 := cell_fr' hf e1 (fun h => h); replace f0 := cell_fr' hf f0 (fun h => h); replace f1 := cell_fr' hf f1 (fun h => h); have HF10 := Lib.hid (HF9.out.drew.trans hf); clear hf); (try go_wp2_with fail); (refine hK.out _ _ ⟨a0, a1, b0, b1, c0, c1, d0, d1, e0, e1, f0, f1⟩ (fun hHeld => ?_)); clear hK K; (try simp only [Act.put, List.setIfInBounds_toArray, List.set_cons_zero, List.set_cons_succ])
        (refine wpAnyH_take (i := 20) (v := ?_) (by simp only [List.getElem?_toArray, List.getElem?_cons_succ, List.getElem?_cons_zero]; rfl) (by kernel_rfl) (by kernel_rfl) (by kernel_rfl) (by exact fun _ _ _ h => h) (Or.inl ⟨by rfl, ?_⟩) hHeld ?_; rotate_left; (focus (intro w hSw; (try dsimp only at hSw); go_simp; all_goals with_reducible rfl)); (try simp only [Act.put, List.setIfInBounds_toArray, List.set_cons_zero, List.set_cons_succ]))
        (refine wpAnyH_take (i := 21) (v := undef) (by simp only [List.getElem?_toArray, List.getElem?_cons_succ, List.getElem?_cons_zero]; rfl) (by kernel_rfl) (by kernel_rfl) (by kernel_rfl) (by exact fun _ _ _ h => h) (Or.inr ⟨by rfl, rfl⟩) hHeld ?_; (try simp only [Act.put, List.setIfInBounds_toArray, List.set_cons_zero, List.set_cons_succ])); (refine wpAnyH_take (i := 22) (v := undef) (by simp only [List.getElem?_toArray, List.getElem?_cons_succ, List.getElem?_cons_zero]; rfl) (by kernel_rfl) (by kernel_rfl) (by kernel_rfl) (by exact fun _ _ _ h => h) (Or.inr ⟨by rfl, rfl⟩) hHeld ?_; (try simp only [Act.put, List.setIfInBounds_toArray, List.set_cons_zero, List.set_cons_succ])); (refine wpAnyH_take (i := 23) (v := undef) (by simp only [List.getElem?_toArray, List.getElem?_cons_succ, List.getElem?_cons_zero]; rfl) (by kernel_rfl) (by kernel_rfl) (by kernel_rfl) (by exact fun _ _ _ h => h) (Or.inr ⟨by rfl, rfl⟩) hHeld ?_; (try simp only [Act.put, List.setIfInBounds_toArray, List.set_cons_zero, List.set_cons_succ])); (refine wpAnyH_take (i := 24) (v := ?_) (by simp only [List.getElem?_toArray, List.getElem?_cons_succ, List.getElem?_cons_zero]; rfl) (by kernel_rfl) (by kernel_rfl) (by kernel_rfl) (by exact fun _ _ _ h => h) (Or.inl ⟨by rfl, ?_⟩) hHeld ?_; rotate_left; (focus (intro w hSw; (try dsimp only at hSw); go_simp; all_goals with_reducible rfl)); (try simp only [Act.put, List.setIfInBounds_toArray, List.set_cons_zero, List.set_cons_succ])); (refine wpAnyH_take (i := 25) (v := ?_) (by simp only [List.getElem?_toArray, List.getElem?_cons_succ, List.getElem?_cons_zero]; rfl) (by kernel_rfl) (by kernel_rfl) (by kernel_rfl) (by exact fun _ _ _ h => h) (Or.inl ⟨by rfl, ?_⟩) hHeld ?_; rotate_left; (focus (intro w hSw; (try dsimp only at hSw); go_simp; all_goals with_reducible rfl)); (try simp only [Act.put, List.setIfInBounds_toArray, List.set_cons_zero, List.set_cons_succ])); (refine wpAnyH_take (i := 26) (v := ?_) (by simp only [List.getElem?_toArray, List.getElem?_cons_succ, List.getElem?_cons_zero]; rfl) (by kernel_rfl) (by kernel_rfl) (by kernel_rfl) (by exact fun _ _ _ h => h) (Or.inl ⟨by rfl, ?_⟩) hHeld ?_; rotate_left; (focus (intro w hSw; (try dsimp only at hSw); go_simp; all_goals with_reducible rfl)); (try simp only [Act.put, List.setIfInBounds_toArray, List.set_cons_zero, List.set_cons_succ])); (refine wpAnyH_take (i := 27) (v := ?_) (by simp only [List.getElem?_toArray, List.getElem?_cons_succ, List.getElem?_cons_zero]; rfl) (by kernel_rfl) (by kernel_rfl) (by kernel_rfl) (by exact fun _ _ _ h => h) (Or.inl ⟨by rfl, ?_⟩) hHeld ?_; rotate_left; (focus (intro w hSw; (try dsimp only at hSw); go_simp; all_goals with_reducible rfl)); (try simp only [Act.put, List.setIfInBounds_toArray, List.set_cons_zero, List.set_cons_succ])); (refine wpAnyH_take (i := 28) (v := ?_) (by simp only [List.getElem?_toArray, List.getElem?_cons_succ, List.getElem?_cons_zero]; rfl) (by kernel_rfl) (by kernel_rfl) (by kernel_rfl) (by exact fun _ _ _ h => h) (Or.inl ⟨by rfl, ?_⟩) hHeld ?_; rotate_left; (focus (intro w hSw; (try dsimp only at hSw); go_simp; all_goals with_reducible rfl)); (try simp only [Act.put, List.setIfInBounds_toArray, List.set_cons_zero, List.set_cons_succ])); (refine wpAnyH_take (i := 30) (v := ?_) (by simp only [List.getElem?_toArray, List.getElem?_cons_succ, List.getElem?_cons_zero]; rfl) (by kernel_rfl) (by kernel_rfl) (by kernel_rfl) (by exact fun _ _ _ h => h) (Or.inl ⟨by rfl, ?_⟩) hHeld ?_; rotate_left; (focus (intro w hSw; (try dsimp only at hSw); go_simp; all_goals with_reducible rfl)); (try simp only [Act.put, List.setIfInBounds_toArray, List.set_cons_zero, List.set_cons_succ])); (refine wpAnyH_take (i := 31) (v := ?_) (by simp only [List.getElem?_toArray, List.getElem?_cons_succ, List.getElem?_cons_zero]; rfl) (by kernel_rfl) (by kernel_rfl) (by kernel_rfl) (by exact fun _ _ _ h => h) (Or.inl ⟨by rfl, ?_⟩) hHeld ?_; rotate_left; (focus (intro w hSw; (try dsimp only at hSw); go_simp; all_goals with_reducible rfl)); (try simp only [Act.put, List.setIfInBounds_toArray, List.set_cons_zero, List.set_cons_succ]))
        (refine wpAnyH_ready (rs := [29]) (by kernel_rfl) (by simp) ?_; refine AllReadyH.cons (by simp only [List.getElem?_toArray, List.getElem?_cons_succ, List.getElem?_cons_zero]; rfl) (fun K hK => ?_) AllReadyH.nil; go_simp); (refine (Has_any l b a _).mono ?_; rw [HH2.out]; rintro e w11 ⟨rfl, hf⟩; replace a0 := cell_fr' hf a0 (fun h => h); replace a1 := cell_fr' hf a1 (fun h => h); replace b0 := cell_fr' hf b0 (fun h => h); replace b1 := cell_fr' hf b1 (fun h => h); replace c0 := cell_fr' hf c0 (fun h => h); replace c1 := cell_fr' hf c1 (fun h => h); replace d0 := cell_fr' hf d0 (fun h => h); replace d1 := cell_fr' hf d1 (fun h => h); replace e0 := cell_fr' hf e0 (fun h => h); replace e1 := cell_fr' hf e1 (fun h => h); replace f0 := cell_fr' hf f0 (fun h => h); replace f1 := cell_fr' hf f1 (fun h => h); have HF11 := Lib.hid (HF10.out.trans hf); clear hf); (try go_wp2_with fail); (refine hK.out _ _ ⟨a0, a1, b0, b1, c0, c1, d0, d1, e0, e1, f0, f1⟩ (fun hHeld => ?_)); clear hK K; (try simp only [Act.put, List.setIfInBounds_toArray, List.set_cons_zero, List.set_cons_succ])
        (refine wpAnyH_ready (rs := [32]) (by kernel_rfl) (by simp) ?_; refine AllReadyH.cons (by simp only [List.getElem?_toArray, List.getElem?_cons_succ, List.getElem?_cons_zero]; rfl) (fun K hK => ?_) AllReadyH.nil; go_simp); (refine (Has_any (l + 1) (b * 2) a _).mono ?_; rw [HH0.out]; rintro e w12 ⟨rfl, hf⟩; replace a0 := cell_fr' hf a0 (fun h => h); replace a1 := cell_fr' hf a1 (fun h => h); replace b0 := cell_fr' hf b0 (fun h => h); replace b1 := cell_fr' hf b1 (fun h => h); replace c0 := cell_fr' hf c0 (fun h => h); replace c1 := cell_fr' hf c1 (fun h => h); replace d0 := cell_fr' hf d0 (fun h => h); replace d1 := cell_fr' hf d1 (fun h => h); replace e0 := cell_fr' hf e0 (fun h => h); replace e1 := cell_fr' hf e1 (fun h => h); replace f0 := cell_fr' hf f0 (fun h => h); replace f1 := cell_fr' hf f1 (fun h => h); have HF12 := Lib.hid (HF11.out.trans hf); clear hf); (try go_wp2_with fail); (refine hK.out _ _ ⟨a0, a1, b0, b1, c0, c1, d0, d1, e0, e1, f0, f1⟩ (fun hHeld => ?_)); clear hK K; (try simp only [Act.put, List.setIfInBounds_toArray, List.set_cons_zero, List.set_cons_succ])
        (refine wpAnyH_take (i := 33) (v := ?_) (by simp only [List.getElem?_toArray, List.getElem?_cons_succ, List.getElem?_cons_zero]; rfl) (by kernel_rfl) (by kernel_rfl) (by kernel_rfl) (by exact fun _ _ _ h => h) (Or.inl ⟨by rfl, ?_⟩) hHeld ?_; rotate_left; (focus (intro w hSw; (try dsimp only at hSw); go_simp; all_goals with_reducible rfl)); (try simp only [Act.put, List.setIfInBounds_toArray, List.set_cons_zero, List.set_cons_succ]))
        (refine wpAnyH_take (i := 34) (v := ?_) (by simp only [List.getElem?_toArray, List.getElem?_cons_succ, List.getElem?_cons_zero]; rfl) (by kernel_rfl) (by kernel_rfl) (by kernel_rfl) (by exact fun _ _ _ h => h) (Or.inl ⟨by rfl, ?_⟩) hHeld ?_; rotate_left; (focus (intro w hSw; (try dsimp only at hSw); go_simp; all_goals with_reducible rfl)); (try simp only [Act.put, List.setIfInBounds_toArray, List.set_cons_zero, List.set_cons_succ])); (refine wpAnyH_take (i := 35) (v := ?_) (by simp only [List.getElem?_toArray, List.getElem?_cons_succ, List.getElem?_cons_zero]; rfl) (by kernel_rfl) (by kernel_rfl) (by kernel_rfl) (by exact fun _ _ _ h => h) (Or.inl ⟨by rfl, ?_⟩) hHeld ?_; rotate_left; (focus (intro w hSw; (try dsimp only at hSw); go_simp; all_goals with_reducible rfl)); (try simp only [Act.put, List.setIfInBounds_toArray, List.set_cons_zero, List.set_cons_succ]))
        (refine wpAnyH_ready (rs := [36]) (by kernel_rfl) (by simp) ?_; refine AllReadyH.cons (by simp only [List.getElem?_toArray, List.getElem?_cons_succ, List.getElem?_cons_zero]; rfl) (fun K hK => ?_) AllReadyH.nil; go_simp); (refine (Has_any (l + 1) (b * 2 + 1) a _).mono ?_; rw [HH1.out]; rintro e w13 ⟨rfl, hf⟩; replace a0 := cell_fr' hf a0 (fun h => h); replace a1 := cell_fr' hf a1 (fun h => h); replace b0 := cell_fr' hf b0 (fun h => h); replace b1 := cell_fr' hf b1 (fun h => h); replace c0 := cell_fr' hf c0 (fun h => h); replace c1 := cell_fr' hf c1 (fun h => h); replace d0 := cell_fr' hf d0 (fun h => h); replace d1 := cell_fr' hf d1 (fun h => h); replace e0 := cell_fr' hf e0 (fun h => h); replace e1 := cell_fr' hf e1 (fun h => h); replace f0 := cell_fr' hf f0 (fun h => h); replace f1 := cell_fr' hf f1 (fun h => h); have HF13 := Lib.hid (HF12.out.trans hf); clear hf); (try go_wp2_with fail); (refine hK.out _ _ ⟨a0, a1, b0, b1, c0, c1, d0, d1, e0, e1, f0, f1⟩ (fun hHeld => ?_)); clear hK K; (try simp only [Act.put, List.setIfInBounds_toArray, List.set_cons_zero, List.set_cons_succ])
        (refine wpAnyH_take (i := 37) (v := ?_) (by simp only [List.getElem?_toArray, List.getElem?_cons_succ, List.getElem?_cons_zero]; rfl) (by kernel_rfl) (by kernel_rfl) (by kernel_rfl) (by exact fun _ _ _ h => h) (Or.inl ⟨by rfl, ?_⟩) hHeld ?_; rotate_left; (focus (intro w hSw; (try dsimp only at hSw); go_simp; all_goals with_reducible rfl)); (try simp only [Act.put, List.setIfInBounds_toArray, List.set_cons_zero, List.set_cons_succ])); (refine wpAnyH_take (i := 38) (v := ?_) (by simp only [List.getElem?_toArray, List.getElem?_cons_succ, List.getElem?_cons_zero]; rfl) (by kernel_rfl) (by kernel_rfl) (by kernel_rfl) (by exact fun _ _ _ h => h) (Or.inl ⟨by rfl, ?_⟩) hHeld ?_; rotate_left; (focus (intro w hSw; (try dsimp only at hSw); go_simp; all_goals with_reducible rfl)); (try simp only [Act.put, List.setIfInBounds_toArray, List.set_cons_zero, List.set_cons_succ])); (refine wpAnyH_take (i := 39) (v := ?_) (by simp only [List.getElem?_toArray, List.getElem?_cons_succ, List.getElem?_cons_zero]; rfl) (by kernel_rfl) (by kernel_rfl) (by kernel_rfl) (by exact fun _ _ _ h => h) (Or.inl ⟨by rfl, ?_⟩) hHeld ?_; rotate_left; (focus (intro w hSw; (try dsimp only at hSw); go_simp; all_goals with_reducible rfl)); (try simp only [Act.put, List.setIfInBounds_toArray, List.set_cons_zero, List.set_cons_succ]))
        (refine wpAnyH_done (by kernel_rfl) ?_ _)
        go_wp2_with fail
        go_meet
        exact ⟨rfl, a0, a1, b0, b1, HF13.out⟩
  case rest =>
    obtain ⟨rfl, a0, a1, b0, b1, hf⟩ := hcut
    have HF50 := Lib.hid hf
    clear hf c0 c1 d0 d1 e0 e1 f0 f1
    go_upto_region 12 with fail
    by_cases hpa : Tb.has ⟨l, b⟩ a
    · by_cases hqa : Tb.has ⟨m, c⟩ a
      · by_cases hcv : Tb.covers ⟨l, b⟩ ⟨m, c⟩
        · have h1 := decide_eq_true hpa
          have h2 := decide_eq_true hqa
          have h3 := decide_eq_true hcv
          have HPA := Lib.hid h1; clear h1; have HQA := Lib.hid h2; clear h2; have HC1 := Lib.hid h3; clear h3; have HPAP := Lib.hid hpa; clear hpa; have HQAP := Lib.hid hqa; clear hqa; have HCVP := Lib.hid hcv; clear hcv
          go_wp2_with fail
          refine (Has_any l b a _).mono ?_
          rw [HPA.out]
          rintro e w51 ⟨rfl, hf⟩
          have a0 := cell_fr' hf a0 (fun h => h)
          have a1 := cell_fr' hf a1 (fun h => h)
          have b0 := cell_fr' hf b0 (fun h => h)
          have b1 := cell_fr' hf b1 (fun h => h)
          have HF51 := Lib.hid (HF50.out.trans hf)
          clear hf HF50
          go_wp2_with fail
          refine (Has_any m c a _).mono ?_
          rw [HQA.out]
          rintro e w52 ⟨rfl, hf⟩
          have a0 := cell_fr' hf a0 (fun h => h)
          have a1 := cell_fr' hf a1 (fun h => h)
          have b0 := cell_fr' hf b0 (fun h => h)
          have b1 := cell_fr' hf b1 (fun h => h)
          have HF52 := Lib.hid (HF51.out.trans hf)
          clear hf HF51
          go_wp2_with fail
          refine (Covers_any l b m c _).mono ?_
          rw [HC1.out]
          rintro e w53 ⟨rfl, hf⟩
          have a0 := cell_fr' hf a0 (fun h => h)
          have a1 := cell_fr' hf a1 (fun h => h)
          have b0 := cell_fr' hf b0 (fun h => h)
          have b1 := cell_fr' hf b1 (fun h => h)
          have HF53 := Lib.hid (HF52.out.trans hf)
          clear hf HF52
          go_wp2
          go_ret
          exact ⟨rfl, HF53.out⟩
        · have h1 := decide_eq_true hpa
          have h2 := decide_eq_true hqa
          have h3 := decide_eq_false hcv
          have h4 := decide_eq_true ((Tb.apart_or hpa hqa).resolve_left hcv)
          have HPA := Lib.hid h1; clear h1; have HQA := Lib.hid h2; clear h2; have HC1 := Lib.hid h3; clear h3; have HC2 := Lib.hid h4; clear h4; have HPAP := Lib.hid hpa; clear hpa; have HQAP := Lib.hid hqa; clear hqa; have HCVP := Lib.hid hcv; clear hcv
          go_wp2_with fail
          refine (Has_any l b a _).mono ?_
          rw [HPA.out]
          rintro e w51 ⟨rfl, hf⟩
          have a0 := cell_fr' hf a0 (fun h => h)
          have a1 := cell_fr' hf a1 (fun h => h)
          have b0 := cell_fr' hf b0 (fun h => h)
          have b1 := cell_fr' hf b1 (fun h => h)
          have HF51 := Lib.hid (HF50.out.trans hf)
          clear hf HF50
          go_wp2_with fail
          refine (Has_any m c a _).mono ?_
          rw [HQA.out]
          rintro e w52 ⟨rfl, hf⟩
          have a0 := cell_fr' hf a0 (fun h => h)
          have a1 := cell_fr' hf a1 (fun h => h)
          have b0 := cell_fr' hf b0 (fun h => h)
          have b1 := cell_fr' hf b1 (fun h => h)
          have HF52 := Lib.hid (HF51.out.trans hf)
          clear hf HF51
          go_wp2_with fail
          refine (Covers_any l b m c _).mono ?_
          rw [HC1.out]
          rintro e w53 ⟨rfl, hf⟩
          have a0 := cell_fr' hf a0 (fun h => h)
          have a1 := cell_fr' hf a1 (fun h => h)
          have b0 := cell_fr' hf b0 (fun h => h)
          have b1 := cell_fr' hf b1 (fun h => h)
          have HF53 := Lib.hid (HF52.out.trans hf)
          clear hf HF52
          go_wp2_with fail
          refine (Covers_any m c l b _).mono ?_
          rw [HC2.out]
          rintro e w54 ⟨rfl, hf⟩
          have a0 := cell_fr' hf a0 (fun h => h)
          have a1 := cell_fr' hf a1 (fun h => h)
          have b0 := cell_fr' hf b0 (fun h => h)
          have b1 := cell_fr' hf b1 (fun h => h)
          have HF54 := Lib.hid (HF53.out.trans hf)
          clear hf HF53
          go_wp2
          go_ret
          exact ⟨rfl, HF54.out⟩
      · have h1 := decide_eq_true hpa
        have h2 := decide_eq_false hqa
        have HPA := Lib.hid h1; clear h1; have HQA := Lib.hid h2; clear h2; have HPAP := Lib.hid hpa; clear hpa; have HQAP := Lib.hid hqa; clear hqa
        go_wp2_with fail
        refine (Has_any l b a _).mono ?_
        rw [HPA.out]
        rintro e w51 ⟨rfl, hf⟩
        have a0 := cell_fr' hf a0 (fun h => h)
        have a1 := cell_fr' hf a1 (fun h => h)
        have b0 := cell_fr' hf b0 (fun h => h)
        have b1 := cell_fr' hf b1 (fun h => h)
        have HF51 := Lib.hid (HF50.out.trans hf)
        clear hf HF50
        go_wp2_with fail
        refine (Has_any m c a _).mono ?_
        rw [HQA.out]
        rintro e w52 ⟨rfl, hf⟩
        have a0 := cell_fr' hf a0 (fun h => h)
        have a1 := cell_fr' hf a1 (fun h => h)
        have b0 := cell_fr' hf b0 (fun h => h)
        have b1 := cell_fr' hf b1 (fun h => h)
        have HF52 := Lib.hid (HF51.out.trans hf)
        clear hf HF51
        go_wp2
        go_ret
        exact ⟨rfl, HF52.out⟩
    · have h1 := decide_eq_false hpa
      have HPA := Lib.hid h1; clear h1; have HPAP := Lib.hid hpa; clear hpa
      go_wp2_with fail
      refine (Has_any l b a _).mono ?_
      rw [HPA.out]
      rintro e w51 ⟨rfl, hf⟩
      have a0 := cell_fr' hf a0 (fun h => h)
      have a1 := cell_fr' hf a1 (fun h => h)
      have b0 := cell_fr' hf b0 (fun h => h)
      have b1 := cell_fr' hf b1 (fun h => h)
      have HF51 := Lib.hid (HF50.out.trans hf)
      clear hf HF50
      go_wp2
      go_ret
      exact ⟨rfl, HF51.out⟩
theorem PrefixHalves_all (f0 f1 : Nat → Int) (a : Int) (w : World) (hT : Tab w) : Calls Tryd.prog 6 #[.agg #[.int .i64 (f0 0), .int .i64 (f0 1)], .agg #[.int .i64 (f1 0), .int .i64 (f1 1)], .int .i64 a] w (BoolFr true w) := by
  by_cases h : Tb.ok ⟨f0 0, f0 1⟩
  · by_cases hl : f0 0 < 8
    · exact Halves_ok _ _ _ _ a w hT h hl
    · exact Halves_no _ _ _ _ a w hT (fun x k => hl k.2.1)
  · exact Halves_no _ _ _ _ a w hT (fun x k => h k.1)
end Go.Proofs.YtglngngcohcmfaaDoor
