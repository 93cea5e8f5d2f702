/- The law PrefixOrder: its walk. -/
import Derived.Test.YtglngngcohcmfaaDoorPf13
namespace Go.Proofs.YtglngngcohcmfaaDoor
open Go.RowKit Go.Deep

theorem box_at0 (w : World) (n : Nat) (h : n = w.heap.size) (x y : Value) (t : TypeId) : (w.alloc (.cells #[x, y] t)).cell? ⟨n, 0, none⟩ = some x := by subst h; exact box0 w x y t
theorem box_at1 (w : World) (n : Nat) (h : n = w.heap.size) (x y : Value) (t : TypeId) : (w.alloc (.cells #[x, y] t)).cell? ⟨n, 1, none⟩ = some y := by subst h; exact box1 w x y t
theorem up_cell {w : World} {b o : Nat} {v : Value} (obj : Obj) (h : w.cell? ⟨b, o, none⟩ = some v) : (w.alloc obj).cell? ⟨b, o, none⟩ = some v := cell_fr' ((Fr.refl NoB w).alloc obj) h (fun h => h)
theorem covers_less {p q : Tb.Pf} (h : Tb.covers p q) (hne : ¬ (p = q)) : Tb.less p q := by
  obtain ⟨h1, h2, h3, h4⟩ := h
  unfold Tb.less
  rw [Tb.fst_ok h1, Tb.fst_ok h2, ← h4]
  obtain ⟨l, b⟩ := p
  obtain ⟨m, c⟩ := q
  have h5 := h1.1; have h6 := h2.2.1; have h7 := h2.2.2.1
  simp only at *
  have hkk : ∃ k : Nat, m - l = k ∧ k ≤ 8 := ⟨(m - l).toNat, by omega, by omega⟩
  obtain ⟨k, hk, hk8⟩ := hkk
  have e1 : (8 - l).toNat = (8 - m).toNat + k := by omega
  have e2 : (m - l).toNat = k := by omega
  unfold Tb.span
  simp only
  rw [e1, e2, Int.pow_add]
  rw [e2] at h4
  have hs : (0 : Int) < 2 ^ (8 - m).toNat := Int.pow_pos (by decide)
  have hw : (0 : Int) < 2 ^ k := Int.pow_pos (by decide)
  have hle : c / 2 ^ k * 2 ^ k ≤ c := Int.ediv_mul_le c (by omega)
  have hx : c / 2 ^ k * (2 ^ (8 - m).toNat * 2 ^ k) = (c / 2 ^ k * 2 ^ k) * 2 ^ (8 - m).toNat := by rw [Int.mul_comm (2 ^ (8 - m).toNat), Int.mul_assoc]
  rw [hx]
  have hmul : (c / 2 ^ k * 2 ^ k) * 2 ^ (8 - m).toNat ≤ c * 2 ^ (8 - m).toNat := Int.mul_le_mul_of_nonneg_right hle (by omega)
  by_cases e : (c / 2 ^ k * 2 ^ k) * 2 ^ (8 - m).toNat = c * 2 ^ (8 - m).toNat
  · right
    refine ⟨e, ?_⟩
    by_cases hk0 : k = 0
    · exfalso
      subst hk0
      have : l = m := by omega
      subst this
      refine hne ?_
      have : b = c := by rw [← h4]; simp
      rw [this]
    · omega
  · left
    omega
set_option maxRecDepth 100000 in
set_option maxHeartbeats 4000000 in
theorem Order_no0 (l b m c r d : Int) (w : World) (hT : Tab w) (hp0 : decide (Tb.ok ⟨l, b⟩) = false) : Calls Tryd.prog 4 #[.agg #[.int .i64 l, .int .i64 b], .agg #[.int .i64 m, .int .i64 c], .agg #[.int .i64 r, .int .i64 d]] w (BoolFr true w) := by
  have HT := Lib.hid hT; clear hT; have HP0 := Lib.hid hp0; clear hp0
  go_enter Tryd.func4, Tryd.ntmps4
  go_upto_region 1 with fail
  refine wp_name fun w0 hw0 => ?_
  have hF : Fr NoB w w0 := by rw [hw0]; (repeat (first | exact Fr.refl _ _ | refine Fr.alloc ?_ _ | refine Fr.setNew ?_ (by omega) _ _ | refine Fr.drewN ?_ _ | refine Fr.drew ?_))
  have a0 : w0.cell? ⟨w.heap.size, 0, none⟩ = some (.int .i64 l) := by rw [hw0]; exact up_cell _ (up_cell _ (box0 w _ _ _))
  have a1 : w0.cell? ⟨w.heap.size, 1, none⟩ = some (.int .i64 b) := by rw [hw0]; exact up_cell _ (up_cell _ (box1 w _ _ _))
  have b0 : w0.cell? ⟨w.heap.size + 1, 0, none⟩ = some (.int .i64 m) := by rw [hw0]; exact up_cell _ (box_at0 _ _ (by simp) _ _ _)
  have b1 : w0.cell? ⟨w.heap.size + 1, 1, none⟩ = some (.int .i64 c) := by rw [hw0]; exact up_cell _ (box_at1 _ _ (by simp) _ _ _)
  have c0 : w0.cell? ⟨w.heap.size + 1 + 1, 0, none⟩ = some (.int .i64 r) := by rw [hw0]; exact box_at0 _ _ (by simp) _ _ _
  have c1 : w0.cell? ⟨w.heap.size + 1 + 1, 1, none⟩ = some (.int .i64 d) := by rw [hw0]; exact box_at1 _ _ (by simp) _ _ _
  clear hw0
  have HF0 := Lib.hid hF
  clear hF
  go_wp2_with fail
  refine (begun_any _ (HT.out.keep HF0.out)).mono ?_
  rintro e w1 ⟨rfl, hf⟩
  have a0 := cell_fr' hf a0 (fun h => h)
  have a1 := cell_fr' hf a1 (fun h => h)
  have b0 := cell_fr' hf b0 (fun h => h)
  have b1 := cell_fr' hf b1 (fun h => h)
  have c0 := cell_fr' hf c0 (fun h => h)
  have c1 := cell_fr' hf c1 (fun h => h)
  have HF1 := Lib.hid (HF0.out.trans hf)
  clear hf HF0
  go_wp2_with fail
  refine (Check_any l b _).mono ?_
  rw [HP0.out]
  rintro e w2 ⟨rfl, hf⟩
  have a0 := cell_fr' hf a0 (fun h => h)
  have a1 := cell_fr' hf a1 (fun h => h)
  have b0 := cell_fr' hf b0 (fun h => h)
  have b1 := cell_fr' hf b1 (fun h => h)
  have c0 := cell_fr' hf c0 (fun h => h)
  have c1 := cell_fr' hf c1 (fun h => h)
  have HF2 := Lib.hid (HF1.out.trans hf)
  clear hf HF1
  go_wp2
  go_ret
  exact ⟨rfl, HF2.out⟩
set_option maxRecDepth 100000 in
set_option maxHeartbeats 4000000 in
theorem Order_no1 (l b m c r d : Int) (w : World) (hT : Tab w) (hp0 : decide (Tb.ok ⟨l, b⟩) = true) (hp1 : decide (Tb.ok ⟨m, c⟩) = false) : Calls Tryd.prog 4 #[.agg #[.int .i64 l, .int .i64 b], .agg #[.int .i64 m, .int .i64 c], .agg #[.int .i64 r, .int .i64 d]] w (BoolFr true w) := by
  have HT := Lib.hid hT; clear hT; have HP0 := Lib.hid hp0; clear hp0; have HP1 := Lib.hid hp1; clear hp1
  go_enter Tryd.func4, Tryd.ntmps4
  go_upto_region 1 with fail
  refine wp_name fun w0 hw0 => ?_
  have hF : Fr NoB w w0 := by rw [hw0]; (repeat (first | exact Fr.refl _ _ | refine Fr.alloc ?_ _ | refine Fr.setNew ?_ (by omega) _ _ | refine Fr.drewN ?_ _ | refine Fr.drew ?_))
  have a0 : w0.cell? ⟨w.heap.size, 0, none⟩ = some (.int .i64 l) := by rw [hw0]; exact up_cell _ (up_cell _ (box0 w _ _ _))
  have a1 : w0.cell? ⟨w.heap.size, 1, none⟩ = some (.int .i64 b) := by rw [hw0]; exact up_cell _ (up_cell _ (box1 w _ _ _))
  have b0 : w0.cell? ⟨w.heap.size + 1, 0, none⟩ = some (.int .i64 m) := by rw [hw0]; exact up_cell _ (box_at0 _ _ (by simp) _ _ _)
  have b1 : w0.cell? ⟨w.heap.size + 1, 1, none⟩ = some (.int .i64 c) := by rw [hw0]; exact up_cell _ (box_at1 _ _ (by simp) _ _ _)
  have c0 : w0.cell? ⟨w.heap.size + 1 + 1, 0, none⟩ = some (.int .i64 r) := by rw [hw0]; exact box_at0 _ _ (by simp) _ _ _
  have c1 : w0.cell? ⟨w.heap.size + 1 + 1, 1, none⟩ = some (.int .i64 d) := by rw [hw0]; exact box_at1 _ _ (by simp) _ _ _
  clear hw0
  have HF0 := Lib.hid hF
  clear hF
  go_wp2_with fail
  refine (begun_any _ (HT.out.keep HF0.out)).mono ?_
  rintro e w1 ⟨rfl, hf⟩
  have a0 := cell_fr' hf a0 (fun h => h)
  have a1 := cell_fr' hf a1 (fun h => h)
  have b0 := cell_fr' hf b0 (fun h => h)
  have b1 := cell_fr' hf b1 (fun h => h)
  have c0 := cell_fr' hf c0 (fun h => h)
  have c1 := cell_fr' hf c1 (fun h => h)
  have HF1 := Lib.hid (HF0.out.trans hf)
  clear hf HF0
  go_wp2_with fail
  refine (Check_any l b _).mono ?_
  rw [HP0.out]
  rintro e w2 ⟨rfl, hf⟩
  have a0 := cell_fr' hf a0 (fun h => h)
  have a1 := cell_fr' hf a1 (fun h => h)
  have b0 := cell_fr' hf b0 (fun h => h)
  have b1 := cell_fr' hf b1 (fun h => h)
  have c0 := cell_fr' hf c0 (fun h => h)
  have c1 := cell_fr' hf c1 (fun h => h)
  have HF2 := Lib.hid (HF1.out.trans hf)
  clear hf HF1
  go_wp2_with fail
  refine (Check_any m c _).mono ?_
  rw [HP1.out]
  rintro e w3 ⟨rfl, hf⟩
  have a0 := cell_fr' hf a0 (fun h => h)
  have a1 := cell_fr' hf a1 (fun h => h)
  have b0 := cell_fr' hf b0 (fun h => h)
  have b1 := cell_fr' hf b1 (fun h => h)
  have c0 := cell_fr' hf c0 (fun h => h)
  have c1 := cell_fr' hf c1 (fun h => h)
  have HF3 := Lib.hid (HF2.out.trans hf)
  clear hf HF2
  go_wp2
  go_ret
  exact ⟨rfl, HF3.out⟩
set_option maxRecDepth 100000 in
set_option maxHeartbeats 4000000 in
theorem Order_no2 (l b m c r d : Int) (w : World) (hT : Tab w) (hp0 : decide (Tb.ok ⟨l, b⟩) = true) (hp1 : decide (Tb.ok ⟨m, c⟩) = true) (hp2 : decide (Tb.ok ⟨r, d⟩) = false) : Calls Tryd.prog 4 #[.agg #[.int .i64 l, .int .i64 b], .agg #[.int .i64 m, .int .i64 c], .agg #[.int .i64 r, .int .i64 d]] w (BoolFr true w) := by
  have HT := Lib.hid hT; clear hT; have HP0 := Lib.hid hp0; clear hp0; have HP1 := Lib.hid hp1; clear hp1; have HP2 := Lib.hid hp2; clear hp2
  go_enter Tryd.func4, Tryd.ntmps4
  go_upto_region 1 with fail
  refine wp_name fun w0 hw0 => ?_
  have hF : Fr NoB w w0 := by rw [hw0]; (repeat (first | exact Fr.refl _ _ | refine Fr.alloc ?_ _ | refine Fr.setNew ?_ (by omega) _ _ | refine Fr.drewN ?_ _ | refine Fr.drew ?_))
  have a0 : w0.cell? ⟨w.heap.size, 0, none⟩ = some (.int .i64 l) := by rw [hw0]; exact up_cell _ (up_cell _ (box0 w _ _ _))
  have a1 : w0.cell? ⟨w.heap.size, 1, none⟩ = some (.int .i64 b) := by rw [hw0]; exact up_cell _ (up_cell _ (box1 w _ _ _))
  have b0 : w0.cell? ⟨w.heap.size + 1, 0, none⟩ = some (.int .i64 m) := by rw [hw0]; exact up_cell _ (box_at0 _ _ (by simp) _ _ _)
  have b1 : w0.cell? ⟨w.heap.size + 1, 1, none⟩ = some (.int .i64 c) := by rw [hw0]; exact up_cell _ (box_at1 _ _ (by simp) _ _ _)
  have c0 : w0.cell? ⟨w.heap.size + 1 + 1, 0, none⟩ = some (.int .i64 r) := by rw [hw0]; exact box_at0 _ _ (by simp) _ _ _
  have c1 : w0.cell? ⟨w.heap.size + 1 + 1, 1, none⟩ = some (.int .i64 d) := by rw [hw0]; exact box_at1 _ _ (by simp) _ _ _
  clear hw0
  have HF0 := Lib.hid hF
  clear hF
  go_wp2_with fail
  refine (begun_any _ (HT.out.keep HF0.out)).mono ?_
  rintro e w1 ⟨rfl, hf⟩
  have a0 := cell_fr' hf a0 (fun h => h)
  have a1 := cell_fr' hf a1 (fun h => h)
  have b0 := cell_fr' hf b0 (fun h => h)
  have b1 := cell_fr' hf b1 (fun h => h)
  have c0 := cell_fr' hf c0 (fun h => h)
  have c1 := cell_fr' hf c1 (fun h => h)
  have HF1 := Lib.hid (HF0.out.trans hf)
  clear hf HF0
  go_wp2_with fail
  refine (Check_any l b _).mono ?_
  rw [HP0.out]
  rintro e w2 ⟨rfl, hf⟩
  have a0 := cell_fr' hf a0 (fun h => h)
  have a1 := cell_fr' hf a1 (fun h => h)
  have b0 := cell_fr' hf b0 (fun h => h)
  have b1 := cell_fr' hf b1 (fun h => h)
  have c0 := cell_fr' hf c0 (fun h => h)
  have c1 := cell_fr' hf c1 (fun h => h)
  have HF2 := Lib.hid (HF1.out.trans hf)
  clear hf HF1
  go_wp2_with fail
  refine (Check_any m c _).mono ?_
  rw [HP1.out]
  rintro e w3 ⟨rfl, hf⟩
  have a0 := cell_fr' hf a0 (fun h => h)
  have a1 := cell_fr' hf a1 (fun h => h)
  have b0 := cell_fr' hf b0 (fun h => h)
  have b1 := cell_fr' hf b1 (fun h => h)
  have c0 := cell_fr' hf c0 (fun h => h)
  have c1 := cell_fr' hf c1 (fun h => h)
  have HF3 := Lib.hid (HF2.out.trans hf)
  clear hf HF2
  go_wp2_with fail
  refine (Check_any r d _).mono ?_
  rw [HP2.out]
  rintro e w4 ⟨rfl, hf⟩
  have a0 := cell_fr' hf a0 (fun h => h)
  have a1 := cell_fr' hf a1 (fun h => h)
  have b0 := cell_fr' hf b0 (fun h => h)
  have b1 := cell_fr' hf b1 (fun h => h)
  have c0 := cell_fr' hf c0 (fun h => h)
  have c1 := cell_fr' hf c1 (fun h => h)
  have HF4 := Lib.hid (HF3.out.trans hf)
  clear hf HF3
  go_wp2
  go_ret
  exact ⟨rfl, HF4.out⟩
set_option maxRecDepth 100000 in
set_option maxHeartbeats 4000000 in
theorem Order_pq_t_t_n1 (l b m c r d : Int) (w : World) (hT : Tab w) (hp0 : decide (Tb.ok ⟨l, b⟩) = true) (hp1 : decide (Tb.ok ⟨m, c⟩) = true) (hp2 : decide (Tb.ok ⟨r, d⟩) = true) (hpq : decide (Tb.less ⟨l, b⟩ ⟨m, c⟩) = true) (hqp : decide (Tb.less ⟨m, c⟩ ⟨l, b⟩) = false) (hqr : decide (Tb.less ⟨m, c⟩ ⟨r, d⟩) = true) (hpr : decide (Tb.less ⟨l, b⟩ ⟨r, d⟩) = true) (hcv : decide (Tb.covers ⟨l, b⟩ ⟨m, c⟩) = true) (heq : ¬ l = m) : Calls Tryd.prog 4 #[.agg #[.int .i64 l, .int .i64 b], .agg #[.int .i64 m, .int .i64 c], .agg #[.int .i64 r, .int .i64 d]] w (BoolFr true w) := by
  have HT := Lib.hid hT; clear hT; have HP0 := Lib.hid hp0; clear hp0; have HP1 := Lib.hid hp1; clear hp1; have HP2 := Lib.hid hp2; clear hp2; have HPQ := Lib.hid hpq; clear hpq; have HQP := Lib.hid hqp; clear hqp; have HQR := Lib.hid hqr; clear hqr; have HPR := Lib.hid hpr; clear hpr; have HCV := Lib.hid hcv; clear hcv
  go_enter Tryd.func4, Tryd.ntmps4
  go_upto_region 1 with fail
  refine wp_name fun w0 hw0 => ?_
  have hF : Fr NoB w w0 := by rw [hw0]; (repeat (first | exact Fr.refl _ _ | refine Fr.alloc ?_ _ | refine Fr.setNew ?_ (by omega) _ _ | refine Fr.drewN ?_ _ | refine Fr.drew ?_))
  have a0 : w0.cell? ⟨w.heap.size, 0, none⟩ = some (.int .i64 l) := by rw [hw0]; exact up_cell _ (up_cell _ (box0 w _ _ _))
  have a1 : w0.cell? ⟨w.heap.size, 1, none⟩ = some (.int .i64 b) := by rw [hw0]; exact up_cell _ (up_cell _ (box1 w _ _ _))
  have b0 : w0.cell? ⟨w.heap.size + 1, 0, none⟩ = some (.int .i64 m) := by rw [hw0]; exact up_cell _ (box_at0 _ _ (by simp) _ _ _)
  have b1 : w0.cell? ⟨w.heap.size + 1, 1, none⟩ = some (.int .i64 c) := by rw [hw0]; exact up_cell _ (box_at1 _ _ (by simp) _ _ _)
  have c0 : w0.cell? ⟨w.heap.size + 1 + 1, 0, none⟩ = some (.int .i64 r) := by rw [hw0]; exact box_at0 _ _ (by simp) _ _ _
  have c1 : w0.cell? ⟨w.heap.size + 1 + 1, 1, none⟩ = some (.int .i64 d) := by rw [hw0]; exact box_at1 _ _ (by simp) _ _ _
  clear hw0
  have HF0 := Lib.hid hF
  clear hF
  go_wp2_with fail
  refine (begun_any _ (HT.out.keep HF0.out)).mono ?_
  rintro e w1 ⟨rfl, hf⟩
  have a0 := cell_fr' hf a0 (fun h => h)
  have a1 := cell_fr' hf a1 (fun h => h)
  have b0 := cell_fr' hf b0 (fun h => h)
  have b1 := cell_fr' hf b1 (fun h => h)
  have c0 := cell_fr' hf c0 (fun h => h)
  have c1 := cell_fr' hf c1 (fun h => h)
  have HF1 := Lib.hid (HF0.out.trans hf)
  clear hf HF0
  go_wp2_with fail
  refine (Check_any l b _).mono ?_
  rw [HP0.out]
  rintro e w2 ⟨rfl, hf⟩
  have a0 := cell_fr' hf a0 (fun h => h)
  have a1 := cell_fr' hf a1 (fun h => h)
  have b0 := cell_fr' hf b0 (fun h => h)
  have b1 := cell_fr' hf b1 (fun h => h)
  have c0 := cell_fr' hf c0 (fun h => h)
  have c1 := cell_fr' hf c1 (fun h => h)
  have HF2 := Lib.hid (HF1.out.trans hf)
  clear hf HF1
  go_wp2_with fail
  refine (Check_any m c _).mono ?_
  rw [HP1.out]
  rintro e w3 ⟨rfl, hf⟩
  have a0 := cell_fr' hf a0 (fun h => h)
  have a1 := cell_fr' hf a1 (fun h => h)
  have b0 := cell_fr' hf b0 (fun h => h)
  have b1 := cell_fr' hf b1 (fun h => h)
  have c0 := cell_fr' hf c0 (fun h => h)
  have c1 := cell_fr' hf c1 (fun h => h)
  have HF3 := Lib.hid (HF2.out.trans hf)
  clear hf HF2
  go_wp2_with fail
  refine (Check_any r d _).mono ?_
  rw [HP2.out]
  rintro e w4 ⟨rfl, hf⟩
  have a0 := cell_fr' hf a0 (fun h => h)
  have a1 := cell_fr' hf a1 (fun h => h)
  have b0 := cell_fr' hf b0 (fun h => h)
  have b1 := cell_fr' hf b1 (fun h => h)
  have c0 := cell_fr' hf c0 (fun h => h)
  have c1 := cell_fr' hf c1 (fun h => h)
  have HF4 := Lib.hid (HF3.out.trans hf)
  clear hf HF3
  go_wp2_with fail
  refine (Less_any l b m c _).mono ?_
  rw [HPQ.out]
  rintro e w5 ⟨rfl, hf⟩
  have a0 := cell_fr' hf a0 (fun h => h)
  have a1 := cell_fr' hf a1 (fun h => h)
  have b0 := cell_fr' hf b0 (fun h => h)
  have b1 := cell_fr' hf b1 (fun h => h)
  have c0 := cell_fr' hf c0 (fun h => h)
  have c1 := cell_fr' hf c1 (fun h => h)
  have HF5 := Lib.hid (HF4.out.trans hf)
  clear hf HF4
  go_wp2_with fail
  refine (Less_any m c l b _).mono ?_
  rw [HQP.out]
  rintro e w6 ⟨rfl, hf⟩
  have a0 := cell_fr' hf a0 (fun h => h)
  have a1 := cell_fr' hf a1 (fun h => h)
  have b0 := cell_fr' hf b0 (fun h => h)
  have b1 := cell_fr' hf b1 (fun h => h)
  have c0 := cell_fr' hf c0 (fun h => h)
  have c1 := cell_fr' hf c1 (fun h => h)
  have HF6 := Lib.hid (HF5.out.trans hf)
  clear hf HF5
  go_wp2_with fail
  refine (Less_any l b m c _).mono ?_
  rw [HPQ.out]
  rintro e w7 ⟨rfl, hf⟩
  have a0 := cell_fr' hf a0 (fun h => h)
  have a1 := cell_fr' hf a1 (fun h => h)
  have b0 := cell_fr' hf b0 (fun h => h)
  have b1 := cell_fr' hf b1 (fun h => h)
  have c0 := cell_fr' hf c0 (fun h => h)
  have c1 := cell_fr' hf c1 (fun h => h)
  have HF7 := Lib.hid (HF6.out.trans hf)
  clear hf HF6
  go_wp2_with fail
  refine (Less_any m c r d _).mono ?_
  rw [HQR.out]
  rintro e w8 ⟨rfl, hf⟩
  have a0 := cell_fr' hf a0 (fun h => h)
  have a1 := cell_fr' hf a1 (fun h => h)
  have b0 := cell_fr' hf b0 (fun h => h)
  have b1 := cell_fr' hf b1 (fun h => h)
  have c0 := cell_fr' hf c0 (fun h => h)
  have c1 := cell_fr' hf c1 (fun h => h)
  have HF8 := Lib.hid (HF7.out.trans hf)
  clear hf HF7
  go_wp2_with fail
  refine (Less_any l b r d _).mono ?_
  rw [HPR.out]
  rintro e w9 ⟨rfl, hf⟩
  have a0 := cell_fr' hf a0 (fun h => h)
  have a1 := cell_fr' hf a1 (fun h => h)
  have b0 := cell_fr' hf b0 (fun h => h)
  have b1 := cell_fr' hf b1 (fun h => h)
  have c0 := cell_fr' hf c0 (fun h => h)
  have c1 := cell_fr' hf c1 (fun h => h)
  have HF9 := Lib.hid (HF8.out.trans hf)
  clear hf HF8
  go_wp2_with fail
  refine (Covers_any l b m c _).mono ?_
  rw [HCV.out]
  rintro e w10 ⟨rfl, hf⟩
  have a0 := cell_fr' hf a0 (fun h => h)
  have a1 := cell_fr' hf a1 (fun h => h)
  have b0 := cell_fr' hf b0 (fun h => h)
  have b1 := cell_fr' hf b1 (fun h => h)
  have c0 := cell_fr' hf c0 (fun h => h)
  have c1 := cell_fr' hf c1 (fun h => h)
  have HF10 := Lib.hid (HF9.out.trans hf)
  clear hf HF9
  go_wp2_with fail
  refine (Less_any l b m c _).mono ?_
  rw [HPQ.out]
  rintro e w11 ⟨rfl, hf⟩
  have a0 := cell_fr' hf a0 (fun h => h)
  have a1 := cell_fr' hf a1 (fun h => h)
  have b0 := cell_fr' hf b0 (fun h => h)
  have b1 := cell_fr' hf b1 (fun h => h)
  have c0 := cell_fr' hf c0 (fun h => h)
  have c1 := cell_fr' hf c1 (fun h => h)
  have HF11 := Lib.hid (HF10.out.trans hf)
  clear hf HF10
  go_wp2
  go_ret
  exact ⟨rfl, HF11.out⟩
set_option maxRecDepth 100000 in
set_option maxHeartbeats 4000000 in
theorem Order_pq_t_t_n2 (l b m c r d : Int) (w : World) (hT : Tab w) (hp0 : decide (Tb.ok ⟨l, b⟩) = true) (hp1 : decide (Tb.ok ⟨m, c⟩) = true) (hp2 : decide (Tb.ok ⟨r, d⟩) = true) (hpq : decide (Tb.less ⟨l, b⟩ ⟨m, c⟩) = true) (hqp : decide (Tb.less ⟨m, c⟩ ⟨l, b⟩) = false) (hqr : decide (Tb.less ⟨m, c⟩ ⟨r, d⟩) = true) (hpr : decide (Tb.less ⟨l, b⟩ ⟨r, d⟩) = true) (hcv : decide (Tb.covers ⟨l, b⟩ ⟨m, c⟩) = true) (heq : l = m ∧ ¬ b = c) : Calls Tryd.prog 4 #[.agg #[.int .i64 l, .int .i64 b], .agg #[.int .i64 m, .int .i64 c], .agg #[.int .i64 r, .int .i64 d]] w (BoolFr true w) := by
  have HT := Lib.hid hT; clear hT; have HP0 := Lib.hid hp0; clear hp0; have HP1 := Lib.hid hp1; clear hp1; have HP2 := Lib.hid hp2; clear hp2; have HPQ := Lib.hid hpq; clear hpq; have HQP := Lib.hid hqp; clear hqp; have HQR := Lib.hid hqr; clear hqr; have HPR := Lib.hid hpr; clear hpr; have HCV := Lib.hid hcv; clear hcv
  obtain ⟨rfl, heq⟩ := heq
  go_enter Tryd.func4, Tryd.ntmps4
  go_upto_region 1 with fail
  refine wp_name fun w0 hw0 => ?_
  have hF : Fr NoB w w0 := by rw [hw0]; (repeat (first | exact Fr.refl _ _ | refine Fr.alloc ?_ _ | refine Fr.setNew ?_ (by omega) _ _ | refine Fr.drewN ?_ _ | refine Fr.drew ?_))
  have a0 : w0.cell? ⟨w.heap.size, 0, none⟩ = some (.int .i64 l) := by rw [hw0]; exact up_cell _ (up_cell _ (box0 w _ _ _))
  have a1 : w0.cell? ⟨w.heap.size, 1, none⟩ = some (.int .i64 b) := by rw [hw0]; exact up_cell _ (up_cell _ (box1 w _ _ _))
  have b0 : w0.cell? ⟨w.heap.size + 1, 0, none⟩ = some (.int .i64 l) := by rw [hw0]; exact up_cell _ (box_at0 _ _ (by simp) _ _ _)
  have b1 : w0.cell? ⟨w.heap.size + 1, 1, none⟩ = some (.int .i64 c) := by rw [hw0]; exact up_cell _ (box_at1 _ _ (by simp) _ _ _)
  have c0 : w0.cell? ⟨w.heap.size + 1 + 1, 0, none⟩ = some (.int .i64 r) := by rw [hw0]; exact box_at0 _ _ (by simp) _ _ _
  have c1 : w0.cell? ⟨w.heap.size + 1 + 1, 1, none⟩ = some (.int .i64 d) := by rw [hw0]; exact box_at1 _ _ (by simp) _ _ _
  clear hw0
  have HF0 := Lib.hid hF
  clear hF
  go_wp2_with fail
  refine (begun_any _ (HT.out.keep HF0.out)).mono ?_
  rintro e w1 ⟨rfl, hf⟩
  have a0 := cell_fr' hf a0 (fun h => h)
  have a1 := cell_fr' hf a1 (fun h => h)
  have b0 := cell_fr' hf b0 (fun h => h)
  have b1 := cell_fr' hf b1 (fun h => h)
  have c0 := cell_fr' hf c0 (fun h => h)
  have c1 := cell_fr' hf c1 (fun h => h)
  have HF1 := Lib.hid (HF0.out.trans hf)
  clear hf HF0
  go_wp2_with fail
  refine (Check_any l b _).mono ?_
  rw [HP0.out]
  rintro e w2 ⟨rfl, hf⟩
  have a0 := cell_fr' hf a0 (fun h => h)
  have a1 := cell_fr' hf a1 (fun h => h)
  have b0 := cell_fr' hf b0 (fun h => h)
  have b1 := cell_fr' hf b1 (fun h => h)
  have c0 := cell_fr' hf c0 (fun h => h)
  have c1 := cell_fr' hf c1 (fun h => h)
  have HF2 := Lib.hid (HF1.out.trans hf)
  clear hf HF1
  go_wp2_with fail
  refine (Check_any l c _).mono ?_
  rw [HP1.out]
  rintro e w3 ⟨rfl, hf⟩
  have a0 := cell_fr' hf a0 (fun h => h)
  have a1 := cell_fr' hf a1 (fun h => h)
  have b0 := cell_fr' hf b0 (fun h => h)
  have b1 := cell_fr' hf b1 (fun h => h)
  have c0 := cell_fr' hf c0 (fun h => h)
  have c1 := cell_fr' hf c1 (fun h => h)
  have HF3 := Lib.hid (HF2.out.trans hf)
  clear hf HF2
  go_wp2_with fail
  refine (Check_any r d _).mono ?_
  rw [HP2.out]
  rintro e w4 ⟨rfl, hf⟩
  have a0 := cell_fr' hf a0 (fun h => h)
  have a1 := cell_fr' hf a1 (fun h => h)
  have b0 := cell_fr' hf b0 (fun h => h)
  have b1 := cell_fr' hf b1 (fun h => h)
  have c0 := cell_fr' hf c0 (fun h => h)
  have c1 := cell_fr' hf c1 (fun h => h)
  have HF4 := Lib.hid (HF3.out.trans hf)
  clear hf HF3
  go_wp2_with fail
  refine (Less_any l b l c _).mono ?_
  rw [HPQ.out]
  rintro e w5 ⟨rfl, hf⟩
  have a0 := cell_fr' hf a0 (fun h => h)
  have a1 := cell_fr' hf a1 (fun h => h)
  have b0 := cell_fr' hf b0 (fun h => h)
  have b1 := cell_fr' hf b1 (fun h => h)
  have c0 := cell_fr' hf c0 (fun h => h)
  have c1 := cell_fr' hf c1 (fun h => h)
  have HF5 := Lib.hid (HF4.out.trans hf)
  clear hf HF4
  go_wp2_with fail
  refine (Less_any l c l b _).mono ?_
  rw [HQP.out]
  rintro e w6 ⟨rfl, hf⟩
  have a0 := cell_fr' hf a0 (fun h => h)
  have a1 := cell_fr' hf a1 (fun h => h)
  have b0 := cell_fr' hf b0 (fun h => h)
  have b1 := cell_fr' hf b1 (fun h => h)
  have c0 := cell_fr' hf c0 (fun h => h)
  have c1 := cell_fr' hf c1 (fun h => h)
  have HF6 := Lib.hid (HF5.out.trans hf)
  clear hf HF5
  go_wp2_with fail
  refine (Less_any l b l c _).mono ?_
  rw [HPQ.out]
  rintro e w7 ⟨rfl, hf⟩
  have a0 := cell_fr' hf a0 (fun h => h)
  have a1 := cell_fr' hf a1 (fun h => h)
  have b0 := cell_fr' hf b0 (fun h => h)
  have b1 := cell_fr' hf b1 (fun h => h)
  have c0 := cell_fr' hf c0 (fun h => h)
  have c1 := cell_fr' hf c1 (fun h => h)
  have HF7 := Lib.hid (HF6.out.trans hf)
  clear hf HF6
  go_wp2_with fail
  refine (Less_any l c r d _).mono ?_
  rw [HQR.out]
  rintro e w8 ⟨rfl, hf⟩
  have a0 := cell_fr' hf a0 (fun h => h)
  have a1 := cell_fr' hf a1 (fun h => h)
  have b0 := cell_fr' hf b0 (fun h => h)
  have b1 := cell_fr' hf b1 (fun h => h)
  have c0 := cell_fr' hf c0 (fun h => h)
  have c1 := cell_fr' hf c1 (fun h => h)
  have HF8 := Lib.hid (HF7.out.trans hf)
  clear hf HF7
  go_wp2_with fail
  refine (Less_any l b r d _).mono ?_
  rw [HPR.out]
  rintro e w9 ⟨rfl, hf⟩
  have a0 := cell_fr' hf a0 (fun h => h)
  have a1 := cell_fr' hf a1 (fun h => h)
  have b0 := cell_fr' hf b0 (fun h => h)
  have b1 := cell_fr' hf b1 (fun h => h)
  have c0 := cell_fr' hf c0 (fun h => h)
  have c1 := cell_fr' hf c1 (fun h => h)
  have HF9 := Lib.hid (HF8.out.trans hf)
  clear hf HF8
  go_wp2_with fail
  refine (Covers_any l b l c _).mono ?_
  rw [HCV.out]
  rintro e w10 ⟨rfl, hf⟩
  have a0 := cell_fr' hf a0 (fun h => h)
  have a1 := cell_fr' hf a1 (fun h => h)
  have b0 := cell_fr' hf b0 (fun h => h)
  have b1 := cell_fr' hf b1 (fun h => h)
  have c0 := cell_fr' hf c0 (fun h => h)
  have c1 := cell_fr' hf c1 (fun h => h)
  have HF10 := Lib.hid (HF9.out.trans hf)
  clear hf HF9
  go_wp2_with fail
  refine (Less_any l b l c _).mono ?_
  rw [HPQ.out]
  rintro e w11 ⟨rfl, hf⟩
  have a0 := cell_fr' hf a0 (fun h => h)
  have a1 := cell_fr' hf a1 (fun h => h)
  have b0 := cell_fr' hf b0 (fun h => h)
  have b1 := cell_fr' hf b1 (fun h => h)
  have c0 := cell_fr' hf c0 (fun h => h)
  have c1 := cell_fr' hf c1 (fun h => h)
  have HF11 := Lib.hid (HF10.out.trans hf)
  clear hf HF10
  go_wp2
  go_ret
  exact ⟨rfl, HF11.out⟩
set_option maxRecDepth 100000 in
set_option maxHeartbeats 4000000 in
theorem Order_pq_f_t_n1 (l b m c r d : Int) (w : World) (hT : Tab w) (hp0 : decide (Tb.ok ⟨l, b⟩) = true) (hp1 : decide (Tb.ok ⟨m, c⟩) = true) (hp2 : decide (Tb.ok ⟨r, d⟩) = true) (hpq : decide (Tb.less ⟨l, b⟩ ⟨m, c⟩) = true) (hqp : decide (Tb.less ⟨m, c⟩ ⟨l, b⟩) = false) (hqr : decide (Tb.less ⟨m, c⟩ ⟨r, d⟩) = false) (hcv : decide (Tb.covers ⟨l, b⟩ ⟨m, c⟩) = true) (heq : ¬ l = m) : Calls Tryd.prog 4 #[.agg #[.int .i64 l, .int .i64 b], .agg #[.int .i64 m, .int .i64 c], .agg #[.int .i64 r, .int .i64 d]] w (BoolFr true w) := by
  have HT := Lib.hid hT; clear hT; have HP0 := Lib.hid hp0; clear hp0; have HP1 := Lib.hid hp1; clear hp1; have HP2 := Lib.hid hp2; clear hp2; have HPQ := Lib.hid hpq; clear hpq; have HQP := Lib.hid hqp; clear hqp; have HQR := Lib.hid hqr; clear hqr; have HCV := Lib.hid hcv; clear hcv
  go_enter Tryd.func4, Tryd.ntmps4
  go_upto_region 1 with fail
  refine wp_name fun w0 hw0 => ?_
  have hF : Fr NoB w w0 := by rw [hw0]; (repeat (first | exact Fr.refl _ _ | refine Fr.alloc ?_ _ | refine Fr.setNew ?_ (by omega) _ _ | refine Fr.drewN ?_ _ | refine Fr.drew ?_))
  have a0 : w0.cell? ⟨w.heap.size, 0, none⟩ = some (.int .i64 l) := by rw [hw0]; exact up_cell _ (up_cell _ (box0 w _ _ _))
  have a1 : w0.cell? ⟨w.heap.size, 1, none⟩ = some (.int .i64 b) := by rw [hw0]; exact up_cell _ (up_cell _ (box1 w _ _ _))
  have b0 : w0.cell? ⟨w.heap.size + 1, 0, none⟩ = some (.int .i64 m) := by rw [hw0]; exact up_cell _ (box_at0 _ _ (by simp) _ _ _)
  have b1 : w0.cell? ⟨w.heap.size + 1, 1, none⟩ = some (.int .i64 c) := by rw [hw0]; exact up_cell _ (box_at1 _ _ (by simp) _ _ _)
  have c0 : w0.cell? ⟨w.heap.size + 1 + 1, 0, none⟩ = some (.int .i64 r) := by rw [hw0]; exact box_at0 _ _ (by simp) _ _ _
  have c1 : w0.cell? ⟨w.heap.size + 1 + 1, 1, none⟩ = some (.int .i64 d) := by rw [hw0]; exact box_at1 _ _ (by simp) _ _ _
  clear hw0
  have HF0 := Lib.hid hF
  clear hF
  go_wp2_with fail
  refine (begun_any _ (HT.out.keep HF0.out)).mono ?_
  rintro e w1 ⟨rfl, hf⟩
  have a0 := cell_fr' hf a0 (fun h => h)
  have a1 := cell_fr' hf a1 (fun h => h)
  have b0 := cell_fr' hf b0 (fun h => h)
  have b1 := cell_fr' hf b1 (fun h => h)
  have c0 := cell_fr' hf c0 (fun h => h)
  have c1 := cell_fr' hf c1 (fun h => h)
  have HF1 := Lib.hid (HF0.out.trans hf)
  clear hf HF0
  go_wp2_with fail
  refine (Check_any l b _).mono ?_
  rw [HP0.out]
  rintro e w2 ⟨rfl, hf⟩
  have a0 := cell_fr' hf a0 (fun h => h)
  have a1 := cell_fr' hf a1 (fun h => h)
  have b0 := cell_fr' hf b0 (fun h => h)
  have b1 := cell_fr' hf b1 (fun h => h)
  have c0 := cell_fr' hf c0 (fun h => h)
  have c1 := cell_fr' hf c1 (fun h => h)
  have HF2 := Lib.hid (HF1.out.trans hf)
  clear hf HF1
  go_wp2_with fail
  refine (Check_any m c _).mono ?_
  rw [HP1.out]
  rintro e w3 ⟨rfl, hf⟩
  have a0 := cell_fr' hf a0 (fun h => h)
  have a1 := cell_fr' hf a1 (fun h => h)
  have b0 := cell_fr' hf b0 (fun h => h)
  have b1 := cell_fr' hf b1 (fun h => h)
  have c0 := cell_fr' hf c0 (fun h => h)
  have c1 := cell_fr' hf c1 (fun h => h)
  have HF3 := Lib.hid (HF2.out.trans hf)
  clear hf HF2
  go_wp2_with fail
  refine (Check_any r d _).mono ?_
  rw [HP2.out]
  rintro e w4 ⟨rfl, hf⟩
  have a0 := cell_fr' hf a0 (fun h => h)
  have a1 := cell_fr' hf a1 (fun h => h)
  have b0 := cell_fr' hf b0 (fun h => h)
  have b1 := cell_fr' hf b1 (fun h => h)
  have c0 := cell_fr' hf c0 (fun h => h)
  have c1 := cell_fr' hf c1 (fun h => h)
  have HF4 := Lib.hid (HF3.out.trans hf)
  clear hf HF3
  go_wp2_with fail
  refine (Less_any l b m c _).mono ?_
  rw [HPQ.out]
  rintro e w5 ⟨rfl, hf⟩
  have a0 := cell_fr' hf a0 (fun h => h)
  have a1 := cell_fr' hf a1 (fun h => h)
  have b0 := cell_fr' hf b0 (fun h => h)
  have b1 := cell_fr' hf b1 (fun h => h)
  have c0 := cell_fr' hf c0 (fun h => h)
  have c1 := cell_fr' hf c1 (fun h => h)
  have HF5 := Lib.hid (HF4.out.trans hf)
  clear hf HF4
  go_wp2_with fail
  refine (Less_any m c l b _).mono ?_
  rw [HQP.out]
  rintro e w6 ⟨rfl, hf⟩
  have a0 := cell_fr' hf a0 (fun h => h)
  have a1 := cell_fr' hf a1 (fun h => h)
  have b0 := cell_fr' hf b0 (fun h => h)
  have b1 := cell_fr' hf b1 (fun h => h)
  have c0 := cell_fr' hf c0 (fun h => h)
  have c1 := cell_fr' hf c1 (fun h => h)
  have HF6 := Lib.hid (HF5.out.trans hf)
  clear hf HF5
  go_wp2_with fail
  refine (Less_any l b m c _).mono ?_
  rw [HPQ.out]
  rintro e w7 ⟨rfl, hf⟩
  have a0 := cell_fr' hf a0 (fun h => h)
  have a1 := cell_fr' hf a1 (fun h => h)
  have b0 := cell_fr' hf b0 (fun h => h)
  have b1 := cell_fr' hf b1 (fun h => h)
  have c0 := cell_fr' hf c0 (fun h => h)
  have c1 := cell_fr' hf c1 (fun h => h)
  have HF7 := Lib.hid (HF6.out.trans hf)
  clear hf HF6
  go_wp2_with fail
  refine (Less_any m c r d _).mono ?_
  rw [HQR.out]
  rintro e w8 ⟨rfl, hf⟩
  have a0 := cell_fr' hf a0 (fun h => h)
  have a1 := cell_fr' hf a1 (fun h => h)
  have b0 := cell_fr' hf b0 (fun h => h)
  have b1 := cell_fr' hf b1 (fun h => h)
  have c0 := cell_fr' hf c0 (fun h => h)
  have c1 := cell_fr' hf c1 (fun h => h)
  have HF8 := Lib.hid (HF7.out.trans hf)
  clear hf HF7
  go_wp2_with fail
  refine (Covers_any l b m c _).mono ?_
  rw [HCV.out]
  rintro e w9 ⟨rfl, hf⟩
  have a0 := cell_fr' hf a0 (fun h => h)
  have a1 := cell_fr' hf a1 (fun h => h)
  have b0 := cell_fr' hf b0 (fun h => h)
  have b1 := cell_fr' hf b1 (fun h => h)
  have c0 := cell_fr' hf c0 (fun h => h)
  have c1 := cell_fr' hf c1 (fun h => h)
  have HF9 := Lib.hid (HF8.out.trans hf)
  clear hf HF8
  go_wp2_with fail
  refine (Less_any l b m c _).mono ?_
  rw [HPQ.out]
  rintro e w10 ⟨rfl, hf⟩
  have a0 := cell_fr' hf a0 (fun h => h)
  have a1 := cell_fr' hf a1 (fun h => h)
  have b0 := cell_fr' hf b0 (fun h => h)
  have b1 := cell_fr' hf b1 (fun h => h)
  have c0 := cell_fr' hf c0 (fun h => h)
  have c1 := cell_fr' hf c1 (fun h => h)
  have HF10 := Lib.hid (HF9.out.trans hf)
  clear hf HF9
  go_wp2
  go_ret
  exact ⟨rfl, HF10.out⟩
set_option maxRecDepth 100000 in
set_option maxHeartbeats 4000000 in
theorem Order_pq_f_t_n2 (l b m c r d : Int) (w : World) (hT : Tab w) (hp0 : decide (Tb.ok ⟨l, b⟩) = true) (hp1 : decide (Tb.ok ⟨m, c⟩) = true) (hp2 : decide (Tb.ok ⟨r, d⟩) = true) (hpq : decide (Tb.less ⟨l, b⟩ ⟨m, c⟩) = true) (hqp : decide (Tb.less ⟨m, c⟩ ⟨l, b⟩) = false) (hqr : decide (Tb.less ⟨m, c⟩ ⟨r, d⟩) = false) (hcv : decide (Tb.covers ⟨l, b⟩ ⟨m, c⟩) = true) (heq : l = m ∧ ¬ b = c) : Calls Tryd.prog 4 #[.agg #[.int .i64 l, .int .i64 b], .agg #[.int .i64 m, .int .i64 c], .agg #[.int .i64 r, .int .i64 d]] w (BoolFr true w) := by
  have HT := Lib.hid hT; clear hT; have HP0 := Lib.hid hp0; clear hp0; have HP1 := Lib.hid hp1; clear hp1; have HP2 := Lib.hid hp2; clear hp2; have HPQ := Lib.hid hpq; clear hpq; have HQP := Lib.hid hqp; clear hqp; have HQR := Lib.hid hqr; clear hqr; have HCV := Lib.hid hcv; clear hcv
  obtain ⟨rfl, heq⟩ := heq
  go_enter Tryd.func4, Tryd.ntmps4
  go_upto_region 1 with fail
  refine wp_name fun w0 hw0 => ?_
  have hF : Fr NoB w w0 := by rw [hw0]; (repeat (first | exact Fr.refl _ _ | refine Fr.alloc ?_ _ | refine Fr.setNew ?_ (by omega) _ _ | refine Fr.drewN ?_ _ | refine Fr.drew ?_))
  have a0 : w0.cell? ⟨w.heap.size, 0, none⟩ = some (.int .i64 l) := by rw [hw0]; exact up_cell _ (up_cell _ (box0 w _ _ _))
  have a1 : w0.cell? ⟨w.heap.size, 1, none⟩ = some (.int .i64 b) := by rw [hw0]; exact up_cell _ (up_cell _ (box1 w _ _ _))
  have b0 : w0.cell? ⟨w.heap.size + 1, 0, none⟩ = some (.int .i64 l) := by rw [hw0]; exact up_cell _ (box_at0 _ _ (by simp) _ _ _)
  have b1 : w0.cell? ⟨w.heap.size + 1, 1, none⟩ = some (.int .i64 c) := by rw [hw0]; exact up_cell _ (box_at1 _ _ (by simp) _ _ _)
  have c0 : w0.cell? ⟨w.heap.size + 1 + 1, 0, none⟩ = some (.int .i64 r) := by rw [hw0]; exact box_at0 _ _ (by simp) _ _ _
  have c1 : w0.cell? ⟨w.heap.size + 1 + 1, 1, none⟩ = some (.int .i64 d) := by rw [hw0]; exact box_at1 _ _ (by simp) _ _ _
  clear hw0
  have HF0 := Lib.hid hF
  clear hF
  go_wp2_with fail
  refine (begun_any _ (HT.out.keep HF0.out)).mono ?_
  rintro e w1 ⟨rfl, hf⟩
  have a0 := cell_fr' hf a0 (fun h => h)
  have a1 := cell_fr' hf a1 (fun h => h)
  have b0 := cell_fr' hf b0 (fun h => h)
  have b1 := cell_fr' hf b1 (fun h => h)
  have c0 := cell_fr' hf c0 (fun h => h)
  have c1 := cell_fr' hf c1 (fun h => h)
  have HF1 := Lib.hid (HF0.out.trans hf)
  clear hf HF0
  go_wp2_with fail
  refine (Check_any l b _).mono ?_
  rw [HP0.out]
  rintro e w2 ⟨rfl, hf⟩
  have a0 := cell_fr' hf a0 (fun h => h)
  have a1 := cell_fr' hf a1 (fun h => h)
  have b0 := cell_fr' hf b0 (fun h => h)
  have b1 := cell_fr' hf b1 (fun h => h)
  have c0 := cell_fr' hf c0 (fun h => h)
  have c1 := cell_fr' hf c1 (fun h => h)
  have HF2 := Lib.hid (HF1.out.trans hf)
  clear hf HF1
  go_wp2_with fail
  refine (Check_any l c _).mono ?_
  rw [HP1.out]
  rintro e w3 ⟨rfl, hf⟩
  have a0 := cell_fr' hf a0 (fun h => h)
  have a1 := cell_fr' hf a1 (fun h => h)
  have b0 := cell_fr' hf b0 (fun h => h)
  have b1 := cell_fr' hf b1 (fun h => h)
  have c0 := cell_fr' hf c0 (fun h => h)
  have c1 := cell_fr' hf c1 (fun h => h)
  have HF3 := Lib.hid (HF2.out.trans hf)
  clear hf HF2
  go_wp2_with fail
  refine (Check_any r d _).mono ?_
  rw [HP2.out]
  rintro e w4 ⟨rfl, hf⟩
  have a0 := cell_fr' hf a0 (fun h => h)
  have a1 := cell_fr' hf a1 (fun h => h)
  have b0 := cell_fr' hf b0 (fun h => h)
  have b1 := cell_fr' hf b1 (fun h => h)
  have c0 := cell_fr' hf c0 (fun h => h)
  have c1 := cell_fr' hf c1 (fun h => h)
  have HF4 := Lib.hid (HF3.out.trans hf)
  clear hf HF3
  go_wp2_with fail
  refine (Less_any l b l c _).mono ?_
  rw [HPQ.out]
  rintro e w5 ⟨rfl, hf⟩
  have a0 := cell_fr' hf a0 (fun h => h)
  have a1 := cell_fr' hf a1 (fun h => h)
  have b0 := cell_fr' hf b0 (fun h => h)
  have b1 := cell_fr' hf b1 (fun h => h)
  have c0 := cell_fr' hf c0 (fun h => h)
  have c1 := cell_fr' hf c1 (fun h => h)
  have HF5 := Lib.hid (HF4.out.trans hf)
  clear hf HF4
  go_wp2_with fail
  refine (Less_any l c l b _).mono ?_
  rw [HQP.out]
  rintro e w6 ⟨rfl, hf⟩
  have a0 := cell_fr' hf a0 (fun h => h)
  have a1 := cell_fr' hf a1 (fun h => h)
  have b0 := cell_fr' hf b0 (fun h => h)
  have b1 := cell_fr' hf b1 (fun h => h)
  have c0 := cell_fr' hf c0 (fun h => h)
  have c1 := cell_fr' hf c1 (fun h => h)
  have HF6 := Lib.hid (HF5.out.trans hf)
  clear hf HF5
  go_wp2_with fail
  refine (Less_any l b l c _).mono ?_
  rw [HPQ.out]
  rintro e w7 ⟨rfl, hf⟩
  have a0 := cell_fr' hf a0 (fun h => h)
  have a1 := cell_fr' hf a1 (fun h => h)
  have b0 := cell_fr' hf b0 (fun h => h)
  have b1 := cell_fr' hf b1 (fun h => h)
  have c0 := cell_fr' hf c0 (fun h => h)
  have c1 := cell_fr' hf c1 (fun h => h)
  have HF7 := Lib.hid (HF6.out.trans hf)
  clear hf HF6
  go_wp2_with fail
  refine (Less_any l c r d _).mono ?_
  rw [HQR.out]
  rintro e w8 ⟨rfl, hf⟩
  have a0 := cell_fr' hf a0 (fun h => h)
  have a1 := cell_fr' hf a1 (fun h => h)
  have b0 := cell_fr' hf b0 (fun h => h)
  have b1 := cell_fr' hf b1 (fun h => h)
  have c0 := cell_fr' hf c0 (fun h => h)
  have c1 := cell_fr' hf c1 (fun h => h)
  have HF8 := Lib.hid (HF7.out.trans hf)
  clear hf HF7
  go_wp2_with fail
  refine (Covers_any l b l c _).mono ?_
  rw [HCV.out]
  rintro e w9 ⟨rfl, hf⟩
  have a0 := cell_fr' hf a0 (fun h => h)
  have a1 := cell_fr' hf a1 (fun h => h)
  have b0 := cell_fr' hf b0 (fun h => h)
  have b1 := cell_fr' hf b1 (fun h => h)
  have c0 := cell_fr' hf c0 (fun h => h)
  have c1 := cell_fr' hf c1 (fun h => h)
  have HF9 := Lib.hid (HF8.out.trans hf)
  clear hf HF8
  go_wp2_with fail
  refine (Less_any l b l c _).mono ?_
  rw [HPQ.out]
  rintro e w10 ⟨rfl, hf⟩
  have a0 := cell_fr' hf a0 (fun h => h)
  have a1 := cell_fr' hf a1 (fun h => h)
  have b0 := cell_fr' hf b0 (fun h => h)
  have b1 := cell_fr' hf b1 (fun h => h)
  have c0 := cell_fr' hf c0 (fun h => h)
  have c1 := cell_fr' hf c1 (fun h => h)
  have HF10 := Lib.hid (HF9.out.trans hf)
  clear hf HF9
  go_wp2
  go_ret
  exact ⟨rfl, HF10.out⟩
set_option maxRecDepth 100000 in
set_option maxHeartbeats 4000000 in
theorem Order_pq_t_f_n1 (l b m c r d : Int) (w : World) (hT : Tab w) (hp0 : decide (Tb.ok ⟨l, b⟩) = true) (hp1 : decide (Tb.ok ⟨m, c⟩) = true) (hp2 : decide (Tb.ok ⟨r, d⟩) = true) (hpq : decide (Tb.less ⟨l, b⟩ ⟨m, c⟩) = true) (hqp : decide (Tb.less ⟨m, c⟩ ⟨l, b⟩) = false) (hqr : decide (Tb.less ⟨m, c⟩ ⟨r, d⟩) = true) (hpr : decide (Tb.less ⟨l, b⟩ ⟨r, d⟩) = true) (hcv : decide (Tb.covers ⟨l, b⟩ ⟨m, c⟩) = false) (heq : ¬ l = m) : Calls Tryd.prog 4 #[.agg #[.int .i64 l, .int .i64 b], .agg #[.int .i64 m, .int .i64 c], .agg #[.int .i64 r, .int .i64 d]] w (BoolFr true w) := by
  have HT := Lib.hid hT; clear hT; have HP0 := Lib.hid hp0; clear hp0; have HP1 := Lib.hid hp1; clear hp1; have HP2 := Lib.hid hp2; clear hp2; have HPQ := Lib.hid hpq; clear hpq; have HQP := Lib.hid hqp; clear hqp; have HQR := Lib.hid hqr; clear hqr; have HPR := Lib.hid hpr; clear hpr; have HCV := Lib.hid hcv; clear hcv
  go_enter Tryd.func4, Tryd.ntmps4
  go_upto_region 1 with fail
  refine wp_name fun w0 hw0 => ?_
  have hF : Fr NoB w w0 := by rw [hw0]; (repeat (first | exact Fr.refl _ _ | refine Fr.alloc ?_ _ | refine Fr.setNew ?_ (by omega) _ _ | refine Fr.drewN ?_ _ | refine Fr.drew ?_))
  have a0 : w0.cell? ⟨w.heap.size, 0, none⟩ = some (.int .i64 l) := by rw [hw0]; exact up_cell _ (up_cell _ (box0 w _ _ _))
  have a1 : w0.cell? ⟨w.heap.size, 1, none⟩ = some (.int .i64 b) := by rw [hw0]; exact up_cell _ (up_cell _ (box1 w _ _ _))
  have b0 : w0.cell? ⟨w.heap.size + 1, 0, none⟩ = some (.int .i64 m) := by rw [hw0]; exact up_cell _ (box_at0 _ _ (by simp) _ _ _)
  have b1 : w0.cell? ⟨w.heap.size + 1, 1, none⟩ = some (.int .i64 c) := by rw [hw0]; exact up_cell _ (box_at1 _ _ (by simp) _ _ _)
  have c0 : w0.cell? ⟨w.heap.size + 1 + 1, 0, none⟩ = some (.int .i64 r) := by rw [hw0]; exact box_at0 _ _ (by simp) _ _ _
  have c1 : w0.cell? ⟨w.heap.size + 1 + 1, 1, none⟩ = some (.int .i64 d) := by rw [hw0]; exact box_at1 _ _ (by simp) _ _ _
  clear hw0
  have HF0 := Lib.hid hF
  clear hF
  go_wp2_with fail
  refine (begun_any _ (HT.out.keep HF0.out)).mono ?_
  rintro e w1 ⟨rfl, hf⟩
  have a0 := cell_fr' hf a0 (fun h => h)
  have a1 := cell_fr' hf a1 (fun h => h)
  have b0 := cell_fr' hf b0 (fun h => h)
  have b1 := cell_fr' hf b1 (fun h => h)
  have c0 := cell_fr' hf c0 (fun h => h)
  have c1 := cell_fr' hf c1 (fun h => h)
  have HF1 := Lib.hid (HF0.out.trans hf)
  clear hf HF0
  go_wp2_with fail
  refine (Check_any l b _).mono ?_
  rw [HP0.out]
  rintro e w2 ⟨rfl, hf⟩
  have a0 := cell_fr' hf a0 (fun h => h)
  have a1 := cell_fr' hf a1 (fun h => h)
  have b0 := cell_fr' hf b0 (fun h => h)
  have b1 := cell_fr' hf b1 (fun h => h)
  have c0 := cell_fr' hf c0 (fun h => h)
  have c1 := cell_fr' hf c1 (fun h => h)
  have HF2 := Lib.hid (HF1.out.trans hf)
  clear hf HF1
  go_wp2_with fail
  refine (Check_any m c _).mono ?_
  rw [HP1.out]
  rintro e w3 ⟨rfl, hf⟩
  have a0 := cell_fr' hf a0 (fun h => h)
  have a1 := cell_fr' hf a1 (fun h => h)
  have b0 := cell_fr' hf b0 (fun h => h)
  have b1 := cell_fr' hf b1 (fun h => h)
  have c0 := cell_fr' hf c0 (fun h => h)
  have c1 := cell_fr' hf c1 (fun h => h)
  have HF3 := Lib.hid (HF2.out.trans hf)
  clear hf HF2
  go_wp2_with fail
  refine (Check_any r d _).mono ?_
  rw [HP2.out]
  rintro e w4 ⟨rfl, hf⟩
  have a0 := cell_fr' hf a0 (fun h => h)
  have a1 := cell_fr' hf a1 (fun h => h)
  have b0 := cell_fr' hf b0 (fun h => h)
  have b1 := cell_fr' hf b1 (fun h => h)
  have c0 := cell_fr' hf c0 (fun h => h)
  have c1 := cell_fr' hf c1 (fun h => h)
  have HF4 := Lib.hid (HF3.out.trans hf)
  clear hf HF3
  go_wp2_with fail
  refine (Less_any l b m c _).mono ?_
  rw [HPQ.out]
  rintro e w5 ⟨rfl, hf⟩
  have a0 := cell_fr' hf a0 (fun h => h)
  have a1 := cell_fr' hf a1 (fun h => h)
  have b0 := cell_fr' hf b0 (fun h => h)
  have b1 := cell_fr' hf b1 (fun h => h)
  have c0 := cell_fr' hf c0 (fun h => h)
  have c1 := cell_fr' hf c1 (fun h => h)
  have HF5 := Lib.hid (HF4.out.trans hf)
  clear hf HF4
  go_wp2_with fail
  refine (Less_any m c l b _).mono ?_
  rw [HQP.out]
  rintro e w6 ⟨rfl, hf⟩
  have a0 := cell_fr' hf a0 (fun h => h)
  have a1 := cell_fr' hf a1 (fun h => h)
  have b0 := cell_fr' hf b0 (fun h => h)
  have b1 := cell_fr' hf b1 (fun h => h)
  have c0 := cell_fr' hf c0 (fun h => h)
  have c1 := cell_fr' hf c1 (fun h => h)
  have HF6 := Lib.hid (HF5.out.trans hf)
  clear hf HF5
  go_wp2_with fail
  refine (Less_any l b m c _).mono ?_
  rw [HPQ.out]
  rintro e w7 ⟨rfl, hf⟩
  have a0 := cell_fr' hf a0 (fun h => h)
  have a1 := cell_fr' hf a1 (fun h => h)
  have b0 := cell_fr' hf b0 (fun h => h)
  have b1 := cell_fr' hf b1 (fun h => h)
  have c0 := cell_fr' hf c0 (fun h => h)
  have c1 := cell_fr' hf c1 (fun h => h)
  have HF7 := Lib.hid (HF6.out.trans hf)
  clear hf HF6
  go_wp2_with fail
  refine (Less_any m c r d _).mono ?_
  rw [HQR.out]
  rintro e w8 ⟨rfl, hf⟩
  have a0 := cell_fr' hf a0 (fun h => h)
  have a1 := cell_fr' hf a1 (fun h => h)
  have b0 := cell_fr' hf b0 (fun h => h)
  have b1 := cell_fr' hf b1 (fun h => h)
  have c0 := cell_fr' hf c0 (fun h => h)
  have c1 := cell_fr' hf c1 (fun h => h)
  have HF8 := Lib.hid (HF7.out.trans hf)
  clear hf HF7
  go_wp2_with fail
  refine (Less_any l b r d _).mono ?_
  rw [HPR.out]
  rintro e w9 ⟨rfl, hf⟩
  have a0 := cell_fr' hf a0 (fun h => h)
  have a1 := cell_fr' hf a1 (fun h => h)
  have b0 := cell_fr' hf b0 (fun h => h)
  have b1 := cell_fr' hf b1 (fun h => h)
  have c0 := cell_fr' hf c0 (fun h => h)
  have c1 := cell_fr' hf c1 (fun h => h)
  have HF9 := Lib.hid (HF8.out.trans hf)
  clear hf HF8
  go_wp2_with fail
  refine (Covers_any l b m c _).mono ?_
  rw [HCV.out]
  rintro e w10 ⟨rfl, hf⟩
  have a0 := cell_fr' hf a0 (fun h => h)
  have a1 := cell_fr' hf a1 (fun h => h)
  have b0 := cell_fr' hf b0 (fun h => h)
  have b1 := cell_fr' hf b1 (fun h => h)
  have c0 := cell_fr' hf c0 (fun h => h)
  have c1 := cell_fr' hf c1 (fun h => h)
  have HF10 := Lib.hid (HF9.out.trans hf)
  clear hf HF9
  go_wp2
  go_ret
  exact ⟨rfl, HF10.out⟩
set_option maxRecDepth 100000 in
set_option maxHeartbeats 4000000 in
theorem Order_pq_t_f_n2 (l b m c r d : Int) (w : World) (hT : Tab w) (hp0 : decide (Tb.ok ⟨l, b⟩) = true) (hp1 : decide (Tb.ok ⟨m, c⟩) = true) (hp2 : decide (Tb.ok ⟨r, d⟩) = true) (hpq : decide (Tb.less ⟨l, b⟩ ⟨m, c⟩) = true) (hqp : decide (Tb.less ⟨m, c⟩ ⟨l, b⟩) = false) (hqr : decide (Tb.less ⟨m, c⟩ ⟨r, d⟩) = true) (hpr : decide (Tb.less ⟨l, b⟩ ⟨r, d⟩) = true) (hcv : decide (Tb.covers ⟨l, b⟩ ⟨m, c⟩) = false) (heq : l = m ∧ ¬ b = c) : Calls Tryd.prog 4 #[.agg #[.int .i64 l, .int .i64 b], .agg #[.int .i64 m, .int .i64 c], .agg #[.int .i64 r, .int .i64 d]] w (BoolFr true w) := by
  have HT := Lib.hid hT; clear hT; have HP0 := Lib.hid hp0; clear hp0; have HP1 := Lib.hid hp1; clear hp1; have HP2 := Lib.hid hp2; clear hp2; have HPQ := Lib.hid hpq; clear hpq; have HQP := Lib.hid hqp; clear hqp; have HQR := Lib.hid hqr; clear hqr; have HPR := Lib.hid hpr; clear hpr; have HCV := Lib.hid hcv; clear hcv
  obtain ⟨rfl, heq⟩ := heq
  go_enter Tryd.func4, Tryd.ntmps4
  go_upto_region 1 with fail
  refine wp_name fun w0 hw0 => ?_
  have hF : Fr NoB w w0 := by rw [hw0]; (repeat (first | exact Fr.refl _ _ | refine Fr.alloc ?_ _ | refine Fr.setNew ?_ (by omega) _ _ | refine Fr.drewN ?_ _ | refine Fr.drew ?_))
  have a0 : w0.cell? ⟨w.heap.size, 0, none⟩ = some (.int .i64 l) := by rw [hw0]; exact up_cell _ (up_cell _ (box0 w _ _ _))
  have a1 : w0.cell? ⟨w.heap.size, 1, none⟩ = some (.int .i64 b) := by rw [hw0]; exact up_cell _ (up_cell _ (box1 w _ _ _))
  have b0 : w0.cell? ⟨w.heap.size + 1, 0, none⟩ = some (.int .i64 l) := by rw [hw0]; exact up_cell _ (box_at0 _ _ (by simp) _ _ _)
  have b1 : w0.cell? ⟨w.heap.size + 1, 1, none⟩ = some (.int .i64 c) := by rw [hw0]; exact up_cell _ (box_at1 _ _ (by simp) _ _ _)
  have c0 : w0.cell? ⟨w.heap.size + 1 + 1, 0, none⟩ = some (.int .i64 r) := by rw [hw0]; exact box_at0 _ _ (by simp) _ _ _
  have c1 : w0.cell? ⟨w.heap.size + 1 + 1, 1, none⟩ = some (.int .i64 d) := by rw [hw0]; exact box_at1 _ _ (by simp) _ _ _
  clear hw0
  have HF0 := Lib.hid hF
  clear hF
  go_wp2_with fail
  refine (begun_any _ (HT.out.keep HF0.out)).mono ?_
  rintro e w1 ⟨rfl, hf⟩
  have a0 := cell_fr' hf a0 (fun h => h)
  have a1 := cell_fr' hf a1 (fun h => h)
  have b0 := cell_fr' hf b0 (fun h => h)
  have b1 := cell_fr' hf b1 (fun h => h)
  have c0 := cell_fr' hf c0 (fun h => h)
  have c1 := cell_fr' hf c1 (fun h => h)
  have HF1 := Lib.hid (HF0.out.trans hf)
  clear hf HF0
  go_wp2_with fail
  refine (Check_any l b _).mono ?_
  rw [HP0.out]
  rintro e w2 ⟨rfl, hf⟩
  have a0 := cell_fr' hf a0 (fun h => h)
  have a1 := cell_fr' hf a1 (fun h => h)
  have b0 := cell_fr' hf b0 (fun h => h)
  have b1 := cell_fr' hf b1 (fun h => h)
  have c0 := cell_fr' hf c0 (fun h => h)
  have c1 := cell_fr' hf c1 (fun h => h)
  have HF2 := Lib.hid (HF1.out.trans hf)
  clear hf HF1
  go_wp2_with fail
  refine (Check_any l c _).mono ?_
  rw [HP1.out]
  rintro e w3 ⟨rfl, hf⟩
  have a0 := cell_fr' hf a0 (fun h => h)
  have a1 := cell_fr' hf a1 (fun h => h)
  have b0 := cell_fr' hf b0 (fun h => h)
  have b1 := cell_fr' hf b1 (fun h => h)
  have c0 := cell_fr' hf c0 (fun h => h)
  have c1 := cell_fr' hf c1 (fun h => h)
  have HF3 := Lib.hid (HF2.out.trans hf)
  clear hf HF2
  go_wp2_with fail
  refine (Check_any r d _).mono ?_
  rw [HP2.out]
  rintro e w4 ⟨rfl, hf⟩
  have a0 := cell_fr' hf a0 (fun h => h)
  have a1 := cell_fr' hf a1 (fun h => h)
  have b0 := cell_fr' hf b0 (fun h => h)
  have b1 := cell_fr' hf b1 (fun h => h)
  have c0 := cell_fr' hf c0 (fun h => h)
  have c1 := cell_fr' hf c1 (fun h => h)
  have HF4 := Lib.hid (HF3.out.trans hf)
  clear hf HF3
  go_wp2_with fail
  refine (Less_any l b l c _).mono ?_
  rw [HPQ.out]
  rintro e w5 ⟨rfl, hf⟩
  have a0 := cell_fr' hf a0 (fun h => h)
  have a1 := cell_fr' hf a1 (fun h => h)
  have b0 := cell_fr' hf b0 (fun h => h)
  have b1 := cell_fr' hf b1 (fun h => h)
  have c0 := cell_fr' hf c0 (fun h => h)
  have c1 := cell_fr' hf c1 (fun h => h)
  have HF5 := Lib.hid (HF4.out.trans hf)
  clear hf HF4
  go_wp2_with fail
  refine (Less_any l c l b _).mono ?_
  rw [HQP.out]
  rintro e w6 ⟨rfl, hf⟩
  have a0 := cell_fr' hf a0 (fun h => h)
  have a1 := cell_fr' hf a1 (fun h => h)
  have b0 := cell_fr' hf b0 (fun h => h)
  have b1 := cell_fr' hf b1 (fun h => h)
  have c0 := cell_fr' hf c0 (fun h => h)
  have c1 := cell_fr' hf c1 (fun h => h)
  have HF6 := Lib.hid (HF5.out.trans hf)
  clear hf HF5
  go_wp2_with fail
  refine (Less_any l b l c _).mono ?_
  rw [HPQ.out]
  rintro e w7 ⟨rfl, hf⟩
  have a0 := cell_fr' hf a0 (fun h => h)
  have a1 := cell_fr' hf a1 (fun h => h)
  have b0 := cell_fr' hf b0 (fun h => h)
  have b1 := cell_fr' hf b1 (fun h => h)
  have c0 := cell_fr' hf c0 (fun h => h)
  have c1 := cell_fr' hf c1 (fun h => h)
  have HF7 := Lib.hid (HF6.out.trans hf)
  clear hf HF6
  go_wp2_with fail
  refine (Less_any l c r d _).mono ?_
  rw [HQR.out]
  rintro e w8 ⟨rfl, hf⟩
  have a0 := cell_fr' hf a0 (fun h => h)
  have a1 := cell_fr' hf a1 (fun h => h)
  have b0 := cell_fr' hf b0 (fun h => h)
  have b1 := cell_fr' hf b1 (fun h => h)
  have c0 := cell_fr' hf c0 (fun h => h)
  have c1 := cell_fr' hf c1 (fun h => h)
  have HF8 := Lib.hid (HF7.out.trans hf)
  clear hf HF7
  go_wp2_with fail
  refine (Less_any l b r d _).mono ?_
  rw [HPR.out]
  rintro e w9 ⟨rfl, hf⟩
  have a0 := cell_fr' hf a0 (fun h => h)
  have a1 := cell_fr' hf a1 (fun h => h)
  have b0 := cell_fr' hf b0 (fun h => h)
  have b1 := cell_fr' hf b1 (fun h => h)
  have c0 := cell_fr' hf c0 (fun h => h)
  have c1 := cell_fr' hf c1 (fun h => h)
  have HF9 := Lib.hid (HF8.out.trans hf)
  clear hf HF8
  go_wp2_with fail
  refine (Covers_any l b l c _).mono ?_
  rw [HCV.out]
  rintro e w10 ⟨rfl, hf⟩
  have a0 := cell_fr' hf a0 (fun h => h)
  have a1 := cell_fr' hf a1 (fun h => h)
  have b0 := cell_fr' hf b0 (fun h => h)
  have b1 := cell_fr' hf b1 (fun h => h)
  have c0 := cell_fr' hf c0 (fun h => h)
  have c1 := cell_fr' hf c1 (fun h => h)
  have HF10 := Lib.hid (HF9.out.trans hf)
  clear hf HF9
  go_wp2
  go_ret
  exact ⟨rfl, HF10.out⟩
set_option maxRecDepth 100000 in
set_option maxHeartbeats 4000000 in
theorem Order_pq_f_f_n1 (l b m c r d : Int) (w : World) (hT : Tab w) (hp0 : decide (Tb.ok ⟨l, b⟩) = true) (hp1 : decide (Tb.ok ⟨m, c⟩) = true) (hp2 : decide (Tb.ok ⟨r, d⟩) = true) (hpq : decide (Tb.less ⟨l, b⟩ ⟨m, c⟩) = true) (hqp : decide (Tb.less ⟨m, c⟩ ⟨l, b⟩) = false) (hqr : decide (Tb.less ⟨m, c⟩ ⟨r, d⟩) = false) (hcv : decide (Tb.covers ⟨l, b⟩ ⟨m, c⟩) = false) (heq : ¬ l = m) : Calls Tryd.prog 4 #[.agg #[.int .i64 l, .int .i64 b], .agg #[.int .i64 m, .int .i64 c], .agg #[.int .i64 r, .int .i64 d]] w (BoolFr true w) := by
  have HT := Lib.hid hT; clear hT; have HP0 := Lib.hid hp0; clear hp0; have HP1 := Lib.hid hp1; clear hp1; have HP2 := Lib.hid hp2; clear hp2; have HPQ := Lib.hid hpq; clear hpq; have HQP := Lib.hid hqp; clear hqp; have HQR := Lib.hid hqr; clear hqr; have HCV := Lib.hid hcv; clear hcv
  go_enter Tryd.func4, Tryd.ntmps4
  go_upto_region 1 with fail
  refine wp_name fun w0 hw0 => ?_
  have hF : Fr NoB w w0 := by rw [hw0]; (repeat (first | exact Fr.refl _ _ | refine Fr.alloc ?_ _ | refine Fr.setNew ?_ (by omega) _ _ | refine Fr.drewN ?_ _ | refine Fr.drew ?_))
  have a0 : w0.cell? ⟨w.heap.size, 0, none⟩ = some (.int .i64 l) := by rw [hw0]; exact up_cell _ (up_cell _ (box0 w _ _ _))
  have a1 : w0.cell? ⟨w.heap.size, 1, none⟩ = some (.int .i64 b) := by rw [hw0]; exact up_cell _ (up_cell _ (box1 w _ _ _))
  have b0 : w0.cell? ⟨w.heap.size + 1, 0, none⟩ = some (.int .i64 m) := by rw [hw0]; exact up_cell _ (box_at0 _ _ (by simp) _ _ _)
  have b1 : w0.cell? ⟨w.heap.size + 1, 1, none⟩ = some (.int .i64 c) := by rw [hw0]; exact up_cell _ (box_at1 _ _ (by simp) _ _ _)
  have c0 : w0.cell? ⟨w.heap.size + 1 + 1, 0, none⟩ = some (.int .i64 r) := by rw [hw0]; exact box_at0 _ _ (by simp) _ _ _
  have c1 : w0.cell? ⟨w.heap.size + 1 + 1, 1, none⟩ = some (.int .i64 d) := by rw [hw0]; exact box_at1 _ _ (by simp) _ _ _
  clear hw0
  have HF0 := Lib.hid hF
  clear hF
  go_wp2_with fail
  refine (begun_any _ (HT.out.keep HF0.out)).mono ?_
  rintro e w1 ⟨rfl, hf⟩
  have a0 := cell_fr' hf a0 (fun h => h)
  have a1 := cell_fr' hf a1 (fun h => h)
  have b0 := cell_fr' hf b0 (fun h => h)
  have b1 := cell_fr' hf b1 (fun h => h)
  have c0 := cell_fr' hf c0 (fun h => h)
  have c1 := cell_fr' hf c1 (fun h => h)
  have HF1 := Lib.hid (HF0.out.trans hf)
  clear hf HF0
  go_wp2_with fail
  refine (Check_any l b _).mono ?_
  rw [HP0.out]
  rintro e w2 ⟨rfl, hf⟩
  have a0 := cell_fr' hf a0 (fun h => h)
  have a1 := cell_fr' hf a1 (fun h => h)
  have b0 := cell_fr' hf b0 (fun h => h)
  have b1 := cell_fr' hf b1 (fun h => h)
  have c0 := cell_fr' hf c0 (fun h => h)
  have c1 := cell_fr' hf c1 (fun h => h)
  have HF2 := Lib.hid (HF1.out.trans hf)
  clear hf HF1
  go_wp2_with fail
  refine (Check_any m c _).mono ?_
  rw [HP1.out]
  rintro e w3 ⟨rfl, hf⟩
  have a0 := cell_fr' hf a0 (fun h => h)
  have a1 := cell_fr' hf a1 (fun h => h)
  have b0 := cell_fr' hf b0 (fun h => h)
  have b1 := cell_fr' hf b1 (fun h => h)
  have c0 := cell_fr' hf c0 (fun h => h)
  have c1 := cell_fr' hf c1 (fun h => h)
  have HF3 := Lib.hid (HF2.out.trans hf)
  clear hf HF2
  go_wp2_with fail
  refine (Check_any r d _).mono ?_
  rw [HP2.out]
  rintro e w4 ⟨rfl, hf⟩
  have a0 := cell_fr' hf a0 (fun h => h)
  have a1 := cell_fr' hf a1 (fun h => h)
  have b0 := cell_fr' hf b0 (fun h => h)
  have b1 := cell_fr' hf b1 (fun h => h)
  have c0 := cell_fr' hf c0 (fun h => h)
  have c1 := cell_fr' hf c1 (fun h => h)
  have HF4 := Lib.hid (HF3.out.trans hf)
  clear hf HF3
  go_wp2_with fail
  refine (Less_any l b m c _).mono ?_
  rw [HPQ.out]
  rintro e w5 ⟨rfl, hf⟩
  have a0 := cell_fr' hf a0 (fun h => h)
  have a1 := cell_fr' hf a1 (fun h => h)
  have b0 := cell_fr' hf b0 (fun h => h)
  have b1 := cell_fr' hf b1 (fun h => h)
  have c0 := cell_fr' hf c0 (fun h => h)
  have c1 := cell_fr' hf c1 (fun h => h)
  have HF5 := Lib.hid (HF4.out.trans hf)
  clear hf HF4
  go_wp2_with fail
  refine (Less_any m c l b _).mono ?_
  rw [HQP.out]
  rintro e w6 ⟨rfl, hf⟩
  have a0 := cell_fr' hf a0 (fun h => h)
  have a1 := cell_fr' hf a1 (fun h => h)
  have b0 := cell_fr' hf b0 (fun h => h)
  have b1 := cell_fr' hf b1 (fun h => h)
  have c0 := cell_fr' hf c0 (fun h => h)
  have c1 := cell_fr' hf c1 (fun h => h)
  have HF6 := Lib.hid (HF5.out.trans hf)
  clear hf HF5
  go_wp2_with fail
  refine (Less_any l b m c _).mono ?_
  rw [HPQ.out]
  rintro e w7 ⟨rfl, hf⟩
  have a0 := cell_fr' hf a0 (fun h => h)
  have a1 := cell_fr' hf a1 (fun h => h)
  have b0 := cell_fr' hf b0 (fun h => h)
  have b1 := cell_fr' hf b1 (fun h => h)
  have c0 := cell_fr' hf c0 (fun h => h)
  have c1 := cell_fr' hf c1 (fun h => h)
  have HF7 := Lib.hid (HF6.out.trans hf)
  clear hf HF6
  go_wp2_with fail
  refine (Less_any m c r d _).mono ?_
  rw [HQR.out]
  rintro e w8 ⟨rfl, hf⟩
  have a0 := cell_fr' hf a0 (fun h => h)
  have a1 := cell_fr' hf a1 (fun h => h)
  have b0 := cell_fr' hf b0 (fun h => h)
  have b1 := cell_fr' hf b1 (fun h => h)
  have c0 := cell_fr' hf c0 (fun h => h)
  have c1 := cell_fr' hf c1 (fun h => h)
  have HF8 := Lib.hid (HF7.out.trans hf)
  clear hf HF7
  go_wp2_with fail
  refine (Covers_any l b m c _).mono ?_
  rw [HCV.out]
  rintro e w9 ⟨rfl, hf⟩
  have a0 := cell_fr' hf a0 (fun h => h)
  have a1 := cell_fr' hf a1 (fun h => h)
  have b0 := cell_fr' hf b0 (fun h => h)
  have b1 := cell_fr' hf b1 (fun h => h)
  have c0 := cell_fr' hf c0 (fun h => h)
  have c1 := cell_fr' hf c1 (fun h => h)
  have HF9 := Lib.hid (HF8.out.trans hf)
  clear hf HF8
  go_wp2
  go_ret
  exact ⟨rfl, HF9.out⟩
set_option maxRecDepth 100000 in
set_option maxHeartbeats 4000000 in
theorem Order_pq_f_f_n2 (l b m c r d : Int) (w : World) (hT : Tab w) (hp0 : decide (Tb.ok ⟨l, b⟩) = true) (hp1 : decide (Tb.ok ⟨m, c⟩) = true) (hp2 : decide (Tb.ok ⟨r, d⟩) = true) (hpq : decide (Tb.less ⟨l, b⟩ ⟨m, c⟩) = true) (hqp : decide (Tb.less ⟨m, c⟩ ⟨l, b⟩) = false) (hqr : decide (Tb.less ⟨m, c⟩ ⟨r, d⟩) = false) (hcv : decide (Tb.covers ⟨l, b⟩ ⟨m, c⟩) = false) (heq : l = m ∧ ¬ b = c) : Calls Tryd.prog 4 #[.agg #[.int .i64 l, .int .i64 b], .agg #[.int .i64 m, .int .i64 c], .agg #[.int .i64 r, .int .i64 d]] w (BoolFr true w) := by
  have HT := Lib.hid hT; clear hT; have HP0 := Lib.hid hp0; clear hp0; have HP1 := Lib.hid hp1; clear hp1; have HP2 := Lib.hid hp2; clear hp2; have HPQ := Lib.hid hpq; clear hpq; have HQP := Lib.hid hqp; clear hqp; have HQR := Lib.hid hqr; clear hqr; have HCV := Lib.hid hcv; clear hcv
  obtain ⟨rfl, heq⟩ := heq
  go_enter Tryd.func4, Tryd.ntmps4
  go_upto_region 1 with fail
  refine wp_name fun w0 hw0 => ?_
  have hF : Fr NoB w w0 := by rw [hw0]; (repeat (first | exact Fr.refl _ _ | refine Fr.alloc ?_ _ | refine Fr.setNew ?_ (by omega) _ _ | refine Fr.drewN ?_ _ | refine Fr.drew ?_))
  have a0 : w0.cell? ⟨w.heap.size, 0, none⟩ = some (.int .i64 l) := by rw [hw0]; exact up_cell _ (up_cell _ (box0 w _ _ _))
  have a1 : w0.cell? ⟨w.heap.size, 1, none⟩ = some (.int .i64 b) := by rw [hw0]; exact up_cell _ (up_cell _ (box1 w _ _ _))
  have b0 : w0.cell? ⟨w.heap.size + 1, 0, none⟩ = some (.int .i64 l) := by rw [hw0]; exact up_cell _ (box_at0 _ _ (by simp) _ _ _)
  have b1 : w0.cell? ⟨w.heap.size + 1, 1, none⟩ = some (.int .i64 c) := by rw [hw0]; exact up_cell _ (box_at1 _ _ (by simp) _ _ _)
  have c0 : w0.cell? ⟨w.heap.size + 1 + 1, 0, none⟩ = some (.int .i64 r) := by rw [hw0]; exact box_at0 _ _ (by simp) _ _ _
  have c1 : w0.cell? ⟨w.heap.size + 1 + 1, 1, none⟩ = some (.int .i64 d) := by rw [hw0]; exact box_at1 _ _ (by simp) _ _ _
  clear hw0
  have HF0 := Lib.hid hF
  clear hF
  go_wp2_with fail
  refine (begun_any _ (HT.out.keep HF0.out)).mono ?_
  rintro e w1 ⟨rfl, hf⟩
  have a0 := cell_fr' hf a0 (fun h => h)
  have a1 := cell_fr' hf a1 (fun h => h)
  have b0 := cell_fr' hf b0 (fun h => h)
  have b1 := cell_fr' hf b1 (fun h => h)
  have c0 := cell_fr' hf c0 (fun h => h)
  have c1 := cell_fr' hf c1 (fun h => h)
  have HF1 := Lib.hid (HF0.out.trans hf)
  clear hf HF0
  go_wp2_with fail
  refine (Check_any l b _).mono ?_
  rw [HP0.out]
  rintro e w2 ⟨rfl, hf⟩
  have a0 := cell_fr' hf a0 (fun h => h)
  have a1 := cell_fr' hf a1 (fun h => h)
  have b0 := cell_fr' hf b0 (fun h => h)
  have b1 := cell_fr' hf b1 (fun h => h)
  have c0 := cell_fr' hf c0 (fun h => h)
  have c1 := cell_fr' hf c1 (fun h => h)
  have HF2 := Lib.hid (HF1.out.trans hf)
  clear hf HF1
  go_wp2_with fail
  refine (Check_any l c _).mono ?_
  rw [HP1.out]
  rintro e w3 ⟨rfl, hf⟩
  have a0 := cell_fr' hf a0 (fun h => h)
  have a1 := cell_fr' hf a1 (fun h => h)
  have b0 := cell_fr' hf b0 (fun h => h)
  have b1 := cell_fr' hf b1 (fun h => h)
  have c0 := cell_fr' hf c0 (fun h => h)
  have c1 := cell_fr' hf c1 (fun h => h)
  have HF3 := Lib.hid (HF2.out.trans hf)
  clear hf HF2
  go_wp2_with fail
  refine (Check_any r d _).mono ?_
  rw [HP2.out]
  rintro e w4 ⟨rfl, hf⟩
  have a0 := cell_fr' hf a0 (fun h => h)
  have a1 := cell_fr' hf a1 (fun h => h)
  have b0 := cell_fr' hf b0 (fun h => h)
  have b1 := cell_fr' hf b1 (fun h => h)
  have c0 := cell_fr' hf c0 (fun h => h)
  have c1 := cell_fr' hf c1 (fun h => h)
  have HF4 := Lib.hid (HF3.out.trans hf)
  clear hf HF3
  go_wp2_with fail
  refine (Less_any l b l c _).mono ?_
  rw [HPQ.out]
  rintro e w5 ⟨rfl, hf⟩
  have a0 := cell_fr' hf a0 (fun h => h)
  have a1 := cell_fr' hf a1 (fun h => h)
  have b0 := cell_fr' hf b0 (fun h => h)
  have b1 := cell_fr' hf b1 (fun h => h)
  have c0 := cell_fr' hf c0 (fun h => h)
  have c1 := cell_fr' hf c1 (fun h => h)
  have HF5 := Lib.hid (HF4.out.trans hf)
  clear hf HF4
  go_wp2_with fail
  refine (Less_any l c l b _).mono ?_
  rw [HQP.out]
  rintro e w6 ⟨rfl, hf⟩
  have a0 := cell_fr' hf a0 (fun h => h)
  have a1 := cell_fr' hf a1 (fun h => h)
  have b0 := cell_fr' hf b0 (fun h => h)
  have b1 := cell_fr' hf b1 (fun h => h)
  have c0 := cell_fr' hf c0 (fun h => h)
  have c1 := cell_fr' hf c1 (fun h => h)
  have HF6 := Lib.hid (HF5.out.trans hf)
  clear hf HF5
  go_wp2_with fail
  refine (Less_any l b l c _).mono ?_
  rw [HPQ.out]
  rintro e w7 ⟨rfl, hf⟩
  have a0 := cell_fr' hf a0 (fun h => h)
  have a1 := cell_fr' hf a1 (fun h => h)
  have b0 := cell_fr' hf b0 (fun h => h)
  have b1 := cell_fr' hf b1 (fun h => h)
  have c0 := cell_fr' hf c0 (fun h => h)
  have c1 := cell_fr' hf c1 (fun h => h)
  have HF7 := Lib.hid (HF6.out.trans hf)
  clear hf HF6
  go_wp2_with fail
  refine (Less_any l c r d _).mono ?_
  rw [HQR.out]
  rintro e w8 ⟨rfl, hf⟩
  have a0 := cell_fr' hf a0 (fun h => h)
  have a1 := cell_fr' hf a1 (fun h => h)
  have b0 := cell_fr' hf b0 (fun h => h)
  have b1 := cell_fr' hf b1 (fun h => h)
  have c0 := cell_fr' hf c0 (fun h => h)
  have c1 := cell_fr' hf c1 (fun h => h)
  have HF8 := Lib.hid (HF7.out.trans hf)
  clear hf HF7
  go_wp2_with fail
  refine (Covers_any l b l c _).mono ?_
  rw [HCV.out]
  rintro e w9 ⟨rfl, hf⟩
  have a0 := cell_fr' hf a0 (fun h => h)
  have a1 := cell_fr' hf a1 (fun h => h)
  have b0 := cell_fr' hf b0 (fun h => h)
  have b1 := cell_fr' hf b1 (fun h => h)
  have c0 := cell_fr' hf c0 (fun h => h)
  have c1 := cell_fr' hf c1 (fun h => h)
  have HF9 := Lib.hid (HF8.out.trans hf)
  clear hf HF8
  go_wp2
  go_ret
  exact ⟨rfl, HF9.out⟩
set_option maxRecDepth 100000 in
set_option maxHeartbeats 4000000 in
theorem Order_qp_n1 (l b m c r d : Int) (w : World) (hT : Tab w) (hp0 : decide (Tb.ok ⟨l, b⟩) = true) (hp1 : decide (Tb.ok ⟨m, c⟩) = true) (hp2 : decide (Tb.ok ⟨r, d⟩) = true) (hpq : decide (Tb.less ⟨l, b⟩ ⟨m, c⟩) = false) (hqp : decide (Tb.less ⟨m, c⟩ ⟨l, b⟩) = true) (hcv : decide (Tb.covers ⟨l, b⟩ ⟨m, c⟩) = false) (heq : ¬ l = m) : Calls Tryd.prog 4 #[.agg #[.int .i64 l, .int .i64 b], .agg #[.int .i64 m, .int .i64 c], .agg #[.int .i64 r, .int .i64 d]] w (BoolFr true w) := by
  have HT := Lib.hid hT; clear hT; have HP0 := Lib.hid hp0; clear hp0; have HP1 := Lib.hid hp1; clear hp1; have HP2 := Lib.hid hp2; clear hp2; have HPQ := Lib.hid hpq; clear hpq; have HQP := Lib.hid hqp; clear hqp; have HCV := Lib.hid hcv; clear hcv
  go_enter Tryd.func4, Tryd.ntmps4
  go_upto_region 1 with fail
  refine wp_name fun w0 hw0 => ?_
  have hF : Fr NoB w w0 := by rw [hw0]; (repeat (first | exact Fr.refl _ _ | refine Fr.alloc ?_ _ | refine Fr.setNew ?_ (by omega) _ _ | refine Fr.drewN ?_ _ | refine Fr.drew ?_))
  have a0 : w0.cell? ⟨w.heap.size, 0, none⟩ = some (.int .i64 l) := by rw [hw0]; exact up_cell _ (up_cell _ (box0 w _ _ _))
  have a1 : w0.cell? ⟨w.heap.size, 1, none⟩ = some (.int .i64 b) := by rw [hw0]; exact up_cell _ (up_cell _ (box1 w _ _ _))
  have b0 : w0.cell? ⟨w.heap.size + 1, 0, none⟩ = some (.int .i64 m) := by rw [hw0]; exact up_cell _ (box_at0 _ _ (by simp) _ _ _)
  have b1 : w0.cell? ⟨w.heap.size + 1, 1, none⟩ = some (.int .i64 c) := by rw [hw0]; exact up_cell _ (box_at1 _ _ (by simp) _ _ _)
  have c0 : w0.cell? ⟨w.heap.size + 1 + 1, 0, none⟩ = some (.int .i64 r) := by rw [hw0]; exact box_at0 _ _ (by simp) _ _ _
  have c1 : w0.cell? ⟨w.heap.size + 1 + 1, 1, none⟩ = some (.int .i64 d) := by rw [hw0]; exact box_at1 _ _ (by simp) _ _ _
  clear hw0
  have HF0 := Lib.hid hF
  clear hF
  go_wp2_with fail
  refine (begun_any _ (HT.out.keep HF0.out)).mono ?_
  rintro e w1 ⟨rfl, hf⟩
  have a0 := cell_fr' hf a0 (fun h => h)
  have a1 := cell_fr' hf a1 (fun h => h)
  have b0 := cell_fr' hf b0 (fun h => h)
  have b1 := cell_fr' hf b1 (fun h => h)
  have c0 := cell_fr' hf c0 (fun h => h)
  have c1 := cell_fr' hf c1 (fun h => h)
  have HF1 := Lib.hid (HF0.out.trans hf)
  clear hf HF0
  go_wp2_with fail
  refine (Check_any l b _).mono ?_
  rw [HP0.out]
  rintro e w2 ⟨rfl, hf⟩
  have a0 := cell_fr' hf a0 (fun h => h)
  have a1 := cell_fr' hf a1 (fun h => h)
  have b0 := cell_fr' hf b0 (fun h => h)
  have b1 := cell_fr' hf b1 (fun h => h)
  have c0 := cell_fr' hf c0 (fun h => h)
  have c1 := cell_fr' hf c1 (fun h => h)
  have HF2 := Lib.hid (HF1.out.trans hf)
  clear hf HF1
  go_wp2_with fail
  refine (Check_any m c _).mono ?_
  rw [HP1.out]
  rintro e w3 ⟨rfl, hf⟩
  have a0 := cell_fr' hf a0 (fun h => h)
  have a1 := cell_fr' hf a1 (fun h => h)
  have b0 := cell_fr' hf b0 (fun h => h)
  have b1 := cell_fr' hf b1 (fun h => h)
  have c0 := cell_fr' hf c0 (fun h => h)
  have c1 := cell_fr' hf c1 (fun h => h)
  have HF3 := Lib.hid (HF2.out.trans hf)
  clear hf HF2
  go_wp2_with fail
  refine (Check_any r d _).mono ?_
  rw [HP2.out]
  rintro e w4 ⟨rfl, hf⟩
  have a0 := cell_fr' hf a0 (fun h => h)
  have a1 := cell_fr' hf a1 (fun h => h)
  have b0 := cell_fr' hf b0 (fun h => h)
  have b1 := cell_fr' hf b1 (fun h => h)
  have c0 := cell_fr' hf c0 (fun h => h)
  have c1 := cell_fr' hf c1 (fun h => h)
  have HF4 := Lib.hid (HF3.out.trans hf)
  clear hf HF3
  go_wp2_with fail
  refine (Less_any l b m c _).mono ?_
  rw [HPQ.out]
  rintro e w5 ⟨rfl, hf⟩
  have a0 := cell_fr' hf a0 (fun h => h)
  have a1 := cell_fr' hf a1 (fun h => h)
  have b0 := cell_fr' hf b0 (fun h => h)
  have b1 := cell_fr' hf b1 (fun h => h)
  have c0 := cell_fr' hf c0 (fun h => h)
  have c1 := cell_fr' hf c1 (fun h => h)
  have HF5 := Lib.hid (HF4.out.trans hf)
  clear hf HF4
  go_wp2_with fail
  refine (Less_any m c l b _).mono ?_
  rw [HQP.out]
  rintro e w6 ⟨rfl, hf⟩
  have a0 := cell_fr' hf a0 (fun h => h)
  have a1 := cell_fr' hf a1 (fun h => h)
  have b0 := cell_fr' hf b0 (fun h => h)
  have b1 := cell_fr' hf b1 (fun h => h)
  have c0 := cell_fr' hf c0 (fun h => h)
  have c1 := cell_fr' hf c1 (fun h => h)
  have HF6 := Lib.hid (HF5.out.trans hf)
  clear hf HF5
  go_wp2_with fail
  refine (Less_any l b m c _).mono ?_
  rw [HPQ.out]
  rintro e w7 ⟨rfl, hf⟩
  have a0 := cell_fr' hf a0 (fun h => h)
  have a1 := cell_fr' hf a1 (fun h => h)
  have b0 := cell_fr' hf b0 (fun h => h)
  have b1 := cell_fr' hf b1 (fun h => h)
  have c0 := cell_fr' hf c0 (fun h => h)
  have c1 := cell_fr' hf c1 (fun h => h)
  have HF7 := Lib.hid (HF6.out.trans hf)
  clear hf HF6
  go_wp2_with fail
  refine (Covers_any l b m c _).mono ?_
  rw [HCV.out]
  rintro e w8 ⟨rfl, hf⟩
  have a0 := cell_fr' hf a0 (fun h => h)
  have a1 := cell_fr' hf a1 (fun h => h)
  have b0 := cell_fr' hf b0 (fun h => h)
  have b1 := cell_fr' hf b1 (fun h => h)
  have c0 := cell_fr' hf c0 (fun h => h)
  have c1 := cell_fr' hf c1 (fun h => h)
  have HF8 := Lib.hid (HF7.out.trans hf)
  clear hf HF7
  go_wp2
  go_ret
  exact ⟨rfl, HF8.out⟩
set_option maxRecDepth 100000 in
set_option maxHeartbeats 4000000 in
theorem Order_qp_n2 (l b m c r d : Int) (w : World) (hT : Tab w) (hp0 : decide (Tb.ok ⟨l, b⟩) = true) (hp1 : decide (Tb.ok ⟨m, c⟩) = true) (hp2 : decide (Tb.ok ⟨r, d⟩) = true) (hpq : decide (Tb.less ⟨l, b⟩ ⟨m, c⟩) = false) (hqp : decide (Tb.less ⟨m, c⟩ ⟨l, b⟩) = true) (hcv : decide (Tb.covers ⟨l, b⟩ ⟨m, c⟩) = false) (heq : l = m ∧ ¬ b = c) : Calls Tryd.prog 4 #[.agg #[.int .i64 l, .int .i64 b], .agg #[.int .i64 m, .int .i64 c], .agg #[.int .i64 r, .int .i64 d]] w (BoolFr true w) := by
  have HT := Lib.hid hT; clear hT; have HP0 := Lib.hid hp0; clear hp0; have HP1 := Lib.hid hp1; clear hp1; have HP2 := Lib.hid hp2; clear hp2; have HPQ := Lib.hid hpq; clear hpq; have HQP := Lib.hid hqp; clear hqp; have HCV := Lib.hid hcv; clear hcv
  obtain ⟨rfl, heq⟩ := heq
  go_enter Tryd.func4, Tryd.ntmps4
  go_upto_region 1 with fail
  refine wp_name fun w0 hw0 => ?_
  have hF : Fr NoB w w0 := by rw [hw0]; (repeat (first | exact Fr.refl _ _ | refine Fr.alloc ?_ _ | refine Fr.setNew ?_ (by omega) _ _ | refine Fr.drewN ?_ _ | refine Fr.drew ?_))
  have a0 : w0.cell? ⟨w.heap.size, 0, none⟩ = some (.int .i64 l) := by rw [hw0]; exact up_cell _ (up_cell _ (box0 w _ _ _))
  have a1 : w0.cell? ⟨w.heap.size, 1, none⟩ = some (.int .i64 b) := by rw [hw0]; exact up_cell _ (up_cell _ (box1 w _ _ _))
  have b0 : w0.cell? ⟨w.heap.size + 1, 0, none⟩ = some (.int .i64 l) := by rw [hw0]; exact up_cell _ (box_at0 _ _ (by simp) _ _ _)
  have b1 : w0.cell? ⟨w.heap.size + 1, 1, none⟩ = some (.int .i64 c) := by rw [hw0]; exact up_cell _ (box_at1 _ _ (by simp) _ _ _)
  have c0 : w0.cell? ⟨w.heap.size + 1 + 1, 0, none⟩ = some (.int .i64 r) := by rw [hw0]; exact box_at0 _ _ (by simp) _ _ _
  have c1 : w0.cell? ⟨w.heap.size + 1 + 1, 1, none⟩ = some (.int .i64 d) := by rw [hw0]; exact box_at1 _ _ (by simp) _ _ _
  clear hw0
  have HF0 := Lib.hid hF
  clear hF
  go_wp2_with fail
  refine (begun_any _ (HT.out.keep HF0.out)).mono ?_
  rintro e w1 ⟨rfl, hf⟩
  have a0 := cell_fr' hf a0 (fun h => h)
  have a1 := cell_fr' hf a1 (fun h => h)
  have b0 := cell_fr' hf b0 (fun h => h)
  have b1 := cell_fr' hf b1 (fun h => h)
  have c0 := cell_fr' hf c0 (fun h => h)
  have c1 := cell_fr' hf c1 (fun h => h)
  have HF1 := Lib.hid (HF0.out.trans hf)
  clear hf HF0
  go_wp2_with fail
  refine (Check_any l b _).mono ?_
  rw [HP0.out]
  rintro e w2 ⟨rfl, hf⟩
  have a0 := cell_fr' hf a0 (fun h => h)
  have a1 := cell_fr' hf a1 (fun h => h)
  have b0 := cell_fr' hf b0 (fun h => h)
  have b1 := cell_fr' hf b1 (fun h => h)
  have c0 := cell_fr' hf c0 (fun h => h)
  have c1 := cell_fr' hf c1 (fun h => h)
  have HF2 := Lib.hid (HF1.out.trans hf)
  clear hf HF1
  go_wp2_with fail
  refine (Check_any l c _).mono ?_
  rw [HP1.out]
  rintro e w3 ⟨rfl, hf⟩
  have a0 := cell_fr' hf a0 (fun h => h)
  have a1 := cell_fr' hf a1 (fun h => h)
  have b0 := cell_fr' hf b0 (fun h => h)
  have b1 := cell_fr' hf b1 (fun h => h)
  have c0 := cell_fr' hf c0 (fun h => h)
  have c1 := cell_fr' hf c1 (fun h => h)
  have HF3 := Lib.hid (HF2.out.trans hf)
  clear hf HF2
  go_wp2_with fail
  refine (Check_any r d _).mono ?_
  rw [HP2.out]
  rintro e w4 ⟨rfl, hf⟩
  have a0 := cell_fr' hf a0 (fun h => h)
  have a1 := cell_fr' hf a1 (fun h => h)
  have b0 := cell_fr' hf b0 (fun h => h)
  have b1 := cell_fr' hf b1 (fun h => h)
  have c0 := cell_fr' hf c0 (fun h => h)
  have c1 := cell_fr' hf c1 (fun h => h)
  have HF4 := Lib.hid (HF3.out.trans hf)
  clear hf HF3
  go_wp2_with fail
  refine (Less_any l b l c _).mono ?_
  rw [HPQ.out]
  rintro e w5 ⟨rfl, hf⟩
  have a0 := cell_fr' hf a0 (fun h => h)
  have a1 := cell_fr' hf a1 (fun h => h)
  have b0 := cell_fr' hf b0 (fun h => h)
  have b1 := cell_fr' hf b1 (fun h => h)
  have c0 := cell_fr' hf c0 (fun h => h)
  have c1 := cell_fr' hf c1 (fun h => h)
  have HF5 := Lib.hid (HF4.out.trans hf)
  clear hf HF4
  go_wp2_with fail
  refine (Less_any l c l b _).mono ?_
  rw [HQP.out]
  rintro e w6 ⟨rfl, hf⟩
  have a0 := cell_fr' hf a0 (fun h => h)
  have a1 := cell_fr' hf a1 (fun h => h)
  have b0 := cell_fr' hf b0 (fun h => h)
  have b1 := cell_fr' hf b1 (fun h => h)
  have c0 := cell_fr' hf c0 (fun h => h)
  have c1 := cell_fr' hf c1 (fun h => h)
  have HF6 := Lib.hid (HF5.out.trans hf)
  clear hf HF5
  go_wp2_with fail
  refine (Less_any l b l c _).mono ?_
  rw [HPQ.out]
  rintro e w7 ⟨rfl, hf⟩
  have a0 := cell_fr' hf a0 (fun h => h)
  have a1 := cell_fr' hf a1 (fun h => h)
  have b0 := cell_fr' hf b0 (fun h => h)
  have b1 := cell_fr' hf b1 (fun h => h)
  have c0 := cell_fr' hf c0 (fun h => h)
  have c1 := cell_fr' hf c1 (fun h => h)
  have HF7 := Lib.hid (HF6.out.trans hf)
  clear hf HF6
  go_wp2_with fail
  refine (Covers_any l b l c _).mono ?_
  rw [HCV.out]
  rintro e w8 ⟨rfl, hf⟩
  have a0 := cell_fr' hf a0 (fun h => h)
  have a1 := cell_fr' hf a1 (fun h => h)
  have b0 := cell_fr' hf b0 (fun h => h)
  have b1 := cell_fr' hf b1 (fun h => h)
  have c0 := cell_fr' hf c0 (fun h => h)
  have c1 := cell_fr' hf c1 (fun h => h)
  have HF8 := Lib.hid (HF7.out.trans hf)
  clear hf HF7
  go_wp2
  go_ret
  exact ⟨rfl, HF8.out⟩
set_option maxRecDepth 100000 in
set_option maxHeartbeats 4000000 in
theorem Order_eq_t (l b m c r d : Int) (w : World) (hT : Tab w) (hp0 : decide (Tb.ok ⟨l, b⟩) = true) (hp1 : decide (Tb.ok ⟨m, c⟩) = true) (hp2 : decide (Tb.ok ⟨r, d⟩) = true) (hpq : decide (Tb.less ⟨l, b⟩ ⟨m, c⟩) = false) (hqp : decide (Tb.less ⟨m, c⟩ ⟨l, b⟩) = false) (hcv : decide (Tb.covers ⟨l, b⟩ ⟨m, c⟩) = true) (heq : l = m ∧ b = c) : Calls Tryd.prog 4 #[.agg #[.int .i64 l, .int .i64 b], .agg #[.int .i64 m, .int .i64 c], .agg #[.int .i64 r, .int .i64 d]] w (BoolFr true w) := by
  have HT := Lib.hid hT; clear hT; have HP0 := Lib.hid hp0; clear hp0; have HP1 := Lib.hid hp1; clear hp1; have HP2 := Lib.hid hp2; clear hp2; have HPQ := Lib.hid hpq; clear hpq; have HQP := Lib.hid hqp; clear hqp; have HCV := Lib.hid hcv; clear hcv
  obtain ⟨rfl, rfl⟩ := heq
  go_enter Tryd.func4, Tryd.ntmps4
  go_upto_region 1 with fail
  refine wp_name fun w0 hw0 => ?_
  have hF : Fr NoB w w0 := by rw [hw0]; (repeat (first | exact Fr.refl _ _ | refine Fr.alloc ?_ _ | refine Fr.setNew ?_ (by omega) _ _ | refine Fr.drewN ?_ _ | refine Fr.drew ?_))
  have a0 : w0.cell? ⟨w.heap.size, 0, none⟩ = some (.int .i64 l) := by rw [hw0]; exact up_cell _ (up_cell _ (box0 w _ _ _))
  have a1 : w0.cell? ⟨w.heap.size, 1, none⟩ = some (.int .i64 b) := by rw [hw0]; exact up_cell _ (up_cell _ (box1 w _ _ _))
  have b0 : w0.cell? ⟨w.heap.size + 1, 0, none⟩ = some (.int .i64 l) := by rw [hw0]; exact up_cell _ (box_at0 _ _ (by simp) _ _ _)
  have b1 : w0.cell? ⟨w.heap.size + 1, 1, none⟩ = some (.int .i64 b) := by rw [hw0]; exact up_cell _ (box_at1 _ _ (by simp) _ _ _)
  have c0 : w0.cell? ⟨w.heap.size + 1 + 1, 0, none⟩ = some (.int .i64 r) := by rw [hw0]; exact box_at0 _ _ (by simp) _ _ _
  have c1 : w0.cell? ⟨w.heap.size + 1 + 1, 1, none⟩ = some (.int .i64 d) := by rw [hw0]; exact box_at1 _ _ (by simp) _ _ _
  clear hw0
  have HF0 := Lib.hid hF
  clear hF
  go_wp2_with fail
  refine (begun_any _ (HT.out.keep HF0.out)).mono ?_
  rintro e w1 ⟨rfl, hf⟩
  have a0 := cell_fr' hf a0 (fun h => h)
  have a1 := cell_fr' hf a1 (fun h => h)
  have b0 := cell_fr' hf b0 (fun h => h)
  have b1 := cell_fr' hf b1 (fun h => h)
  have c0 := cell_fr' hf c0 (fun h => h)
  have c1 := cell_fr' hf c1 (fun h => h)
  have HF1 := Lib.hid (HF0.out.trans hf)
  clear hf HF0
  go_wp2_with fail
  refine (Check_any l b _).mono ?_
  rw [HP0.out]
  rintro e w2 ⟨rfl, hf⟩
  have a0 := cell_fr' hf a0 (fun h => h)
  have a1 := cell_fr' hf a1 (fun h => h)
  have b0 := cell_fr' hf b0 (fun h => h)
  have b1 := cell_fr' hf b1 (fun h => h)
  have c0 := cell_fr' hf c0 (fun h => h)
  have c1 := cell_fr' hf c1 (fun h => h)
  have HF2 := Lib.hid (HF1.out.trans hf)
  clear hf HF1
  go_wp2_with fail
  refine (Check_any l b _).mono ?_
  rw [HP1.out]
  rintro e w3 ⟨rfl, hf⟩
  have a0 := cell_fr' hf a0 (fun h => h)
  have a1 := cell_fr' hf a1 (fun h => h)
  have b0 := cell_fr' hf b0 (fun h => h)
  have b1 := cell_fr' hf b1 (fun h => h)
  have c0 := cell_fr' hf c0 (fun h => h)
  have c1 := cell_fr' hf c1 (fun h => h)
  have HF3 := Lib.hid (HF2.out.trans hf)
  clear hf HF2
  go_wp2_with fail
  refine (Check_any r d _).mono ?_
  rw [HP2.out]
  rintro e w4 ⟨rfl, hf⟩
  have a0 := cell_fr' hf a0 (fun h => h)
  have a1 := cell_fr' hf a1 (fun h => h)
  have b0 := cell_fr' hf b0 (fun h => h)
  have b1 := cell_fr' hf b1 (fun h => h)
  have c0 := cell_fr' hf c0 (fun h => h)
  have c1 := cell_fr' hf c1 (fun h => h)
  have HF4 := Lib.hid (HF3.out.trans hf)
  clear hf HF3
  go_wp2_with fail
  refine (Less_any l b l b _).mono ?_
  rw [HPQ.out]
  rintro e w5 ⟨rfl, hf⟩
  have a0 := cell_fr' hf a0 (fun h => h)
  have a1 := cell_fr' hf a1 (fun h => h)
  have b0 := cell_fr' hf b0 (fun h => h)
  have b1 := cell_fr' hf b1 (fun h => h)
  have c0 := cell_fr' hf c0 (fun h => h)
  have c1 := cell_fr' hf c1 (fun h => h)
  have HF5 := Lib.hid (HF4.out.trans hf)
  clear hf HF4
  go_wp2_with fail
  refine (Less_any l b l b _).mono ?_
  rw [HQP.out]
  rintro e w6 ⟨rfl, hf⟩
  have a0 := cell_fr' hf a0 (fun h => h)
  have a1 := cell_fr' hf a1 (fun h => h)
  have b0 := cell_fr' hf b0 (fun h => h)
  have b1 := cell_fr' hf b1 (fun h => h)
  have c0 := cell_fr' hf c0 (fun h => h)
  have c1 := cell_fr' hf c1 (fun h => h)
  have HF6 := Lib.hid (HF5.out.trans hf)
  clear hf HF5
  go_wp2_with fail
  refine (Less_any l b l b _).mono ?_
  rw [HPQ.out]
  rintro e w7 ⟨rfl, hf⟩
  have a0 := cell_fr' hf a0 (fun h => h)
  have a1 := cell_fr' hf a1 (fun h => h)
  have b0 := cell_fr' hf b0 (fun h => h)
  have b1 := cell_fr' hf b1 (fun h => h)
  have c0 := cell_fr' hf c0 (fun h => h)
  have c1 := cell_fr' hf c1 (fun h => h)
  have HF7 := Lib.hid (HF6.out.trans hf)
  clear hf HF6
  go_wp2_with fail
  refine (Covers_any l b l b _).mono ?_
  rw [HCV.out]
  rintro e w8 ⟨rfl, hf⟩
  have a0 := cell_fr' hf a0 (fun h => h)
  have a1 := cell_fr' hf a1 (fun h => h)
  have b0 := cell_fr' hf b0 (fun h => h)
  have b1 := cell_fr' hf b1 (fun h => h)
  have c0 := cell_fr' hf c0 (fun h => h)
  have c1 := cell_fr' hf c1 (fun h => h)
  have HF8 := Lib.hid (HF7.out.trans hf)
  clear hf HF7
  go_wp2
  go_ret
  exact ⟨rfl, HF8.out⟩
set_option maxRecDepth 100000 in
set_option maxHeartbeats 4000000 in
theorem Order_eq_f (l b m c r d : Int) (w : World) (hT : Tab w) (hp0 : decide (Tb.ok ⟨l, b⟩) = true) (hp1 : decide (Tb.ok ⟨m, c⟩) = true) (hp2 : decide (Tb.ok ⟨r, d⟩) = true) (hpq : decide (Tb.less ⟨l, b⟩ ⟨m, c⟩) = false) (hqp : decide (Tb.less ⟨m, c⟩ ⟨l, b⟩) = false) (hcv : decide (Tb.covers ⟨l, b⟩ ⟨m, c⟩) = false) (heq : l = m ∧ b = c) : Calls Tryd.prog 4 #[.agg #[.int .i64 l, .int .i64 b], .agg #[.int .i64 m, .int .i64 c], .agg #[.int .i64 r, .int .i64 d]] w (BoolFr true w) := by
  have HT := Lib.hid hT; clear hT; have HP0 := Lib.hid hp0; clear hp0; have HP1 := Lib.hid hp1; clear hp1; have HP2 := Lib.hid hp2; clear hp2; have HPQ := Lib.hid hpq; clear hpq; have HQP := Lib.hid hqp; clear hqp; have HCV := Lib.hid hcv; clear hcv
  obtain ⟨rfl, rfl⟩ := heq
  go_enter Tryd.func4, Tryd.ntmps4
  go_upto_region 1 with fail
  refine wp_name fun w0 hw0 => ?_
  have hF : Fr NoB w w0 := by rw [hw0]; (repeat (first | exact Fr.refl _ _ | refine Fr.alloc ?_ _ | refine Fr.setNew ?_ (by omega) _ _ | refine Fr.drewN ?_ _ | refine Fr.drew ?_))
  have a0 : w0.cell? ⟨w.heap.size, 0, none⟩ = some (.int .i64 l) := by rw [hw0]; exact up_cell _ (up_cell _ (box0 w _ _ _))
  have a1 : w0.cell? ⟨w.heap.size, 1, none⟩ = some (.int .i64 b) := by rw [hw0]; exact up_cell _ (up_cell _ (box1 w _ _ _))
  have b0 : w0.cell? ⟨w.heap.size + 1, 0, none⟩ = some (.int .i64 l) := by rw [hw0]; exact up_cell _ (box_at0 _ _ (by simp) _ _ _)
  have b1 : w0.cell? ⟨w.heap.size + 1, 1, none⟩ = some (.int .i64 b) := by rw [hw0]; exact up_cell _ (box_at1 _ _ (by simp) _ _ _)
  have c0 : w0.cell? ⟨w.heap.size + 1 + 1, 0, none⟩ = some (.int .i64 r) := by rw [hw0]; exact box_at0 _ _ (by simp) _ _ _
  have c1 : w0.cell? ⟨w.heap.size + 1 + 1, 1, none⟩ = some (.int .i64 d) := by rw [hw0]; exact box_at1 _ _ (by simp) _ _ _
  clear hw0
  have HF0 := Lib.hid hF
  clear hF
  go_wp2_with fail
  refine (begun_any _ (HT.out.keep HF0.out)).mono ?_
  rintro e w1 ⟨rfl, hf⟩
  have a0 := cell_fr' hf a0 (fun h => h)
  have a1 := cell_fr' hf a1 (fun h => h)
  have b0 := cell_fr' hf b0 (fun h => h)
  have b1 := cell_fr' hf b1 (fun h => h)
  have c0 := cell_fr' hf c0 (fun h => h)
  have c1 := cell_fr' hf c1 (fun h => h)
  have HF1 := Lib.hid (HF0.out.trans hf)
  clear hf HF0
  go_wp2_with fail
  refine (Check_any l b _).mono ?_
  rw [HP0.out]
  rintro e w2 ⟨rfl, hf⟩
  have a0 := cell_fr' hf a0 (fun h => h)
  have a1 := cell_fr' hf a1 (fun h => h)
  have b0 := cell_fr' hf b0 (fun h => h)
  have b1 := cell_fr' hf b1 (fun h => h)
  have c0 := cell_fr' hf c0 (fun h => h)
  have c1 := cell_fr' hf c1 (fun h => h)
  have HF2 := Lib.hid (HF1.out.trans hf)
  clear hf HF1
  go_wp2_with fail
  refine (Check_any l b _).mono ?_
  rw [HP1.out]
  rintro e w3 ⟨rfl, hf⟩
  have a0 := cell_fr' hf a0 (fun h => h)
  have a1 := cell_fr' hf a1 (fun h => h)
  have b0 := cell_fr' hf b0 (fun h => h)
  have b1 := cell_fr' hf b1 (fun h => h)
  have c0 := cell_fr' hf c0 (fun h => h)
  have c1 := cell_fr' hf c1 (fun h => h)
  have HF3 := Lib.hid (HF2.out.trans hf)
  clear hf HF2
  go_wp2_with fail
  refine (Check_any r d _).mono ?_
  rw [HP2.out]
  rintro e w4 ⟨rfl, hf⟩
  have a0 := cell_fr' hf a0 (fun h => h)
  have a1 := cell_fr' hf a1 (fun h => h)
  have b0 := cell_fr' hf b0 (fun h => h)
  have b1 := cell_fr' hf b1 (fun h => h)
  have c0 := cell_fr' hf c0 (fun h => h)
  have c1 := cell_fr' hf c1 (fun h => h)
  have HF4 := Lib.hid (HF3.out.trans hf)
  clear hf HF3
  go_wp2_with fail
  refine (Less_any l b l b _).mono ?_
  rw [HPQ.out]
  rintro e w5 ⟨rfl, hf⟩
  have a0 := cell_fr' hf a0 (fun h => h)
  have a1 := cell_fr' hf a1 (fun h => h)
  have b0 := cell_fr' hf b0 (fun h => h)
  have b1 := cell_fr' hf b1 (fun h => h)
  have c0 := cell_fr' hf c0 (fun h => h)
  have c1 := cell_fr' hf c1 (fun h => h)
  have HF5 := Lib.hid (HF4.out.trans hf)
  clear hf HF4
  go_wp2_with fail
  refine (Less_any l b l b _).mono ?_
  rw [HQP.out]
  rintro e w6 ⟨rfl, hf⟩
  have a0 := cell_fr' hf a0 (fun h => h)
  have a1 := cell_fr' hf a1 (fun h => h)
  have b0 := cell_fr' hf b0 (fun h => h)
  have b1 := cell_fr' hf b1 (fun h => h)
  have c0 := cell_fr' hf c0 (fun h => h)
  have c1 := cell_fr' hf c1 (fun h => h)
  have HF6 := Lib.hid (HF5.out.trans hf)
  clear hf HF5
  go_wp2_with fail
  refine (Less_any l b l b _).mono ?_
  rw [HPQ.out]
  rintro e w7 ⟨rfl, hf⟩
  have a0 := cell_fr' hf a0 (fun h => h)
  have a1 := cell_fr' hf a1 (fun h => h)
  have b0 := cell_fr' hf b0 (fun h => h)
  have b1 := cell_fr' hf b1 (fun h => h)
  have c0 := cell_fr' hf c0 (fun h => h)
  have c1 := cell_fr' hf c1 (fun h => h)
  have HF7 := Lib.hid (HF6.out.trans hf)
  clear hf HF6
  go_wp2_with fail
  refine (Covers_any l b l b _).mono ?_
  rw [HCV.out]
  rintro e w8 ⟨rfl, hf⟩
  have a0 := cell_fr' hf a0 (fun h => h)
  have a1 := cell_fr' hf a1 (fun h => h)
  have b0 := cell_fr' hf b0 (fun h => h)
  have b1 := cell_fr' hf b1 (fun h => h)
  have c0 := cell_fr' hf c0 (fun h => h)
  have c1 := cell_fr' hf c1 (fun h => h)
  have HF8 := Lib.hid (HF7.out.trans hf)
  clear hf HF7
  go_wp2
  go_ret
  exact ⟨rfl, HF8.out⟩
theorem PrefixOrder_all (f0 f1 f2 : Nat → Int) (w : World) (hT : Tab w) : Calls Tryd.prog 4 #[.agg #[.int .i64 (f0 0), .int .i64 (f0 1)], .agg #[.int .i64 (f1 0), .int .i64 (f1 1)], .agg #[.int .i64 (f2 0), .int .i64 (f2 1)]] w (BoolFr true w) := by
  generalize f0 0 = l, f0 1 = b, f1 0 = m, f1 1 = c, f2 0 = r, f2 1 = d
  by_cases hp : Tb.ok ⟨l, b⟩
  · by_cases hq : Tb.ok ⟨m, c⟩
    · by_cases hr : Tb.ok ⟨r, d⟩
      · have d0 := decide_eq_true hp
        have d1 := decide_eq_true hq
        have d2 := decide_eq_true hr
        have nirr := Tb.less_irrefl ⟨l, b⟩
        by_cases hpq : Tb.less ⟨l, b⟩ ⟨m, c⟩
        · have hqp : decide (Tb.less ⟨m, c⟩ ⟨l, b⟩) = false := decide_eq_false (Tb.less_asymm hpq)
          have hne : ¬ l = m ∨ l = m ∧ ¬ b = c := by
            by_cases e1 : l = m
            · exact .inr ⟨e1, fun e2 => by subst e1; subst e2; exact nirr hpq⟩
            · exact .inl e1
          by_cases hqr : Tb.less ⟨m, c⟩ ⟨r, d⟩
          · have hpr := decide_eq_true (Tb.less_trans hpq hqr)
            by_cases hcv : Tb.covers ⟨l, b⟩ ⟨m, c⟩
            · exact hne.elim (fun h => Order_pq_t_t_n1 l b m c r d w hT d0 d1 d2 (decide_eq_true hpq) hqp (decide_eq_true hqr) hpr (decide_eq_true hcv) h) (fun h => Order_pq_t_t_n2 l b m c r d w hT d0 d1 d2 (decide_eq_true hpq) hqp (decide_eq_true hqr) hpr (decide_eq_true hcv) h)
            · exact hne.elim (fun h => Order_pq_t_f_n1 l b m c r d w hT d0 d1 d2 (decide_eq_true hpq) hqp (decide_eq_true hqr) hpr (decide_eq_false hcv) h) (fun h => Order_pq_t_f_n2 l b m c r d w hT d0 d1 d2 (decide_eq_true hpq) hqp (decide_eq_true hqr) hpr (decide_eq_false hcv) h)
          · by_cases hcv : Tb.covers ⟨l, b⟩ ⟨m, c⟩
            · exact hne.elim (fun h => Order_pq_f_t_n1 l b m c r d w hT d0 d1 d2 (decide_eq_true hpq) hqp (decide_eq_false hqr) (decide_eq_true hcv) h) (fun h => Order_pq_f_t_n2 l b m c r d w hT d0 d1 d2 (decide_eq_true hpq) hqp (decide_eq_false hqr) (decide_eq_true hcv) h)
            · exact hne.elim (fun h => Order_pq_f_f_n1 l b m c r d w hT d0 d1 d2 (decide_eq_true hpq) hqp (decide_eq_false hqr) (decide_eq_false hcv) h) (fun h => Order_pq_f_f_n2 l b m c r d w hT d0 d1 d2 (decide_eq_true hpq) hqp (decide_eq_false hqr) (decide_eq_false hcv) h)
        · by_cases hqp : Tb.less ⟨m, c⟩ ⟨l, b⟩
          · have hne' : ¬ ((⟨l, b⟩ : Tb.Pf) = ⟨m, c⟩) := fun e => by rw [e] at hqp; exact Tb.less_irrefl _ hqp
            have hne : ¬ l = m ∨ l = m ∧ ¬ b = c := by
              by_cases e1 : l = m
              · exact .inr ⟨e1, fun e2 => by subst e1; subst e2; exact nirr hqp⟩
              · exact .inl e1
            have hcv : ¬ Tb.covers ⟨l, b⟩ ⟨m, c⟩ := fun h => hpq (covers_less h hne')
            exact hne.elim (fun h => Order_qp_n1 l b m c r d w hT d0 d1 d2 (decide_eq_false hpq) (decide_eq_true hqp) (decide_eq_false hcv) h) (fun h => Order_qp_n2 l b m c r d w hT d0 d1 d2 (decide_eq_false hpq) (decide_eq_true hqp) (decide_eq_false hcv) h)
          · have e := Tb.less_total hp hq hpq hqp
            have e1 : l = m ∧ b = c := by cases e; exact ⟨rfl, rfl⟩
            by_cases hcv : Tb.covers ⟨l, b⟩ ⟨m, c⟩
            · exact Order_eq_t l b m c r d w hT d0 d1 d2 (decide_eq_false hpq) (decide_eq_false hqp) (decide_eq_true hcv) e1
            · exact Order_eq_f l b m c r d w hT d0 d1 d2 (decide_eq_false hpq) (decide_eq_false hqp) (decide_eq_false hcv) e1
      · exact Order_no2 l b m c r d w hT (decide_eq_true hp) (decide_eq_true hq) (decide_eq_false hr)
    · exact Order_no1 l b m c r d w hT (decide_eq_true hp) (decide_eq_false hq)
  · exact Order_no0 l b m c r d w hT (decide_eq_false hp)
end Go.Proofs.YtglngngcohcmfaaDoor
