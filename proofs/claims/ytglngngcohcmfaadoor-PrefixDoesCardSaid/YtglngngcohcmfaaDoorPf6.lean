/- Walks: prefix.Child, Parent. -/
import Derived.Test.YtglngngcohcmfaaDoorPf5
namespace Go.Proofs.YtglngngcohcmfaaDoor
open Go.RowKit Go.Deep

theorem or0 : ∀ n : Nat, n < 256 → bits BinOp.or IntKind.i64 ((n : Int) * 2) 0 = (n : Int) * 2 + 0 := by decide +kernel
theorem or1 : ∀ n : Nat, n < 256 → bits BinOp.or IntKind.i64 ((n : Int) * 2) 1 = (n : Int) * 2 + 1 := by decide +kernel
def pfA (p : Tb.Pf) : Value := .agg #[.int .i64 p.len, .int .i64 p.bits]
/-- A prefix, or none. -/
def PfOr (o : Option Tb.Pf) (w : World) (e : Ending) (w' : World) : Prop := e = .returned (.tuple #[pfA (o.getD ⟨0, 0⟩), .bool o.isSome]) ∧ Fr NoB w w'
theorem zero_row (w : World) (x y : Value) : ((w.alloc (.cells #[x, y] 23)).alloc (.cells (Array.replicate 2 (.int .i64 0)) 23)).rowIs (w.heap.size + 1) 23 2 (fun _ => .int .i64 0) := by
  have := rowIs_new (w.alloc (.cells #[x, y] 23)) 2 (.int .i64 0) 23
  have e : (w.alloc (.cells #[x, y] 23)).heap.size = w.heap.size + 1 := by simp
  rw [e] at this
  exact this
set_option maxRecDepth 100000 in
set_option maxHeartbeats 4000000 in
theorem Child0 (l b : Int) (w : World) (h : Tb.ok ⟨l, b⟩) (hl : l < 8) :
    Calls Tryd.prog 17 #[.agg #[.int .i64 l, .int .i64 b], .int .i64 0] w (PfOr (some (Tb.child ⟨l, b⟩ 0)) w) := by
  have hd := decide_eq_true h
  have h1 := h.1
  have h3 := h.2.2.1
  have h4 : b < 256 := Tb.bits_lt h
  dsimp only at h1 h3
  have hb8 : (l == 8) = false := by simp; omega
  have HD := Lib.hid hd; clear hd; have H := Lib.hid h; clear h
  obtain ⟨n, rfl⟩ := Int.eq_ofNat_of_zero_le h3
  have hor := or0 n (by omega)
  go_enter Tryd.func17, Tryd.ntmps17
  go_upto_region 1 with fail
  refine wp_name fun w1 hw1 => ?_
  have c0 : w1.cell? ⟨w.heap.size, 0, none⟩ = some (.int .i64 l) := by rw [hw1]; simp
  have c1 : w1.cell? ⟨w.heap.size, 1, none⟩ = some (.int .i64 n) := by rw [hw1]; simp
  have hF : Fr NoB w w1 := by rw [hw1]; (repeat (first | exact Fr.refl _ _ | refine Fr.alloc ?_ _ | refine Fr.setNew ?_ (by omega) _ _ | refine Fr.drewN ?_ _ | refine Fr.drew ?_))
  have hr : w1.rowIs (w.heap.size + 1) 23 2 (fun _ => .int .i64 0) := by
    rw [hw1]
    exact zero_row w _ _
  clear hw1
  have HF := Lib.hid hF; clear hF; have HR := Lib.hid hr; clear hr
  go_wp2_with fail
  refine (Check_any l n _).mono ?_
  rw [HD.out]
  rintro e w2 ⟨rfl, hf⟩
  have c0 := cell_fr' hf c0 (fun h => h)
  have c1 := cell_fr' hf c1 (fun h => h)
  have hr := hf.row HR.out (fun h => h)
  have z0 := World.rowIs.cell hr (i := 0) (by omega)
  have z1 := World.rowIs.cell hr (i := 1) (by omega)
  have f0 := World.rowIs.frozen hr 0
  have f1 := World.rowIs.frozen hr 1
  have HF2 := Lib.hid (HF.out.trans hf)
  clear hf hr
  go_wp2
  refine bodyPost_ret (v := .tuple #[pfA (Tb.child ⟨l, n⟩ 0), .bool true]) ?_ rfl (show PfOr (some (Tb.child ⟨l, n⟩ 0)) w (.returned (.tuple #[pfA (Tb.child ⟨l, n⟩ 0), .bool true])) _ from ⟨rfl, (HF2.out.setNew (Nat.le_succ _) _ _).setNew (Nat.le_succ _) _ _⟩)
  simp [results, Tryd.results17, go_sem, pfA, Tb.child, z0, z1]
set_option maxRecDepth 100000 in
set_option maxHeartbeats 4000000 in
theorem Child1 (l b : Int) (w : World) (h : Tb.ok ⟨l, b⟩) (hl : l < 8) :
    Calls Tryd.prog 17 #[.agg #[.int .i64 l, .int .i64 b], .int .i64 1] w (PfOr (some (Tb.child ⟨l, b⟩ 1)) w) := by
  have hd := decide_eq_true h
  have h1 := h.1
  have h3 := h.2.2.1
  have h4 : b < 256 := Tb.bits_lt h
  dsimp only at h1 h3
  have hb8 : (l == 8) = false := by simp; omega
  have HD := Lib.hid hd; clear hd; have H := Lib.hid h; clear h
  obtain ⟨n, rfl⟩ := Int.eq_ofNat_of_zero_le h3
  have hor := or1 n (by omega)
  go_enter Tryd.func17, Tryd.ntmps17
  go_upto_region 1 with fail
  refine wp_name fun w1 hw1 => ?_
  have c0 : w1.cell? ⟨w.heap.size, 0, none⟩ = some (.int .i64 l) := by rw [hw1]; simp
  have c1 : w1.cell? ⟨w.heap.size, 1, none⟩ = some (.int .i64 n) := by rw [hw1]; simp
  have hF : Fr NoB w w1 := by rw [hw1]; (repeat (first | exact Fr.refl _ _ | refine Fr.alloc ?_ _ | refine Fr.setNew ?_ (by omega) _ _ | refine Fr.drewN ?_ _ | refine Fr.drew ?_))
  have hr : w1.rowIs (w.heap.size + 1) 23 2 (fun _ => .int .i64 0) := by
    rw [hw1]
    exact zero_row w _ _
  clear hw1
  have HF := Lib.hid hF; clear hF; have HR := Lib.hid hr; clear hr
  go_wp2_with fail
  refine (Check_any l n _).mono ?_
  rw [HD.out]
  rintro e w2 ⟨rfl, hf⟩
  have c0 := cell_fr' hf c0 (fun h => h)
  have c1 := cell_fr' hf c1 (fun h => h)
  have hr := hf.row HR.out (fun h => h)
  have z0 := World.rowIs.cell hr (i := 0) (by omega)
  have z1 := World.rowIs.cell hr (i := 1) (by omega)
  have f0 := World.rowIs.frozen hr 0
  have f1 := World.rowIs.frozen hr 1
  have HF2 := Lib.hid (HF.out.trans hf)
  clear hf hr
  go_wp2
  refine bodyPost_ret (v := .tuple #[pfA (Tb.child ⟨l, n⟩ 1), .bool true]) ?_ rfl (show PfOr (some (Tb.child ⟨l, n⟩ 1)) w (.returned (.tuple #[pfA (Tb.child ⟨l, n⟩ 1), .bool true])) _ from ⟨rfl, (HF2.out.setNew (Nat.le_succ _) _ _).setNew (Nat.le_succ _) _ _⟩)
  simp [results, Tryd.results17, go_sem, pfA, Tb.child, z0, z1]
set_option maxRecDepth 100000 in
set_option maxHeartbeats 4000000 in
theorem Child_no1 (l b x : Int) (w : World) (h : ¬ Tb.ok ⟨l, b⟩) :
    Calls Tryd.prog 17 #[.agg #[.int .i64 l, .int .i64 b], .int .i64 x] w (PfOr none w) := by
  have hd := decide_eq_false h
  have HD := Lib.hid hd; clear hd; have H := Lib.hid h; clear h
  go_enter Tryd.func17, Tryd.ntmps17
  go_upto_region 1 with fail
  refine wp_name fun w1 hw1 => ?_
  have c0 : w1.cell? ⟨w.heap.size, 0, none⟩ = some (.int .i64 l) := by rw [hw1]; simp
  have c1 : w1.cell? ⟨w.heap.size, 1, none⟩ = some (.int .i64 b) := by rw [hw1]; simp
  have hF : Fr NoB w w1 := by rw [hw1]; (repeat (first | exact Fr.refl _ _ | refine Fr.alloc ?_ _ | refine Fr.setNew ?_ (by omega) _ _ | refine Fr.drewN ?_ _ | refine Fr.drew ?_))
  have hr : w1.rowIs (w.heap.size + 1) 23 2 (fun _ => .int .i64 0) := by
    rw [hw1]
    exact zero_row w _ _
  clear hw1
  have HF := Lib.hid hF; clear hF; have HR := Lib.hid hr; clear hr
  go_wp2_with fail
  refine (Check_any l b _).mono ?_
  rw [HD.out]
  rintro e w2 ⟨rfl, hf⟩
  have c0 := cell_fr' hf c0 (fun h => h)
  have c1 := cell_fr' hf c1 (fun h => h)
  have hr := hf.row HR.out (fun h => h)
  have z0 := World.rowIs.cell hr (i := 0) (by omega)
  have z1 := World.rowIs.cell hr (i := 1) (by omega)
  have f0 := World.rowIs.frozen hr 0
  have f1 := World.rowIs.frozen hr 1
  have HF2 := Lib.hid (HF.out.trans hf)
  clear hf hr
  go_wp2
  refine bodyPost_ret (v := .tuple #[pfA ⟨0, 0⟩, .bool false]) ?_ rfl (show PfOr (none) w (.returned (.tuple #[pfA ⟨0, 0⟩, .bool false])) _ from ⟨rfl, (HF2.out.setNew (Nat.le_succ _) _ _).setNew (Nat.le_succ _) _ _⟩)
  simp [results, Tryd.results17, go_sem, pfA, z0, z1]
set_option maxRecDepth 100000 in
set_option maxHeartbeats 4000000 in
theorem Child_no2 (b x : Int) (w : World) (h : Tb.ok ⟨8, b⟩) :
    Calls Tryd.prog 17 #[.agg #[.int .i64 8, .int .i64 b], .int .i64 x] w (PfOr none w) := by
  obtain ⟨l, hl⟩ : ∃ l : Int, l = 8 := ⟨_, rfl⟩
  rw [← hl] at h ⊢
  have hd := decide_eq_true h
  have hb8 : (l == 8) = true := by simp [hl]
  have HD := Lib.hid hd; clear hd; have H := Lib.hid h; clear h; have HL := Lib.hid hl; clear hl
  go_enter Tryd.func17, Tryd.ntmps17
  go_upto_region 1 with fail
  refine wp_name fun w1 hw1 => ?_
  have c0 : w1.cell? ⟨w.heap.size, 0, none⟩ = some (.int .i64 l) := by rw [hw1]; simp
  have c1 : w1.cell? ⟨w.heap.size, 1, none⟩ = some (.int .i64 b) := by rw [hw1]; simp
  have hF : Fr NoB w w1 := by rw [hw1]; (repeat (first | exact Fr.refl _ _ | refine Fr.alloc ?_ _ | refine Fr.setNew ?_ (by omega) _ _ | refine Fr.drewN ?_ _ | refine Fr.drew ?_))
  have hr : w1.rowIs (w.heap.size + 1) 23 2 (fun _ => .int .i64 0) := by
    rw [hw1]
    exact zero_row w _ _
  clear hw1
  have HF := Lib.hid hF; clear hF; have HR := Lib.hid hr; clear hr
  go_wp2_with fail
  refine (Check_any l b _).mono ?_
  rw [HD.out]
  rintro e w2 ⟨rfl, hf⟩
  have c0 := cell_fr' hf c0 (fun h => h)
  have c1 := cell_fr' hf c1 (fun h => h)
  have hr := hf.row HR.out (fun h => h)
  have z0 := World.rowIs.cell hr (i := 0) (by omega)
  have z1 := World.rowIs.cell hr (i := 1) (by omega)
  have f0 := World.rowIs.frozen hr 0
  have f1 := World.rowIs.frozen hr 1
  have HF2 := Lib.hid (HF.out.trans hf)
  clear hf hr
  go_wp2
  refine bodyPost_ret (v := .tuple #[pfA ⟨0, 0⟩, .bool false]) ?_ rfl (show PfOr (none) w (.returned (.tuple #[pfA ⟨0, 0⟩, .bool false])) _ from ⟨rfl, (HF2.out.setNew (Nat.le_succ _) _ _).setNew (Nat.le_succ _) _ _⟩)
  simp [results, Tryd.results17, go_sem, pfA, z0, z1]
set_option maxRecDepth 100000 in
set_option maxHeartbeats 4000000 in
theorem Child_no3 (l b x : Int) (w : World) (h : Tb.ok ⟨l, b⟩) (hl : l < 8) (hx : x < 0 ∨ 1 < x) :
    Calls Tryd.prog 17 #[.agg #[.int .i64 l, .int .i64 b], .int .i64 x] w (PfOr none w) := by
  have hd := decide_eq_true h
  have hb8 : (l == 8) = false := by simp; omega
  have key : decide (x < 0) = true ∨ decide (x < 0) = false ∧ decide (1 < x) = true := by
    rcases hx with h | h
    · exact .inl (decide_eq_true h)
    · by_cases h0 : x < 0
      · exact .inl (decide_eq_true h0)
      · exact .inr ⟨decide_eq_false h0, decide_eq_true h⟩
  have HD := Lib.hid hd; clear hd; have H := Lib.hid h; clear h
  clear hl hx
  rcases key with key | ⟨key0, key1⟩
  · go_enter Tryd.func17, Tryd.ntmps17
    go_upto_region 1 with fail
    refine wp_name fun w1 hw1 => ?_
    have c0 : w1.cell? ⟨w.heap.size, 0, none⟩ = some (.int .i64 l) := by rw [hw1]; simp
    have c1 : w1.cell? ⟨w.heap.size, 1, none⟩ = some (.int .i64 b) := by rw [hw1]; simp
    have hF : Fr NoB w w1 := by rw [hw1]; (repeat (first | exact Fr.refl _ _ | refine Fr.alloc ?_ _ | refine Fr.setNew ?_ (by omega) _ _ | refine Fr.drewN ?_ _ | refine Fr.drew ?_))
    have hr : w1.rowIs (w.heap.size + 1) 23 2 (fun _ => .int .i64 0) := by
      rw [hw1]
      exact zero_row w _ _
    clear hw1
    have HF := Lib.hid hF; clear hF; have HR := Lib.hid hr; clear hr
    go_wp2_with fail
    refine (Check_any l b _).mono ?_
    rw [HD.out]
    rintro e w2 ⟨rfl, hf⟩
    have c0 := cell_fr' hf c0 (fun h => h)
    have c1 := cell_fr' hf c1 (fun h => h)
    have hr := hf.row HR.out (fun h => h)
    have z0 := World.rowIs.cell hr (i := 0) (by omega)
    have z1 := World.rowIs.cell hr (i := 1) (by omega)
    have f0 := World.rowIs.frozen hr 0
    have f1 := World.rowIs.frozen hr 1
    have HF2 := Lib.hid (HF.out.trans hf)
    clear hf hr
    go_wp2
    refine bodyPost_ret (v := .tuple #[pfA ⟨0, 0⟩, .bool false]) ?_ rfl (show PfOr (none) w (.returned (.tuple #[pfA ⟨0, 0⟩, .bool false])) _ from ⟨rfl, (HF2.out.setNew (Nat.le_succ _) _ _).setNew (Nat.le_succ _) _ _⟩)
    simp [results, Tryd.results17, go_sem, pfA, z0, z1]
  · go_enter Tryd.func17, Tryd.ntmps17
    go_upto_region 1 with fail
    refine wp_name fun w1 hw1 => ?_
    have c0 : w1.cell? ⟨w.heap.size, 0, none⟩ = some (.int .i64 l) := by rw [hw1]; simp
    have c1 : w1.cell? ⟨w.heap.size, 1, none⟩ = some (.int .i64 b) := by rw [hw1]; simp
    have hF : Fr NoB w w1 := by rw [hw1]; (repeat (first | exact Fr.refl _ _ | refine Fr.alloc ?_ _ | refine Fr.setNew ?_ (by omega) _ _ | refine Fr.drewN ?_ _ | refine Fr.drew ?_))
    have hr : w1.rowIs (w.heap.size + 1) 23 2 (fun _ => .int .i64 0) := by
      rw [hw1]
      exact zero_row w _ _
    clear hw1
    have HF := Lib.hid hF; clear hF; have HR := Lib.hid hr; clear hr
    go_wp2_with fail
    refine (Check_any l b _).mono ?_
    rw [HD.out]
    rintro e w2 ⟨rfl, hf⟩
    have c0 := cell_fr' hf c0 (fun h => h)
    have c1 := cell_fr' hf c1 (fun h => h)
    have hr := hf.row HR.out (fun h => h)
    have z0 := World.rowIs.cell hr (i := 0) (by omega)
    have z1 := World.rowIs.cell hr (i := 1) (by omega)
    have f0 := World.rowIs.frozen hr 0
    have f1 := World.rowIs.frozen hr 1
    have HF2 := Lib.hid (HF.out.trans hf)
    clear hf hr
    go_wp2
    refine bodyPost_ret (v := .tuple #[pfA ⟨0, 0⟩, .bool false]) ?_ rfl (show PfOr (none) w (.returned (.tuple #[pfA ⟨0, 0⟩, .bool false])) _ from ⟨rfl, (HF2.out.setNew (Nat.le_succ _) _ _).setNew (Nat.le_succ _) _ _⟩)
    simp [results, Tryd.results17, go_sem, pfA, z0, z1]
/-- A prefix's child, if it has one. -/
def chOf (p : Tb.Pf) (x : Int) : Option Tb.Pf := if Tb.hasChild p x then some (Tb.child p x) else none
theorem Child_any (l b x : Int) (w : World) : Calls Tryd.prog 17 #[.agg #[.int .i64 l, .int .i64 b], .int .i64 x] w (PfOr (chOf ⟨l, b⟩ x) w) := by
  unfold chOf
  by_cases h : Tb.ok ⟨l, b⟩
  · by_cases hl : l < 8
    · by_cases h0 : x = 0
      · subst h0
        rw [if_pos ⟨h, hl, by decide, by decide⟩]
        exact Child0 l b w h hl
      · by_cases h1 : x = 1
        · subst h1
          rw [if_pos ⟨h, hl, by decide, by decide⟩]
          exact Child1 l b w h hl
        · rw [if_neg (fun k => by have := k.2.2; omega)]
          exact Child_no3 l b x w h hl (by omega)
    · have e : l = 8 := by have := h.2.1; dsimp only at this; omega
      subst e
      rw [if_neg (fun k => by have := k.2.1; dsimp only at this; omega)]
      exact Child_no2 b x w h
  · rw [if_neg (fun k => h k.1)]
    exact Child_no1 l b x w h
set_option maxRecDepth 100000 in
set_option maxHeartbeats 4000000 in
theorem Parent1 (l b : Int) (w : World) (h : Tb.ok ⟨l, b⟩) (hl : 0 < l) :
    Calls Tryd.prog 18 #[.agg #[.int .i64 l, .int .i64 b]] w (PfOr (some (Tb.parent ⟨l, b⟩)) w) := by
  have hd := decide_eq_true h
  have h1 := h.1
  have h2 := h.2.1
  have h3 := h.2.2.1
  have h4 : b < 256 := Tb.bits_lt h
  dsimp only at h1 h2 h3
  have hb0 : (l == 0) = false := by simp; omega
  have HD := Lib.hid hd; clear hd; have H := Lib.hid h; clear h
  go_enter Tryd.func18, Tryd.ntmps18
  go_upto_region 1 with fail
  refine wp_name fun w1 hw1 => ?_
  have c0 : w1.cell? ⟨w.heap.size, 0, none⟩ = some (.int .i64 l) := by rw [hw1]; simp
  have c1 : w1.cell? ⟨w.heap.size, 1, none⟩ = some (.int .i64 b) := by rw [hw1]; simp
  have hF : Fr NoB w w1 := by rw [hw1]; (repeat (first | exact Fr.refl _ _ | refine Fr.alloc ?_ _ | refine Fr.setNew ?_ (by omega) _ _ | refine Fr.drewN ?_ _ | refine Fr.drew ?_))
  have hr : w1.rowIs (w.heap.size + 1) 23 2 (fun _ => .int .i64 0) := by
    rw [hw1]
    exact zero_row w _ _
  clear hw1
  have HF := Lib.hid hF; clear hF; have HR := Lib.hid hr; clear hr
  go_wp2_with fail
  refine (Check_any l b _).mono ?_
  rw [HD.out]
  rintro e w2 ⟨rfl, hf⟩
  have c0 := cell_fr' hf c0 (fun h => h)
  have c1 := cell_fr' hf c1 (fun h => h)
  have hr := hf.row HR.out (fun h => h)
  have z0 := World.rowIs.cell hr (i := 0) (by omega)
  have z1 := World.rowIs.cell hr (i := 1) (by omega)
  have f0 := World.rowIs.frozen hr 0
  have f1 := World.rowIs.frozen hr 1
  have HF2 := Lib.hid (HF.out.trans hf)
  clear hf hr
  go_wp2
  refine bodyPost_ret (v := .tuple #[pfA (Tb.parent ⟨l, b⟩), .bool true]) ?_ rfl (show PfOr (some (Tb.parent ⟨l, b⟩)) w (.returned (.tuple #[pfA (Tb.parent ⟨l, b⟩), .bool true])) _ from ⟨rfl, (HF2.out.setNew (Nat.le_succ _) _ _).setNew (Nat.le_succ _) _ _⟩)
  simp [results, Tryd.results18, go_sem, pfA, Tb.parent, z0, z1]
set_option maxRecDepth 100000 in
set_option maxHeartbeats 4000000 in
theorem Parent_no1 (l b : Int) (w : World) (h : ¬ Tb.ok ⟨l, b⟩) :
    Calls Tryd.prog 18 #[.agg #[.int .i64 l, .int .i64 b]] w (PfOr none w) := by
  have hd := decide_eq_false h
  have HD := Lib.hid hd; clear hd; have H := Lib.hid h; clear h
  go_enter Tryd.func18, Tryd.ntmps18
  go_upto_region 1 with fail
  refine wp_name fun w1 hw1 => ?_
  have c0 : w1.cell? ⟨w.heap.size, 0, none⟩ = some (.int .i64 l) := by rw [hw1]; simp
  have c1 : w1.cell? ⟨w.heap.size, 1, none⟩ = some (.int .i64 b) := by rw [hw1]; simp
  have hF : Fr NoB w w1 := by rw [hw1]; (repeat (first | exact Fr.refl _ _ | refine Fr.alloc ?_ _ | refine Fr.setNew ?_ (by omega) _ _ | refine Fr.drewN ?_ _ | refine Fr.drew ?_))
  have hr : w1.rowIs (w.heap.size + 1) 23 2 (fun _ => .int .i64 0) := by
    rw [hw1]
    exact zero_row w _ _
  clear hw1
  have HF := Lib.hid hF; clear hF; have HR := Lib.hid hr; clear hr
  go_wp2_with fail
  refine (Check_any l b _).mono ?_
  rw [HD.out]
  rintro e w2 ⟨rfl, hf⟩
  have c0 := cell_fr' hf c0 (fun h => h)
  have c1 := cell_fr' hf c1 (fun h => h)
  have hr := hf.row HR.out (fun h => h)
  have z0 := World.rowIs.cell hr (i := 0) (by omega)
  have z1 := World.rowIs.cell hr (i := 1) (by omega)
  have f0 := World.rowIs.frozen hr 0
  have f1 := World.rowIs.frozen hr 1
  have HF2 := Lib.hid (HF.out.trans hf)
  clear hf hr
  go_wp2
  refine bodyPost_ret (v := .tuple #[pfA ⟨0, 0⟩, .bool false]) ?_ rfl (show PfOr (none) w (.returned (.tuple #[pfA ⟨0, 0⟩, .bool false])) _ from ⟨rfl, (HF2.out.setNew (Nat.le_succ _) _ _).setNew (Nat.le_succ _) _ _⟩)
  simp [results, Tryd.results18, go_sem, pfA, z0, z1]
set_option maxRecDepth 100000 in
set_option maxHeartbeats 4000000 in
theorem Parent_no2 (b : Int) (w : World) (h : Tb.ok ⟨0, b⟩) :
    Calls Tryd.prog 18 #[.agg #[.int .i64 0, .int .i64 b]] w (PfOr none w) := by
  obtain ⟨l, hl⟩ : ∃ l : Int, l = 0 := ⟨_, rfl⟩
  rw [← hl] at h ⊢
  have hd := decide_eq_true h
  have hb0 : (l == 0) = true := by simp [hl]
  have HD := Lib.hid hd; clear hd; have H := Lib.hid h; clear h; have HL := Lib.hid hl; clear hl
  go_enter Tryd.func18, Tryd.ntmps18
  go_upto_region 1 with fail
  refine wp_name fun w1 hw1 => ?_
  have c0 : w1.cell? ⟨w.heap.size, 0, none⟩ = some (.int .i64 l) := by rw [hw1]; simp
  have c1 : w1.cell? ⟨w.heap.size, 1, none⟩ = some (.int .i64 b) := by rw [hw1]; simp
  have hF : Fr NoB w w1 := by rw [hw1]; (repeat (first | exact Fr.refl _ _ | refine Fr.alloc ?_ _ | refine Fr.setNew ?_ (by omega) _ _ | refine Fr.drewN ?_ _ | refine Fr.drew ?_))
  have hr : w1.rowIs (w.heap.size + 1) 23 2 (fun _ => .int .i64 0) := by
    rw [hw1]
    exact zero_row w _ _
  clear hw1
  have HF := Lib.hid hF; clear hF; have HR := Lib.hid hr; clear hr
  go_wp2_with fail
  refine (Check_any l b _).mono ?_
  rw [HD.out]
  rintro e w2 ⟨rfl, hf⟩
  have c0 := cell_fr' hf c0 (fun h => h)
  have c1 := cell_fr' hf c1 (fun h => h)
  have hr := hf.row HR.out (fun h => h)
  have z0 := World.rowIs.cell hr (i := 0) (by omega)
  have z1 := World.rowIs.cell hr (i := 1) (by omega)
  have f0 := World.rowIs.frozen hr 0
  have f1 := World.rowIs.frozen hr 1
  have HF2 := Lib.hid (HF.out.trans hf)
  clear hf hr
  go_wp2
  refine bodyPost_ret (v := .tuple #[pfA ⟨0, 0⟩, .bool false]) ?_ rfl (show PfOr (none) w (.returned (.tuple #[pfA ⟨0, 0⟩, .bool false])) _ from ⟨rfl, (HF2.out.setNew (Nat.le_succ _) _ _).setNew (Nat.le_succ _) _ _⟩)
  simp [results, Tryd.results18, go_sem, pfA, z0, z1]
/-- A prefix's parent, if it has one. -/
def paOf (p : Tb.Pf) : Option Tb.Pf := if Tb.hasParent p then some (Tb.parent p) else none
theorem Parent_any (l b : Int) (w : World) : Calls Tryd.prog 18 #[.agg #[.int .i64 l, .int .i64 b]] w (PfOr (paOf ⟨l, b⟩) w) := by
  unfold paOf
  by_cases h : Tb.ok ⟨l, b⟩
  · by_cases hl : 0 < l
    · rw [if_pos ⟨h, hl⟩]
      exact Parent1 l b w h hl
    · have e : l = 0 := by have := h.1; dsimp only at this; omega
      subst e
      rw [if_neg (fun k => by have := k.2; dsimp only at this; omega)]
      exact Parent_no2 b w h
  · rw [if_neg (fun k => h k.1)]
    exact Parent_no1 l b w h
end Go.Proofs.YtglngngcohcmfaaDoor
