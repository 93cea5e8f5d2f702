/- The law PrefixBack: its walk. -/
import Derived.Test.YtglngngcohcmfaaDoorPf13
namespace Go.Proofs.YtglngngcohcmfaaDoor
open Go.RowKit Go.Deep

theorem told_txt (p : Tb.Pf) : told (Tb.txt p) = if Tb.ok p then some p else none := by
  by_cases h : Tb.ok p
  · rw [if_pos h]
    exact (told_iff _ _).2 ⟨h, rfl⟩
  · rw [if_neg h, Tb.txt_no h]
    exact told_none (fun q hq => Tb.tells_nil q hq)
def pairF (x y : Value) (i : Nat) : Value := if i = 0 then x else y
theorem pair_rowF (w : World) (x y : Value) (t : TypeId) : (w.alloc (.cells #[x, y] t)).rowIs w.heap.size t 2 (pairF x y) := by
  refine World.rowIs_alloc w #[x, y] t _ (fun i hi => ?_)
  have hi : i < 2 := hi
  have : i = 0 ∨ i = 1 := by omega
  rcases this with rfl | rfl <;> rfl
theorem pair_set {w : World} {b : Nat} {t : TypeId} {F : Nat → Value} (h : w.rowIs b t 2 F) (x y : Value) : ((w.setCell ⟨b, 0, none⟩ x).setCell ⟨b, 1, none⟩ y).rowIs b t 2 (pairF x y) :=
  World.rowIs.congr (World.rowIs.set (World.rowIs.set h 0 x) 1 y) (fun i hi => by
    have : i = 0 ∨ i = 1 := by omega
    rcases this with rfl | rfl
    · show (if (0 : Nat) = 1 then y else if (0 : Nat) = 0 then x else F 0) = x
      rw [if_neg (by decide), if_pos rfl]
    · show (if (1 : Nat) = 1 then y else _) = y
      rw [if_pos rfl])
theorem pair_0 {w : World} {b : Nat} {t : TypeId} {x y : Value} (h : w.rowIs b t 2 (pairF x y)) : w.cell? ⟨b, 0, none⟩ = some x := World.rowIs.cell h (i := 0) (by omega)
theorem pair_1 {w : World} {b : Nat} {t : TypeId} {x y : Value} (h : w.rowIs b t 2 (pairF x y)) : w.cell? ⟨b, 1, none⟩ = some y := World.rowIs.cell h (i := 1) (by omega)
def pfO (o : Option Tb.Pf) : Tb.Pf := o.getD ⟨0, 0⟩
theorem parse_raw (s : ByteArray) (w : World) (hs : s.size ≤ maxLen) : Calls Tryd.prog 9 #[.string s] w (RetFr (.tuple #[.agg #[.int .i64 (pfO (told s.data.toList)).len, .int .i64 (pfO (told s.data.toList)).bits], .bool (told s.data.toList).isSome]) w) := Parse_any s w hs
set_option maxRecDepth 100000 in
set_option maxHeartbeats 4000000 in
theorem Back_long (l b : Int) (s : ByteArray) (w : World) (hT : Tab w) (hs : 1000 < s.size) : Calls Tryd.prog 3 #[.agg #[.int .i64 l, .int .i64 b], .string s] w (BoolFr true w) := by
  have hb : decide ((1000 : Int) < (s.size : Int)) = true := by simp; omega
  have HT := Lib.hid hT; clear hT
  go_enter Tryd.func3, Tryd.ntmps3
  go_wp2_with fail
  refine (begun_any _ (HT.out.keep ((Fr.refl NoB w).alloc _))).mono ?_
  rintro e w1 ⟨rfl, hf⟩
  have HF1 := Lib.hid (((Fr.refl NoB w).alloc _).trans hf)
  clear hf
  go_wp2
  go_ret
  exact ⟨rfl, HF1.out⟩
set_option maxRecDepth 100000 in
set_option maxHeartbeats 4000000 in
theorem Back_ok_some (l b m c : Int) (s : ByteArray) (w : World) (hT : Tab w) (hs : s.size ≤ 1000) (hp : Tb.ok ⟨l, b⟩) (hq : told s.data.toList = some ⟨m, c⟩) : Calls Tryd.prog 3 #[.agg #[.int .i64 l, .int .i64 b], .string s] w (BoolFr true w) := by
  have hb : decide ((1000 : Int) < (s.size : Int)) = false := by simp; omega
  have hd : decide (Tb.ok ⟨l, b⟩) = true := by simp [hp]
  obtain ⟨S, hS⟩ : ∃ S : ByteArray, S = ⟨(Tb.txt ⟨l, b⟩).toArray⟩ := ⟨_, rfl⟩
  have hSd : S.data.toList = Tb.txt ⟨l, b⟩ := by rw [hS]
  have htx : ∀ W, Tab W → Calls Tryd.prog 10 #[.agg #[.int .i64 l, .int .i64 b]] W (RetFr (.string S) W) := fun W h => by rw [hS]; exact Text_any l b W h
  have hpa : ∀ W, Calls Tryd.prog 9 #[.string S] W (RetFr (.tuple #[.agg #[.int .i64 l, .int .i64 b], .bool true]) W) := fun W => by
    have h := parse_raw S W (by rw [ba_size, hSd]; have := Tb.txt_len ⟨l, b⟩; unfold maxLen; omega)
    rw [hSd, told_txt, if_pos hp] at h
    exact h
  have hpb : ∀ W, Calls Tryd.prog 9 #[.string s] W (RetFr (.tuple #[.agg #[.int .i64 m, .int .i64 c], .bool true]) W) := fun W => by
    have h := parse_raw s W (by unfold maxLen; omega)
    rw [hq] at h
    exact h
  have htl := (told_iff _ _).1 hq
  have hd2 : decide (Tb.ok ⟨m, c⟩) = true := decide_eq_true htl.1
  obtain ⟨U, hU⟩ : ∃ U : ByteArray, U = ⟨(Tb.txt ⟨m, c⟩).toArray⟩ := ⟨_, rfl⟩
  have hUs : (U.toList == s.toList) = true := by
    rw [toL, toL, hU, ← htl.2]
    simp
  have htu : ∀ W, Tab W → Calls Tryd.prog 10 #[.agg #[.int .i64 m, .int .i64 c]] W (RetFr (.string U) W) := fun W h => by rw [hU]; exact Text_any m c W h
  have HTL := Lib.hid htl; clear htl; have HD2 := Lib.hid hd2; clear hd2; have HU := Lib.hid hU; clear hU; have HTU := Lib.hid htu; clear htu
  have HT := Lib.hid hT; clear hT; have HD := Lib.hid hd; clear hd; have HS := Lib.hid hS; clear hS; have HSD := Lib.hid hSd; clear hSd; have HTX := Lib.hid htx; clear htx; have HPA := Lib.hid hpa; clear hpa; have HPB := Lib.hid hpb; clear hpb; have HP := Lib.hid hp; clear hp; have HQ := Lib.hid hq; clear hq
  go_enter Tryd.func3, Tryd.ntmps3
  go_wp2_with fail
  refine (begun_any _ (HT.out.keep ((Fr.refl NoB w).alloc _))).mono ?_
  rintro e w1 ⟨rfl, hf⟩
  have a0 := cell_fr' hf (box0 w (.int .i64 l) (.int .i64 b) 23) (fun h => h)
  have a1 := cell_fr' hf (box1 w (.int .i64 l) (.int .i64 b) 23) (fun h => h)
  have HF1 := Lib.hid (((Fr.refl NoB w).alloc _).trans hf)
  clear hf
  go_wp2_with fail
  refine (HTX.out _ (HT.out.keep HF1.out)).mono ?_
  rintro e w2 ⟨rfl, hf⟩
  have a0 := cell_fr' hf a0 (fun h => h)
  have a1 := cell_fr' hf a1 (fun h => h)
  have HF2 := Lib.hid (HF1.out.trans hf)
  clear hf HF1
  go_wp2_with fail
  refine (HPA.out _).mono ?_
  rintro e w3 ⟨rfl, hf⟩
  have a0 := cell_fr' hf a0 (fun h => h)
  have a1 := cell_fr' hf a1 (fun h => h)
  have HF3 := Lib.hid (HF2.out.trans hf)
  clear hf HF2
  go_upto_region 6 with fail
  refine wp_name fun w4 hw4 => ?_
  have a0 : w4.cell? ⟨w.heap.size, 0, none⟩ = some (.int .i64 l) := by rw [hw4]; exact cell_fr' ((Fr.refl NoB w3).alloc _) a0 (fun h => h)
  have a1 : w4.cell? ⟨w.heap.size, 1, none⟩ = some (.int .i64 b) := by rw [hw4]; exact cell_fr' ((Fr.refl NoB w3).alloc _) a1 (fun h => h)
  have hr : w4.rowIs w3.heap.size 23 2 (pairF (.int .i64 l) (.int .i64 b)) := by rw [hw4]; exact pair_rowF w3 _ _ _
  have hF4 : Fr NoB w w4 := by rw [hw4]; exact HF3.out.alloc _
  have HF4 := Lib.hid hF4
  clear hF4
  have hge : w.heap.size ≤ w3.heap.size := HF3.out.size
  clear hw4 HF3
  go_wp2_with fail
  refine (Check_any l b _).mono ?_
  rw [HD.out]
  rintro e w5 ⟨rfl, hf⟩
  have a0 := cell_fr' hf a0 (fun h => h)
  have a1 := cell_fr' hf a1 (fun h => h)
  have hr := hf.row hr (fun h => h)
  have q0 := pair_0 hr
  have q1 := pair_1 hr
  have HF5 := Lib.hid (HF4.out.trans hf)
  have HR := Lib.hid hr
  clear hf HF4 hr
  go_wp2_with fail
  refine (HPB.out _).mono ?_
  rintro e w6 ⟨rfl, hf⟩
  have hr := hf.row HR.out (fun h => h)
  have q0 := pair_0 hr
  have q1 := pair_1 hr
  have f0 := World.rowIs.frozen hr 0
  have f1 := World.rowIs.frozen hr 1
  have HF6 := Lib.hid (HF5.out.trans hf)
  have HR6 := Lib.hid hr
  clear hf HF5 hr HR
  go_upto_region 9 with fail
  refine wp_name fun w7 hw7 => ?_
  have hr : w7.rowIs w3.heap.size 23 2 (pairF (.int .i64 m) (.int .i64 c)) := by rw [hw7]; exact pair_set HR6.out _ _
  have hF7 : Fr NoB w w7 := by rw [hw7]; exact (HF6.out.setNew hge _ _).setNew hge _ _
  have HF7 := Lib.hid hF7
  clear hF7
  clear hw7 HF6 HR6 q0 q1 f0 f1
  have q0 := pair_0 hr
  have q1 := pair_1 hr
  have HR := Lib.hid hr
  clear hr
  go_wp2_with fail
  refine (Check_any m c _).mono ?_
  rw [HD2.out]
  rintro e w8 ⟨rfl, hf⟩
  have hr := hf.row HR.out (fun h => h)
  have q0 := pair_0 hr
  have q1 := pair_1 hr
  have HF8 := Lib.hid (HF7.out.trans hf)
  clear hf HF7 hr
  go_wp2_with fail
  refine (HTU.out _ (HT.out.keep HF8.out)).mono ?_
  rintro e w9 ⟨rfl, hf⟩
  have HF9 := Lib.hid (HF8.out.trans hf)
  clear hf HF8
  go_wp2
  go_ret
  exact ⟨rfl, HF9.out⟩
set_option maxRecDepth 100000 in
set_option maxHeartbeats 4000000 in
theorem Back_ok_none (l b : Int) (s : ByteArray) (w : World) (hT : Tab w) (hs : s.size ≤ 1000) (hp : Tb.ok ⟨l, b⟩) (hq : told s.data.toList = none) : Calls Tryd.prog 3 #[.agg #[.int .i64 l, .int .i64 b], .string s] w (BoolFr true w) := by
  have hb : decide ((1000 : Int) < (s.size : Int)) = false := by simp; omega
  have hd : decide (Tb.ok ⟨l, b⟩) = true := by simp [hp]
  obtain ⟨S, hS⟩ : ∃ S : ByteArray, S = ⟨(Tb.txt ⟨l, b⟩).toArray⟩ := ⟨_, rfl⟩
  have hSd : S.data.toList = Tb.txt ⟨l, b⟩ := by rw [hS]
  have htx : ∀ W, Tab W → Calls Tryd.prog 10 #[.agg #[.int .i64 l, .int .i64 b]] W (RetFr (.string S) W) := fun W h => by rw [hS]; exact Text_any l b W h
  have hpa : ∀ W, Calls Tryd.prog 9 #[.string S] W (RetFr (.tuple #[.agg #[.int .i64 l, .int .i64 b], .bool true]) W) := fun W => by
    have h := parse_raw S W (by rw [ba_size, hSd]; have := Tb.txt_len ⟨l, b⟩; unfold maxLen; omega)
    rw [hSd, told_txt, if_pos hp] at h
    exact h
  have hpb : ∀ W, Calls Tryd.prog 9 #[.string s] W (RetFr (.tuple #[.agg #[.int .i64 0, .int .i64 0], .bool false]) W) := fun W => by
    have h := parse_raw s W (by unfold maxLen; omega)
    rw [hq] at h
    exact h
  have HT := Lib.hid hT; clear hT; have HD := Lib.hid hd; clear hd; have HS := Lib.hid hS; clear hS; have HSD := Lib.hid hSd; clear hSd; have HTX := Lib.hid htx; clear htx; have HPA := Lib.hid hpa; clear hpa; have HPB := Lib.hid hpb; clear hpb; have HP := Lib.hid hp; clear hp; have HQ := Lib.hid hq; clear hq
  go_enter Tryd.func3, Tryd.ntmps3
  go_wp2_with fail
  refine (begun_any _ (HT.out.keep ((Fr.refl NoB w).alloc _))).mono ?_
  rintro e w1 ⟨rfl, hf⟩
  have a0 := cell_fr' hf (box0 w (.int .i64 l) (.int .i64 b) 23) (fun h => h)
  have a1 := cell_fr' hf (box1 w (.int .i64 l) (.int .i64 b) 23) (fun h => h)
  have HF1 := Lib.hid (((Fr.refl NoB w).alloc _).trans hf)
  clear hf
  go_wp2_with fail
  refine (HTX.out _ (HT.out.keep HF1.out)).mono ?_
  rintro e w2 ⟨rfl, hf⟩
  have a0 := cell_fr' hf a0 (fun h => h)
  have a1 := cell_fr' hf a1 (fun h => h)
  have HF2 := Lib.hid (HF1.out.trans hf)
  clear hf HF1
  go_wp2_with fail
  refine (HPA.out _).mono ?_
  rintro e w3 ⟨rfl, hf⟩
  have a0 := cell_fr' hf a0 (fun h => h)
  have a1 := cell_fr' hf a1 (fun h => h)
  have HF3 := Lib.hid (HF2.out.trans hf)
  clear hf HF2
  go_upto_region 6 with fail
  refine wp_name fun w4 hw4 => ?_
  have a0 : w4.cell? ⟨w.heap.size, 0, none⟩ = some (.int .i64 l) := by rw [hw4]; exact cell_fr' ((Fr.refl NoB w3).alloc _) a0 (fun h => h)
  have a1 : w4.cell? ⟨w.heap.size, 1, none⟩ = some (.int .i64 b) := by rw [hw4]; exact cell_fr' ((Fr.refl NoB w3).alloc _) a1 (fun h => h)
  have hr : w4.rowIs w3.heap.size 23 2 (pairF (.int .i64 l) (.int .i64 b)) := by rw [hw4]; exact pair_rowF w3 _ _ _
  have hF4 : Fr NoB w w4 := by rw [hw4]; exact HF3.out.alloc _
  have HF4 := Lib.hid hF4
  clear hF4
  have hge : w.heap.size ≤ w3.heap.size := HF3.out.size
  clear hw4 HF3
  go_wp2_with fail
  refine (Check_any l b _).mono ?_
  rw [HD.out]
  rintro e w5 ⟨rfl, hf⟩
  have a0 := cell_fr' hf a0 (fun h => h)
  have a1 := cell_fr' hf a1 (fun h => h)
  have hr := hf.row hr (fun h => h)
  have q0 := pair_0 hr
  have q1 := pair_1 hr
  have HF5 := Lib.hid (HF4.out.trans hf)
  have HR := Lib.hid hr
  clear hf HF4 hr
  go_wp2_with fail
  refine (HPB.out _).mono ?_
  rintro e w6 ⟨rfl, hf⟩
  have hr := hf.row HR.out (fun h => h)
  have q0 := pair_0 hr
  have q1 := pair_1 hr
  have f0 := World.rowIs.frozen hr 0
  have f1 := World.rowIs.frozen hr 1
  have HF6 := Lib.hid (HF5.out.trans hf)
  have HR6 := Lib.hid hr
  clear hf HF5 hr HR
  go_upto_region 9 with fail
  refine wp_name fun w7 hw7 => ?_
  have hr : w7.rowIs w3.heap.size 23 2 (pairF (.int .i64 0) (.int .i64 0)) := by rw [hw7]; exact pair_set HR6.out _ _
  have hF7 : Fr NoB w w7 := by rw [hw7]; exact (HF6.out.setNew hge _ _).setNew hge _ _
  have HF7 := Lib.hid hF7
  clear hF7
  clear hw7 HF6 HR6 q0 q1 f0 f1
  have q0 := pair_0 hr
  have q1 := pair_1 hr
  have HR := Lib.hid hr
  clear hr
  go_wp2
  go_ret
  exact ⟨rfl, HF7.out⟩
set_option maxRecDepth 100000 in
set_option maxHeartbeats 4000000 in
theorem Back_no_some (l b m c : Int) (s : ByteArray) (w : World) (hT : Tab w) (hs : s.size ≤ 1000) (hp : ¬ Tb.ok ⟨l, b⟩) (hq : told s.data.toList = some ⟨m, c⟩) : Calls Tryd.prog 3 #[.agg #[.int .i64 l, .int .i64 b], .string s] w (BoolFr true w) := by
  have hb : decide ((1000 : Int) < (s.size : Int)) = false := by simp; omega
  have hd : decide (Tb.ok ⟨l, b⟩) = false := by simp [hp]
  obtain ⟨S, hS⟩ : ∃ S : ByteArray, S = ⟨(Tb.txt ⟨l, b⟩).toArray⟩ := ⟨_, rfl⟩
  have hSd : S.data.toList = Tb.txt ⟨l, b⟩ := by rw [hS]
  have htx : ∀ W, Tab W → Calls Tryd.prog 10 #[.agg #[.int .i64 l, .int .i64 b]] W (RetFr (.string S) W) := fun W h => by rw [hS]; exact Text_any l b W h
  have hpa : ∀ W, Calls Tryd.prog 9 #[.string S] W (RetFr (.tuple #[.agg #[.int .i64 0, .int .i64 0], .bool false]) W) := fun W => by
    have h := parse_raw S W (by rw [ba_size, hSd]; have := Tb.txt_len ⟨l, b⟩; unfold maxLen; omega)
    rw [hSd, told_txt, if_neg hp] at h
    exact h
  have hpb : ∀ W, Calls Tryd.prog 9 #[.string s] W (RetFr (.tuple #[.agg #[.int .i64 m, .int .i64 c], .bool true]) W) := fun W => by
    have h := parse_raw s W (by unfold maxLen; omega)
    rw [hq] at h
    exact h
  have htl := (told_iff _ _).1 hq
  have hd2 : decide (Tb.ok ⟨m, c⟩) = true := decide_eq_true htl.1
  obtain ⟨U, hU⟩ : ∃ U : ByteArray, U = ⟨(Tb.txt ⟨m, c⟩).toArray⟩ := ⟨_, rfl⟩
  have hUs : (U.toList == s.toList) = true := by
    rw [toL, toL, hU, ← htl.2]
    simp
  have htu : ∀ W, Tab W → Calls Tryd.prog 10 #[.agg #[.int .i64 m, .int .i64 c]] W (RetFr (.string U) W) := fun W h => by rw [hU]; exact Text_any m c W h
  have HTL := Lib.hid htl; clear htl; have HD2 := Lib.hid hd2; clear hd2; have HU := Lib.hid hU; clear hU; have HTU := Lib.hid htu; clear htu
  have HT := Lib.hid hT; clear hT; have HD := Lib.hid hd; clear hd; have HS := Lib.hid hS; clear hS; have HSD := Lib.hid hSd; clear hSd; have HTX := Lib.hid htx; clear htx; have HPA := Lib.hid hpa; clear hpa; have HPB := Lib.hid hpb; clear hpb; have HP := Lib.hid hp; clear hp; have HQ := Lib.hid hq; clear hq
  go_enter Tryd.func3, Tryd.ntmps3
  go_wp2_with fail
  refine (begun_any _ (HT.out.keep ((Fr.refl NoB w).alloc _))).mono ?_
  rintro e w1 ⟨rfl, hf⟩
  have a0 := cell_fr' hf (box0 w (.int .i64 l) (.int .i64 b) 23) (fun h => h)
  have a1 := cell_fr' hf (box1 w (.int .i64 l) (.int .i64 b) 23) (fun h => h)
  have HF1 := Lib.hid (((Fr.refl NoB w).alloc _).trans hf)
  clear hf
  go_wp2_with fail
  refine (HTX.out _ (HT.out.keep HF1.out)).mono ?_
  rintro e w2 ⟨rfl, hf⟩
  have a0 := cell_fr' hf a0 (fun h => h)
  have a1 := cell_fr' hf a1 (fun h => h)
  have HF2 := Lib.hid (HF1.out.trans hf)
  clear hf HF1
  go_wp2_with fail
  refine (HPA.out _).mono ?_
  rintro e w3 ⟨rfl, hf⟩
  have a0 := cell_fr' hf a0 (fun h => h)
  have a1 := cell_fr' hf a1 (fun h => h)
  have HF3 := Lib.hid (HF2.out.trans hf)
  clear hf HF2
  go_upto_region 6 with fail
  refine wp_name fun w4 hw4 => ?_
  have a0 : w4.cell? ⟨w.heap.size, 0, none⟩ = some (.int .i64 l) := by rw [hw4]; exact cell_fr' ((Fr.refl NoB w3).alloc _) a0 (fun h => h)
  have a1 : w4.cell? ⟨w.heap.size, 1, none⟩ = some (.int .i64 b) := by rw [hw4]; exact cell_fr' ((Fr.refl NoB w3).alloc _) a1 (fun h => h)
  have hr : w4.rowIs w3.heap.size 23 2 (pairF (.int .i64 0) (.int .i64 0)) := by rw [hw4]; exact pair_rowF w3 _ _ _
  have hF4 : Fr NoB w w4 := by rw [hw4]; exact HF3.out.alloc _
  have HF4 := Lib.hid hF4
  clear hF4
  have hge : w.heap.size ≤ w3.heap.size := HF3.out.size
  clear hw4 HF3
  go_wp2_with fail
  refine (Check_any l b _).mono ?_
  rw [HD.out]
  rintro e w5 ⟨rfl, hf⟩
  have a0 := cell_fr' hf a0 (fun h => h)
  have a1 := cell_fr' hf a1 (fun h => h)
  have hr := hf.row hr (fun h => h)
  have q0 := pair_0 hr
  have q1 := pair_1 hr
  have HF5 := Lib.hid (HF4.out.trans hf)
  have HR := Lib.hid hr
  clear hf HF4 hr
  go_wp2_with fail
  refine (HPB.out _).mono ?_
  rintro e w6 ⟨rfl, hf⟩
  have hr := hf.row HR.out (fun h => h)
  have q0 := pair_0 hr
  have q1 := pair_1 hr
  have f0 := World.rowIs.frozen hr 0
  have f1 := World.rowIs.frozen hr 1
  have HF6 := Lib.hid (HF5.out.trans hf)
  have HR6 := Lib.hid hr
  clear hf HF5 hr HR
  go_upto_region 9 with fail
  refine wp_name fun w7 hw7 => ?_
  have hr : w7.rowIs w3.heap.size 23 2 (pairF (.int .i64 m) (.int .i64 c)) := by rw [hw7]; exact pair_set HR6.out _ _
  have hF7 : Fr NoB w w7 := by rw [hw7]; exact (HF6.out.setNew hge _ _).setNew hge _ _
  have HF7 := Lib.hid hF7
  clear hF7
  clear hw7 HF6 HR6 q0 q1 f0 f1
  have q0 := pair_0 hr
  have q1 := pair_1 hr
  have HR := Lib.hid hr
  clear hr
  go_wp2_with fail
  refine (Check_any m c _).mono ?_
  rw [HD2.out]
  rintro e w8 ⟨rfl, hf⟩
  have hr := hf.row HR.out (fun h => h)
  have q0 := pair_0 hr
  have q1 := pair_1 hr
  have HF8 := Lib.hid (HF7.out.trans hf)
  clear hf HF7 hr
  go_wp2_with fail
  refine (HTU.out _ (HT.out.keep HF8.out)).mono ?_
  rintro e w9 ⟨rfl, hf⟩
  have HF9 := Lib.hid (HF8.out.trans hf)
  clear hf HF8
  go_wp2
  go_ret
  exact ⟨rfl, HF9.out⟩
set_option maxRecDepth 100000 in
set_option maxHeartbeats 4000000 in
theorem Back_no_none (l b : Int) (s : ByteArray) (w : World) (hT : Tab w) (hs : s.size ≤ 1000) (hp : ¬ Tb.ok ⟨l, b⟩) (hq : told s.data.toList = none) : Calls Tryd.prog 3 #[.agg #[.int .i64 l, .int .i64 b], .string s] w (BoolFr true w) := by
  have hb : decide ((1000 : Int) < (s.size : Int)) = false := by simp; omega
  have hd : decide (Tb.ok ⟨l, b⟩) = false := by simp [hp]
  obtain ⟨S, hS⟩ : ∃ S : ByteArray, S = ⟨(Tb.txt ⟨l, b⟩).toArray⟩ := ⟨_, rfl⟩
  have hSd : S.data.toList = Tb.txt ⟨l, b⟩ := by rw [hS]
  have htx : ∀ W, Tab W → Calls Tryd.prog 10 #[.agg #[.int .i64 l, .int .i64 b]] W (RetFr (.string S) W) := fun W h => by rw [hS]; exact Text_any l b W h
  have hpa : ∀ W, Calls Tryd.prog 9 #[.string S] W (RetFr (.tuple #[.agg #[.int .i64 0, .int .i64 0], .bool false]) W) := fun W => by
    have h := parse_raw S W (by rw [ba_size, hSd]; have := Tb.txt_len ⟨l, b⟩; unfold maxLen; omega)
    rw [hSd, told_txt, if_neg hp] at h
    exact h
  have hpb : ∀ W, Calls Tryd.prog 9 #[.string s] W (RetFr (.tuple #[.agg #[.int .i64 0, .int .i64 0], .bool false]) W) := fun W => by
    have h := parse_raw s W (by unfold maxLen; omega)
    rw [hq] at h
    exact h
  have HT := Lib.hid hT; clear hT; have HD := Lib.hid hd; clear hd; have HS := Lib.hid hS; clear hS; have HSD := Lib.hid hSd; clear hSd; have HTX := Lib.hid htx; clear htx; have HPA := Lib.hid hpa; clear hpa; have HPB := Lib.hid hpb; clear hpb; have HP := Lib.hid hp; clear hp; have HQ := Lib.hid hq; clear hq
  go_enter Tryd.func3, Tryd.ntmps3
  go_wp2_with fail
  refine (begun_any _ (HT.out.keep ((Fr.refl NoB w).alloc _))).mono ?_
  rintro e w1 ⟨rfl, hf⟩
  have a0 := cell_fr' hf (box0 w (.int .i64 l) (.int .i64 b) 23) (fun h => h)
  have a1 := cell_fr' hf (box1 w (.int .i64 l) (.int .i64 b) 23) (fun h => h)
  have HF1 := Lib.hid (((Fr.refl NoB w).alloc _).trans hf)
  clear hf
  go_wp2_with fail
  refine (HTX.out _ (HT.out.keep HF1.out)).mono ?_
  rintro e w2 ⟨rfl, hf⟩
  have a0 := cell_fr' hf a0 (fun h => h)
  have a1 := cell_fr' hf a1 (fun h => h)
  have HF2 := Lib.hid (HF1.out.trans hf)
  clear hf HF1
  go_wp2_with fail
  refine (HPA.out _).mono ?_
  rintro e w3 ⟨rfl, hf⟩
  have a0 := cell_fr' hf a0 (fun h => h)
  have a1 := cell_fr' hf a1 (fun h => h)
  have HF3 := Lib.hid (HF2.out.trans hf)
  clear hf HF2
  go_upto_region 6 with fail
  refine wp_name fun w4 hw4 => ?_
  have a0 : w4.cell? ⟨w.heap.size, 0, none⟩ = some (.int .i64 l) := by rw [hw4]; exact cell_fr' ((Fr.refl NoB w3).alloc _) a0 (fun h => h)
  have a1 : w4.cell? ⟨w.heap.size, 1, none⟩ = some (.int .i64 b) := by rw [hw4]; exact cell_fr' ((Fr.refl NoB w3).alloc _) a1 (fun h => h)
  have hr : w4.rowIs w3.heap.size 23 2 (pairF (.int .i64 0) (.int .i64 0)) := by rw [hw4]; exact pair_rowF w3 _ _ _
  have hF4 : Fr NoB w w4 := by rw [hw4]; exact HF3.out.alloc _
  have HF4 := Lib.hid hF4
  clear hF4
  have hge : w.heap.size ≤ w3.heap.size := HF3.out.size
  clear hw4 HF3
  go_wp2_with fail
  refine (Check_any l b _).mono ?_
  rw [HD.out]
  rintro e w5 ⟨rfl, hf⟩
  have a0 := cell_fr' hf a0 (fun h => h)
  have a1 := cell_fr' hf a1 (fun h => h)
  have hr := hf.row hr (fun h => h)
  have q0 := pair_0 hr
  have q1 := pair_1 hr
  have HF5 := Lib.hid (HF4.out.trans hf)
  have HR := Lib.hid hr
  clear hf HF4 hr
  go_wp2_with fail
  refine (HPB.out _).mono ?_
  rintro e w6 ⟨rfl, hf⟩
  have hr := hf.row HR.out (fun h => h)
  have q0 := pair_0 hr
  have q1 := pair_1 hr
  have f0 := World.rowIs.frozen hr 0
  have f1 := World.rowIs.frozen hr 1
  have HF6 := Lib.hid (HF5.out.trans hf)
  have HR6 := Lib.hid hr
  clear hf HF5 hr HR
  go_upto_region 9 with fail
  refine wp_name fun w7 hw7 => ?_
  have hr : w7.rowIs w3.heap.size 23 2 (pairF (.int .i64 0) (.int .i64 0)) := by rw [hw7]; exact pair_set HR6.out _ _
  have hF7 : Fr NoB w w7 := by rw [hw7]; exact (HF6.out.setNew hge _ _).setNew hge _ _
  have HF7 := Lib.hid hF7
  clear hF7
  clear hw7 HF6 HR6 q0 q1 f0 f1
  have q0 := pair_0 hr
  have q1 := pair_1 hr
  have HR := Lib.hid hr
  clear hr
  go_wp2
  go_ret
  exact ⟨rfl, HF7.out⟩
theorem PrefixBack_all (f0 : Nat → Int) (s : ByteArray) (w : World) (hT : Tab w) : Calls Tryd.prog 3 #[.agg #[.int .i64 (f0 0), .int .i64 (f0 1)], .string s] w (BoolFr true w) := by
  by_cases hs : s.size ≤ 1000
  · by_cases hp : Tb.ok ⟨f0 0, f0 1⟩
    · cases hq : told s.data.toList with
      | none => exact Back_ok_none _ _ s w hT hs hp hq
      | some q => exact Back_ok_some _ _ q.len q.bits s w hT hs hp hq
    · cases hq : told s.data.toList with
      | none => exact Back_no_none _ _ s w hT hs hp hq
      | some q => exact Back_no_some _ _ q.len q.bits s w hT hs hp hq
  · exact Back_long _ _ s w hT (by omega)
end Go.Proofs.YtglngngcohcmfaaDoor
