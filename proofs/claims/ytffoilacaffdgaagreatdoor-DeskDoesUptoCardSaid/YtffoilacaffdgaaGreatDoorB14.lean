/- Walks: a walk's Go. -/
import Derived.Test.YtffoilacaffdgaaGreatDoorB12
import Derived.Test.YtffoilacaffdgaaGreatDoorB13
import Derived.Test.YtffoilacaffdgaaGreatDoorB4
import Derived.Test.YtffoilacaffdgaaGreatDoorB2
import Derived.Test.YtffoilacaffdgaaGreatDoorB3
import Derived.Lib.AtoiErrMem
import Derived.Test.YtffoilacaffdgaaGreatDoorB8
import Derived.Test.YtffoilacaffdgaaGreatDoorB6
import Derived.Test.YtffoilacaffdgaaGreatDoorB1
set_option maxRecDepth 100000
set_option maxHeartbeats 8000000
namespace Go.Proofs.YtffoilacaffdgaaGreatDoor
open Go.RowKit Go.Deep
def trF (nv : Value) (c e : Int) (i : Nat) : Value := if i = 0 then nv else if i = 1 then .int .i64 c else .int .i64 e
def GoPost (R : List Int × Int × Int) (w : World) (e : Ending) (w' : World) : Prop :=
 ∃ nv, e = .returned (.agg #[nv, .int .i64 R.2.1, .int .i64 R.2.2]) ∧ Sl w' w.heap.size nv R.1 ∧ Fr NoB w w'
theorem CostN_any (b : Nat) (x y : Int) (C : Nat → Nat → Int) (w : World) (hC : CAt w b 140 C) :
  Calls Tryz.prog 121 #[.pointer (some ⟨b, 0, none⟩), .int .i64 x, .int .i64 y] w fun e w' => e = .returned (.int .i64 (Wk.costN C x y)) ∧ w = w' := by
 by_cases h : 0 ≤ x ∧ x < 6 ∧ 0 ≤ y ∧ y < 6
 ·obtain ⟨a, rfl⟩ := Int.eq_ofNat_of_zero_le h.1
  obtain ⟨c, rfl⟩ := Int.eq_ofNat_of_zero_le h.2.2.1
  have e : Wk.costN C a c = C a c := by unfold Wk.costN; rw [if_pos h, Int.toNat_natCast, Int.toNat_natCast]
  rw [e];exact Cost_yes b a c C w (by omega) (by omega) hC
 have e : Wk.costN C x y = 0 := by unfold Wk.costN; rw [if_neg h]
 rw [e]
 exact Cost_no b x y w h
theorem tr_cells {w : World} {tb : Nat} {t : TypeId} {nv : Value} {c e : Int} (h : w.rowIs tb t 3 (trF nv c e)) : w.cell? ⟨tb, 0, none⟩ = some nv ∧ w.cell? ⟨tb, 1, none⟩ = some (.int .i64 c) ∧ w.cell? ⟨tb, 2, none⟩ = some (.int .i64 e) :=
 ⟨rC h (i := 0) (by omega), rC h (i := 1) (by omega), rC h (i := 2) (by omega)⟩
theorem tr_set {w : World} {tb : Nat} {t : TypeId} {f : Nat → Value} {nv : Value} {c e : Int} (h : w.rowIs tb t 3 f) : (((w.setCell ⟨tb, 0, none⟩ nv).setCell ⟨tb, 1, none⟩ (.int .i64 c)).setCell ⟨tb, 2, none⟩ (.int .i64 e)).rowIs tb t 3 (trF nv c e) := by
 refine (World.rowIs.set (World.rowIs.set (World.rowIs.set h 0 nv) 1 (.int .i64 c)) 2 (.int .i64 e)).congr (fun i hi => ?_)
 match i, hi with
 | 0, _ => rfl
 | 1, _ => rfl
 | 2, _ => rfl
theorem tr_end {w : World} {tb : Nat} {t : TypeId} {nv : Value} {c e e' : Int} (h : w.rowIs tb t 3 (trF nv c e)) : (w.setCell ⟨tb, 2, none⟩ (.int .i64 e')).rowIs tb t 3 (trF nv c e') := by
 refine (World.rowIs.set h 2 (.int .i64 e')).congr (fun i hi => ?_)
 match i, hi with
 | 0, _ => rfl
 | 1, _ => rfl
 | 2, _ => rfl
theorem tr_cost {w : World} {tb : Nat} {t : TypeId} {nv : Value} {c c' e : Int} (h : w.rowIs tb t 3 (trF nv c e)) : (w.setCell ⟨tb, 1, none⟩ (.int .i64 c')).rowIs tb t 3 (trF nv c' e) := by
 refine (World.rowIs.set h 1 (.int .i64 c')).congr (fun i hi => ?_)
 match i, hi with
 | 0, _ => rfl
 | 1, _ => rfl
 | 2, _ => rfl
theorem tr_nodes {w : World} {tb : Nat} {t : TypeId} {nv nv' : Value} {c e : Int} (h : w.rowIs tb t 3 (trF nv c e)) : (w.setCell ⟨tb, 0, none⟩ nv').rowIs tb t 3 (trF nv' c e) := by
 refine (World.rowIs.set h 0 nv').congr (fun i hi => ?_)
 match i, hi with
 | 0, _ => rfl
 | 1, _ => rfl
 | 2, _ => rfl
def TripRel (h : Int → Int) (C : Nat → Nat → Int) (R : List Int × Int × Int) (w : World) (tb rb : Nat) (g : Nat) (pv : Value) (wr : World) : Prop :=
 ∃ (out : List Int) (c p : Int) (nv : Value), pv = .int .i64 p ∧ Wk.tripF h C g out c p = R ∧ out.Nodup ∧ (∀ y ∈ out, Nt.isN y) ∧ out.length + g = 7 ∧ 0 ≤ c ∧ c ≤ 15 * (out.length : Int) ∧
  Sl wr w.heap.size nv out ∧ wr.rowIs tb 156 3 (trF nv c (-1)) ∧ wr.rowIs rb 156 3 (trF (.slice none 0 0) 0 0) ∧ Fr NoB w wr
theorem WGo_any (b : Nat) (T : Nat → Nat) (V : Nat → Value) (L : Nat → List Tb.Rt) (q : PIds) (v tv : Value) (s : Fb.PT) (h : Int → Int) (src a : Int) (w : World) (hw : WkAt w b q.p T V L) (hp : PAt w q v tv s) (hC : Lk.CostOK s.t.C)
  (hL : ∀ k, k < 6 → (L k).length ≤ 1000 ∧ Tb.look (L k) a = h k) :
  Calls Tryz.prog 82 #[.pointer (some ⟨b, 0, none⟩), .int .i64 src, .int .i64 a] w (GoPost (Wk.tripT h s.t.C src) w) := by
 have hr : Wk.tripF h s.t.C 7 [] 0 src = Wk.tripT h s.t.C src := rfl
 generalize Wk.tripT h s.t.C src = R at *
 have HW := zh hw; clear hw; have HP := zh hp; clear hp; have HL := zh hL; clear hL; have HR := zh hr; clear hr; have HC := zh hC; clear hC
 go_enter Tryz.func82, Tryz.ntmps82
 go_wp2
 refine wp_name fun w2 hw2 => ?_
 have hf : Fr NoB w w2 := by rw [hw2]; exact ((Fr.refl _ _).alloc _).alloc _
 have hrb : w2.rowIs w.heap.size 156 3 (trF (.slice none 0 0) 0 0) := by
  rw [hw2]
  have h1 : (w.alloc (.cells #[.slice none 0 0, .int .i64 0, .int .i64 0] 156)).rowIs w.heap.size 156 3 (trF (.slice none 0 0) 0 0) := World.rowIs_alloc w _ _ _ (fun i hi => by
   match i, hi with
   | 0, _ => rfl
   | 1, _ => rfl
   | 2, _ => rfl)
  exact ((Fr.refl NoB _).alloc _).row h1 (fun h => h)
 have htb : w2.rowIs (w.heap.size + 1) 156 3 (trF (.slice none 0 0) 0 (-1)) := by
  rw [hw2]
  have h1 := World.rowIs_alloc (w.alloc (.cells #[.slice none 0 0, .int .i64 0, .int .i64 0] 156)) #[.slice none 0 0, .int .i64 0, .int .i64 (-1)] 156 (trF (.slice none 0 0) 0 (-1)) (fun i hi => by
   match i, hi with
   | 0, _ => rfl
   | 1, _ => rfl
   | 2, _ => rfl)
  have e : (w.alloc (.cells #[.slice none 0 0, .int .i64 0, .int .i64 0] 156)).heap.size = w.heap.size + 1 := by simp
  rw [e] at h1;exact h1
 clear hw2
 obtain ⟨rb, hrbe⟩ : ∃ rb, rb = w.heap.size := ⟨_, rfl⟩
 have hz : w.heap.size ≤ rb := by omega
 rw [← hrbe] at hrb htb ⊢
 clear hrbe
 obtain ⟨tb, htbe⟩ : ∃ tb, tb = rb + 1 := ⟨_, rfl⟩
 have hz2 : w.heap.size ≤ tb ∧ tb ≠ rb := by omega
 rw [← htbe] at htb ⊢
 clear htbe
 have HF := zh hf; clear hf; have HRB := zh hrb; clear hrb; have HTB := zh htb; clear htb; have HZ := zh hz; clear hz; have HZ2 := zh hz2; clear hz2
 go_loopg [8] 7 (fun g pv wr => TripRel h s.t.C R w tb rb g pv wr)
 case atStart => exact ⟨[], 0, src, .slice none 0 0, rfl, HR.out, List.nodup_nil, fun y hy => by (cases hy), rfl, by omega, by simp, Sl.nil _ _, HTB.out, HRB.out, HF.out⟩
 case round =>
  clear HR HF HRB HTB;obtain ⟨out, c, p, nv, rfl, hr, hnd, hall, hlen, hc0, hc1, ho, ht, hrr, hf⟩ := hrel
  have h6 : out.length ≤ 6 := nodup_len 6 out hnd (fun y hy => hall y hy)
  obtain ⟨al, nc, rfl, jj⟩ := ownsRow_rd ho
  clear jj;obtain ⟨t0, t1, t2⟩ := tr_cells ht
  obtain ⟨r0, r1, r2⟩ := tr_cells hrr
  have tf := fun i => rF ht i
  have rf := fun i => rF hrr i
  have tf0 := tf 0
  have tf1 := tf 1
  have tf2 := tf 2
  have rf0 := rf 0
  have rf1 := rf 1
  have rf2 := rf 2
  clear tf rf;have HR := zh hr; clear hr; have HND := zh hnd; clear hnd; have HALL := zh hall; clear hall; have HLEN := zh hlen; clear hlen; have HO := zh ho; clear ho; have HF := zh hf; clear hf; have H6 := zh h6; clear h6; have HT := zh ht; clear ht; have HRR := zh hrr; clear hrr; have HC0 := zh hc0; clear hc0; have HC1 := zh hc1; clear hc1
  obtain ⟨f, rfl⟩ : ∃ f, gk = f + 1 := ⟨gk - 1, by have := HLEN.out; have := H6.out; omega⟩
  have hr2 := HR.out
  by_cases hp : Nt.isN p
  ·by_cases hm : p ∈ out
   ·have hmd : decide (p ∈ out) = true := by simp [hm]
    rw [Wk.tripF, if_pos hp, if_pos hm] at hr2;clear HR hm
    subst hr2;obtain ⟨p0, p1⟩ := hp
    have P0 := zh p0; clear p0; have P1 := zh p1; clear p1;go_wp2_with fail
    refine (Node_yes _ _ P0.out P1.out).mono ?_; rintro e w' ⟨rfl, rfl⟩
    go_wp2_with fail;refine (Contains_any w.heap.size _ out p _ (by have := H6.out; omega) HO.out).mono ?_
    rintro e w' ⟨rfl, rfl⟩
    go_upto_region 6 with fail
    refine wp_name fun w3 hw3 => ?_
    have hts : Fr (OneB tb) wr w3 := by rw [hw3]; exact (Fr.refl _ _).set1 _ _
    have ht3 : w3.rowIs tb 156 3 (trF (.slice al out.length nc) c (-2)) := by rw [hw3]; exact tr_end HT.out
    have hr3 := hts.row HRR.out (fun e => HZ2.out.2 e.symm)
    have ho3 : Sl w3 w.heap.size (.slice al out.length nc) out := own_keep HO.out hts (fun g hg e => row_own_apart HT.out HO.out (by decide) (by cases e; exact hg))
    have hf3 : Fr NoB w w3 := by rw [hw3]; exact HF.out.setNew HZ2.out.1 _ _
    clear hw3 hts HT HRR HO HF t0 t1 t2 r0 r1 r2 tf0 tf1 tf2 rf0 rf1 rf2;obtain ⟨t0, t1, t2⟩ := tr_cells ht3
    obtain ⟨r0, r1, r2⟩ := tr_cells hr3
    have rf0 := rF hr3 0
    have rf1 := rF hr3 1
    have rf2 := rF hr3 2
    have HO := zh ho3; clear ho3; have HRR := zh hr3; clear hr3; have HF := zh hf3; clear hf3;go_wp2
    refine bodyPost_ret (v := .agg #[.slice al out.length nc, .int .i64 (c), .int .i64 (-2)]) ?_ rfl ⟨_, rfl, own_keep HO.out (((Fr.refl (OneB rb) w3).set1 _ _).set1 _ _ |>.set1 _ _) (fun g hg e => row_own_apart HRR.out HO.out (by decide) (by cases e; exact hg)), ((HF.out.setNew HZ.out _ _).setNew HZ.out _ _).setNew HZ.out _ _⟩
    have hR := tr_set (nv := .slice al out.length nc) (c := c) (e := -2) HRR.out
    obtain ⟨s0, s1, s2⟩ := tr_cells hR
    clear hR;generalize (((w3.setCell ⟨rb, 0, none⟩ (.slice al out.length nc)).setCell ⟨rb, 1, none⟩ (.int .i64 (c))).setCell ⟨rb, 2, none⟩ (.int .i64 (-2))) = W5 at *
    simp [results, Tryz.results82, go_sem, s0, s1, s2]
   have hmd : decide (p ∈ out) = false := by simp [hm]
   rw [Wk.tripF, if_pos hp, if_neg hm] at hr2;have hp' := hp
   obtain ⟨p0, p1⟩ := hp'
   obtain ⟨k, rfl⟩ := Int.eq_ofNat_of_zero_le p0
   have hk : k < 6 := by omega
   clear HR p0 p1;have HR := zh hr2; clear hr2; have HM := zh hm; clear hm; have HPN := zh hp; clear hp
   go_wp2_with fail;refine (Node_yes _ _ (by omega) (by omega)).mono ?_; rintro e w' ⟨rfl, rfl⟩
   go_wp2_with fail;refine (Contains_any w.heap.size _ out k _ (by have := H6.out; omega) HO.out).mono ?_
   rintro e w' ⟨rfl, rfl⟩
   go_wp2_with (at_builtin; refine app_int' rfl (.tmp 21) (.tmp 23) 76 rfl Tryz.underlying76 Tryz.info3 w.heap.size (.slice al out.length nc) out rfl (HO.out.alloc _) ⟨wr.heap.size, 0, none⟩ k rfl (by simp) ?h1 ?h2 ?_)
   case h1 => have := H6.out; omega
   case h2 => have := HF.out.size; simp; omega
   ·intro v' w6 h1 h2;have hal : Fr NoB wr (wr.alloc (.cells #[.int .i64 k] 3)) := (Fr.refl _ _).alloc _
    have hown := oA HO.out (.cells #[.int .i64 k] 3)
    have ht6 := h2.row (hal.row HT.out (fun h => h)) (row_own_apart (hal.row HT.out (fun h => h)) hown (by decide))
    have hr6 := h2.row (hal.row HRR.out (fun h => h)) (row_own_apart (hal.row HRR.out (fun h => h)) hown (by decide))
    have hf6 : Fr NoB w w6 := (HF.out.alloc _).ownB hown (Nat.le_refl _) h2
    obtain ⟨al6, nc6, rfl, jj⟩ := ownsRow_rd h1
    have e6 : (out ++ [(k : Int)]).length = out.length + 1 := by simp
    rw [e6] at h1 ⊢
    clear e6;clear jj h2 hown hal HF HO HT HRR t0 t1 t2 r0 r1 r2 tf0 tf1 tf2 rf0 rf1 rf2
    obtain ⟨t0, t1, t2⟩ := tr_cells ht6
    have tf0 := rF ht6 0
    have HO := zh h1; clear h1; have HT6 := zh ht6; clear ht6; have HRR := zh hr6; clear hr6; have HF := zh hf6; clear hf6;go_upto_region 8 with fail
    refine wp_name fun w7 hw7 => ?_
    have hts : Fr (OneB tb) w6 w7 := by rw [hw7]; exact (Fr.refl _ _).set1 _ _
    have ht7 : w7.rowIs tb 156 3 (trF (.slice al6 (out.length + 1) nc6) c (-1)) := by rw [hw7]; exact tr_nodes HT6.out
    have hr7 := hts.row HRR.out (fun e => HZ2.out.2 e.symm)
    have ho7 : Sl w7 w.heap.size (.slice al6 (out.length + 1) nc6) (out ++ [(k : Int)]) := own_keep HO.out hts (fun g hg e => row_own_apart HT6.out HO.out (by decide) (by cases e; exact hg))
    have hf7 : Fr NoB w w7 := by rw [hw7]; exact HF.out.setNew HZ2.out.1 _ _
    clear hw7 hts HT6 HRR HO HF t0 t1 t2 tf0;have cT := (HW.out.keep0 hf7).cT hk
    have hkb : (k : Int) < 6 := by omega
    obtain ⟨hl1, hl2⟩ := HL.out k hk
    have HO := zh ho7; clear ho7; have HT := zh ht7; clear ht7; have HRR := zh hr7; clear hr7; have HF := zh hf7; clear hf7; have HL1 := zh hl1; clear hl1; have HL2 := zh hl2; clear hl2;go_wp2_with fail
    refine (LookT_any (T k) (V k) (L k) a _ HL1.out ((HW.out.keep0 HF.out).tab k hk)).mono ?_
    rw [HL2.out];rintro e w8 ⟨rfl, hf⟩
    have HT8 := zh (hf.row HT.out (fun h => h))
    have HR8 := zh (hf.row HRR.out (fun h => h))
    have HO8 : Hid (Sl w8 w.heap.size (.slice al6 (out.length + 1) nc6) (out ++ [(k : Int)])) := own_keep HO.out hf (fun _ _ h => h)
    have HF8 := zh (HF.out.trans hf)
    clear HT HRR HO HF hf cT;have hr3 := HR.out
    clear HR;by_cases hh : h k = k
    ·rw [if_pos hh] at hr3;subst hr3
     have hhb : (h k == (k : Int)) = true := by simpa using hh
     have tf2 := rF HT8.out 2
     obtain ⟨t0, t1, t2⟩ := tr_cells HT8.out
     clear hh;go_upto_region 11 with fail
     refine wp_name fun w9 hw9 => ?_
     have hts : Fr (OneB tb) w8 w9 := by rw [hw9]; exact (Fr.refl _ _).set1 _ _
     have ht9 : w9.rowIs tb 156 3 (trF (.slice al6 (out.length + 1) nc6) c k) := by rw [hw9]; exact tr_end HT8.out
     have hr9 := hts.row HR8.out (fun e => HZ2.out.2 e.symm)
     have ho9 : Sl w9 w.heap.size (.slice al6 (out.length + 1) nc6) (out ++ [(k : Int)]) := own_keep HO8.out hts (fun g hg e => row_own_apart HT8.out HO8.out (by decide) (by cases e; exact hg))
     have hf9 : Fr NoB w w9 := by rw [hw9]; exact HF8.out.setNew HZ2.out.1 _ _
     clear hw9 hts HT8 HR8 HO8 HF8 t0 t1 t2 tf2;obtain ⟨t0, t1, t2⟩ := tr_cells ht9
     obtain ⟨r0, r1, r2⟩ := tr_cells hr9
     have rf0 := rF hr9 0
     have rf1 := rF hr9 1
     have rf2 := rF hr9 2
     have HO := zh ho9; clear ho9; have HRR := zh hr9; clear hr9; have HF := zh hf9; clear hf9;go_wp2
     refine bodyPost_ret (v := .agg #[.slice al6 (out.length + 1) nc6, .int .i64 (c), .int .i64 (k)]) ?_ rfl ⟨_, rfl, own_keep HO.out (((Fr.refl (OneB rb) w9).set1 _ _).set1 _ _ |>.set1 _ _) (fun g hg e => row_own_apart HRR.out HO.out (by decide) (by cases e; exact hg)), ((HF.out.setNew HZ.out _ _).setNew HZ.out _ _).setNew HZ.out _ _⟩
     have hR := tr_set (nv := .slice al6 (out.length + 1) nc6) (c := c) (e := k) HRR.out
     obtain ⟨s0, s1, s2⟩ := tr_cells hR
     clear hR;generalize (((w9.setCell ⟨rb, 0, none⟩ (.slice al6 (out.length + 1) nc6)).setCell ⟨rb, 1, none⟩ (.int .i64 (c))).setCell ⟨rb, 2, none⟩ (.int .i64 (k))) = W5 at *
     simp [results, Tryz.results82, go_sem, s0, s1, s2]
    rw [if_neg hh] at hr3;have hhb : (h k == (k : Int)) = false := by simpa using hh
    have hcn : 0 ≤ Wk.costN s.t.C k (h k) ∧ Wk.costN s.t.C k (h k) ≤ 15 := by
     unfold Wk.costN;split
     ·rename_i hi
      have h1 := HC.out.lo (k : Int).toNat (h k).toNat (by omega) (by omega)
      have h2 := HC.out.hi (k : Int).toNat (h k).toNat (by omega) (by omega)
      omega
     omega
    have hcall := fun W (hW : Fr NoB w W) => CostN_any q.x.L k (h k) s.t.C W ((HP.out.keep0 hW).net.links)
    have c0 := (HW.out.keep0 HF8.out).c0
    have p0 := (HP.out.keep0 HF8.out).p0
    have n0 := (HP.out.keep0 HF8.out).net.c0
    have tf1 := rF HT8.out 1
    obtain ⟨t0, t1, t2⟩ := tr_cells HT8.out
    generalize hcd : Wk.costN s.t.C k (h k) = d at *;generalize h k = hop at *
    have hc0 := HC0.out
    have hc1 := HC1.out
    have hc6 := H6.out
    have hwr : IntKind.i64.wrap (c + d) = c + d := by simp [IntKind.wrap, IntKind.signed, IntKind.bits]; omega
    have hfin : ∀ n : Nat, TripRel h s.t.C R w tb rb f (.int .i64 hop) ((w8.drewN n).setCell ⟨tb, 1, none⟩ (.int .i64 (c + d))) := fun n => by
     have hts : Fr (OneB tb) w8 ((w8.drewN n).setCell ⟨tb, 1, none⟩ (.int .i64 (c + d))) := ((Fr.refl _ _).drewN n).set1 _ _
     have hlen := HLEN.out
     refine ⟨out ++ [(k : Int)], c + d, hop, .slice al6 (out.length + 1) nc6, rfl, hr3, ?_, ?_, by rw [List.length_append]; simp; omega, by omega, by rw [List.length_append]; simp; omega, own_keep HO8.out hts (fun g hg e => row_own_apart HT8.out HO8.out (by decide) (by cases e; exact hg)), tr_cost (w := w8.drewN n) HT8.out, hts.row HR8.out (fun e => HZ2.out.2 e.symm), (HF8.out.drewN n).setNew HZ2.out.1 _ _⟩
     ·refine List.nodup_append.2 ⟨HND.out, by simp, fun x hx y hy => ?_⟩
      simp at hy
      subst hy;exact fun e => HM.out (e ▸ hx)
     intro y hy;rcases List.mem_append.1 hy with h | h
     ·exact HALL.out y h
     simp at h; subst h; exact HPN.out
    have HCALL := zh hcall; clear hcall; have HFIN := zh hfin; clear hfin;clear hr3 hcn
    clear hh hcd;go_wp2_with fail
    go_region_law (first | (go_simp; go_at_call 121; refine (HCALL.out _ (HF8.out.drewN _)).mono ?_; rintro e w' ⟨rfl, rfl⟩) | (go_simp; go_at_call 121; refine (HCALL.out _ HF8.out.drew).mono ?_; rintro e w' ⟨rfl, rfl⟩))
    all_goals (clear c0 p0 n0 tf1 t0 t1 t2 hc0 hc1 hc6 hwr hhb HCALL; go_wp2; go_roundg f; (case rel => exact HFIN.out _); (case measure => omega))
  rw [Wk.tripF, if_neg hp] at hr2;clear HR
  subst hr2;have HPN := zh hp; clear hp
  go_wp2_with fail;refine (Node_no _ _ HPN.out).mono ?_; rintro e w' ⟨rfl, rfl⟩
  go_wp2;refine bodyPost_ret (v := .agg #[.slice al out.length nc, .int .i64 (c), .int .i64 (-1)]) ?_ rfl ⟨_, rfl, own_keep HO.out (((Fr.refl (OneB rb) wr).set1 _ _).set1 _ _ |>.set1 _ _) (fun g hg e => row_own_apart HRR.out HO.out (by decide) (by cases e; exact hg)), ((HF.out.setNew HZ.out _ _).setNew HZ.out _ _).setNew HZ.out _ _⟩
  have hR := tr_set (nv := .slice al out.length nc) (c := c) (e := -1) HRR.out
  obtain ⟨s0, s1, s2⟩ := tr_cells hR
  clear hR;generalize (((wr.setCell ⟨rb, 0, none⟩ (.slice al out.length nc)).setCell ⟨rb, 1, none⟩ (.int .i64 (c))).setCell ⟨rb, 2, none⟩ (.int .i64 (-1))) = W5 at *
  simp [results, Tryz.results82, go_sem, s0, s1, s2]
theorem RLook_wf (a : Option Addr) (c : Nat) (L : List Tb.Rt) (x : Int) (w : World) (hl : L.length ≤ 1000) (hw : Tb.Wf L) (h : Rs w a L) :
  Calls Tryz.prog 65 #[.slice a L.length c, .int .i64 x] w (IntFr (Tb.look L x) w) := by
 have k := RLook_any a c L x w hl h
 rw [(Tb.look_both hw x).1] at k
 exact k
def CutG (small : Bool) (s : Fb.PT) (k : Nat) (w : World) (sv : Value) (wx : World) : Prop := ∃ al nc, sv = .slice al (tabOf small s k).length nc ∧ Rs wx al (tabOf small s k) ∧ Fr NoB w wx
def TripRelT (h : Int → Int) (C : Nat → Nat → Int) (R : List Int × Int × Int) (w : World) (tb rb : Nat) (g : Nat) (pv : Value) (wr : World) : Prop :=
 ∃ (out : List Int) (c p : Int) (nv : Value), pv = .int .i64 p ∧ Wk.tripF h C g out c p = R ∧ out.Nodup ∧ (∀ y ∈ out, Nt.isN y) ∧ out.length + g = 7 ∧ 0 ≤ c ∧ c ≤ 15 * (out.length : Int) ∧
  Sl wr w.heap.size nv out ∧ wr.rowIs tb 102 3 (trF nv c (-1)) ∧ wr.rowIs rb 102 3 (trF (.slice none 0 0) 0 0) ∧ Fr NoB w wr
theorem tab_look {s : Fb.PT} {m k : Nat} (hs : Fb.POk s m) (hk : k < 6) (small : Bool) (a : Int) : Tb.look (tabOf small s k) a = Wk.hopA s.t (Tb.look s.o a) k := by
 unfold tabOf
 cases small with
 | true => exact Fb.small_look hs.str hk hs.o a
 | false => exact Fb.full_look hs.o k a
theorem tab_ok {s : Fb.PT} {m k : Nat} (hs : Fb.POk s m) (hk : k < 6) (small : Bool) : Tb.Wf (tabOf small s k) ∧ (tabOf small s k).length ≤ 1000 := by
 have hl := hs.o.len
 have hsm := Fb.small_ok hs.str hk hs.o
 unfold tabOf
 cases small with
 | true => exact ⟨hsm.1, Nat.le_trans hsm.2.2.1 (by omega)⟩
 | false => exact ⟨Fb.full_wf hs.str hk hs.o, by show (Fb.full s.t s.o k).length ≤ 1000; rw [Fb.full_len]; omega⟩
theorem TGo_any (y : TIds) (u : Value) (al0 : Option Addr) (s : Fb.PT) (m : Nat) (small : Bool) (src a : Int) (w : World) (hs : Fb.POk s m) (htw : TwAt w y u al0 s) :
  Calls Tryz.prog 40 #[.pointer (some ⟨y.b, 0, none⟩), .int .i64 src, .int .i64 a, .bool small] w (GoPost (Wk.tripT (Wk.hopA s.t (Tb.look s.o a)) s.t.C src) w) := by
 obtain ⟨h, hh0⟩ : ∃ h, h = Wk.hopA s.t (Tb.look s.o a) := ⟨_, rfl⟩
 rw [← hh0]
 have hL : ∀ k : Nat, k < 6 → Tb.look (tabOf small s k) a = h k := fun k hk => by rw [hh0]; exact tab_look hs hk small a
 clear hh0
 have hC := hs.str.ok.cost
 have hr : Wk.tripF h s.t.C 7 [] 0 src = Wk.tripT h s.t.C src := rfl
 generalize Wk.tripT h s.t.C src = R at *
 have HW := zh htw; clear htw; have HS := zh hs; clear hs; have HL := zh hL; clear hL; have HR := zh hr; clear hr; have HC := zh hC; clear hC
 go_enter Tryz.func40, Tryz.ntmps40
 go_wp2
 refine wp_name fun w2 hw2 => ?_
 have hf : Fr NoB w w2 := by rw [hw2]; exact ((Fr.refl _ _).alloc _).alloc _
 have hrb : w2.rowIs w.heap.size 102 3 (trF (.slice none 0 0) 0 0) := by
  rw [hw2]
  have h1 : (w.alloc (.cells #[.slice none 0 0, .int .i64 0, .int .i64 0] 102)).rowIs w.heap.size 102 3 (trF (.slice none 0 0) 0 0) := World.rowIs_alloc w _ _ _ (fun i hi => by
   match i, hi with
   | 0, _ => rfl
   | 1, _ => rfl
   | 2, _ => rfl)
  exact ((Fr.refl NoB _).alloc _).row h1 (fun h => h)
 have htb : w2.rowIs (w.heap.size + 1) 102 3 (trF (.slice none 0 0) 0 (-1)) := by
  rw [hw2]
  have h1 := World.rowIs_alloc (w.alloc (.cells #[.slice none 0 0, .int .i64 0, .int .i64 0] 102)) #[.slice none 0 0, .int .i64 0, .int .i64 (-1)] 102 (trF (.slice none 0 0) 0 (-1)) (fun i hi => by
   match i, hi with
   | 0, _ => rfl
   | 1, _ => rfl
   | 2, _ => rfl)
  have e : (w.alloc (.cells #[.slice none 0 0, .int .i64 0, .int .i64 0] 102)).heap.size = w.heap.size + 1 := by simp
  rw [e] at h1;exact h1
 clear hw2
 obtain ⟨rb, hrbe⟩ : ∃ rb, rb = w.heap.size := ⟨_, rfl⟩
 have hz : w.heap.size ≤ rb := by omega
 rw [← hrbe] at hrb htb ⊢
 clear hrbe
 obtain ⟨tb, htbe⟩ : ∃ tb, tb = rb + 1 := ⟨_, rfl⟩
 have hz2 : w.heap.size ≤ tb ∧ tb ≠ rb := by omega
 rw [← htbe] at htb ⊢
 clear htbe
 have HF := zh hf; clear hf; have HRB := zh hrb; clear hrb; have HTB := zh htb; clear htb; have HZ := zh hz; clear hz; have HZ2 := zh hz2; clear hz2
 go_loopg [10] 7 (fun g pv wr => TripRelT h s.t.C R w tb rb g pv wr)
 case atStart => exact ⟨[], 0, src, .slice none 0 0, rfl, HR.out, List.nodup_nil, fun y hy => by (cases hy), rfl, by omega, by simp, Sl.nil _ _, HTB.out, HRB.out, HF.out⟩
 case round =>
  clear HR HF HRB HTB;obtain ⟨out, c, p, nv, rfl, hr, hnd, hall, hlen, hc0, hc1, ho, ht, hrr, hf⟩ := hrel
  have h6 : out.length ≤ 6 := nodup_len 6 out hnd (fun y hy => hall y hy)
  obtain ⟨al, nc, rfl, jj⟩ := ownsRow_rd ho
  clear jj;obtain ⟨t0, t1, t2⟩ := tr_cells ht
  obtain ⟨r0, r1, r2⟩ := tr_cells hrr
  have tf := fun i => rF ht i
  have rf := fun i => rF hrr i
  have tf0 := tf 0
  have tf1 := tf 1
  have tf2 := tf 2
  have rf0 := rf 0
  have rf1 := rf 1
  have rf2 := rf 2
  clear tf rf;have HR := zh hr; clear hr; have HND := zh hnd; clear hnd; have HALL := zh hall; clear hall; have HLEN := zh hlen; clear hlen; have HO := zh ho; clear ho; have HF := zh hf; clear hf; have H6 := zh h6; clear h6; have HT := zh ht; clear ht; have HRR := zh hrr; clear hrr; have HC0 := zh hc0; clear hc0; have HC1 := zh hc1; clear hc1
  obtain ⟨f, rfl⟩ : ∃ f, gk = f + 1 := ⟨gk - 1, by have := HLEN.out; have := H6.out; omega⟩
  have hr2 := HR.out
  by_cases hp : Nt.isN p
  ·by_cases hm : p ∈ out
   ·have hmd : decide (p ∈ out) = true := by simp [hm]
    rw [Wk.tripF, if_pos hp, if_pos hm] at hr2;clear HR hm
    subst hr2;obtain ⟨p0, p1⟩ := hp
    have P0 := zh p0; clear p0; have P1 := zh p1; clear p1;go_wp2_with fail
    refine (RNode_yes _ _ P0.out P1.out).mono ?_; rintro e w' ⟨rfl, rfl⟩
    go_wp2_with fail;refine (RIn_any w.heap.size _ out p _ (by have := H6.out; omega) HO.out).mono ?_
    rintro e w' ⟨rfl, rfl⟩
    go_upto_region 6 with fail
    refine wp_name fun w3 hw3 => ?_
    have hts : Fr (OneB tb) wr w3 := by rw [hw3]; exact (Fr.refl _ _).set1 _ _
    have ht3 : w3.rowIs tb 102 3 (trF (.slice al out.length nc) c (-2)) := by rw [hw3]; exact tr_end HT.out
    have hr3 := hts.row HRR.out (fun e => HZ2.out.2 e.symm)
    have ho3 : Sl w3 w.heap.size (.slice al out.length nc) out := own_keep HO.out hts (fun g hg e => row_own_apart HT.out HO.out (by decide) (by cases e; exact hg))
    have hf3 : Fr NoB w w3 := by rw [hw3]; exact HF.out.setNew HZ2.out.1 _ _
    clear hw3 hts HT HRR HO HF t0 t1 t2 r0 r1 r2 tf0 tf1 tf2 rf0 rf1 rf2;obtain ⟨t0, t1, t2⟩ := tr_cells ht3
    obtain ⟨r0, r1, r2⟩ := tr_cells hr3
    have rf0 := rF hr3 0
    have rf1 := rF hr3 1
    have rf2 := rF hr3 2
    have HO := zh ho3; clear ho3; have HRR := zh hr3; clear hr3; have HF := zh hf3; clear hf3;go_wp2
    refine bodyPost_ret (v := .agg #[.slice al out.length nc, .int .i64 (c), .int .i64 (-2)]) ?_ rfl ⟨_, rfl, own_keep HO.out (((Fr.refl (OneB rb) w3).set1 _ _).set1 _ _ |>.set1 _ _) (fun g hg e => row_own_apart HRR.out HO.out (by decide) (by cases e; exact hg)), ((HF.out.setNew HZ.out _ _).setNew HZ.out _ _).setNew HZ.out _ _⟩
    have hR := tr_set (nv := .slice al out.length nc) (c := c) (e := -2) HRR.out
    obtain ⟨s0, s1, s2⟩ := tr_cells hR
    clear hR;generalize (((w3.setCell ⟨rb, 0, none⟩ (.slice al out.length nc)).setCell ⟨rb, 1, none⟩ (.int .i64 (c))).setCell ⟨rb, 2, none⟩ (.int .i64 (-2))) = W5 at *
    simp [results, Tryz.results40, go_sem, s0, s1, s2]
   have hmd : decide (p ∈ out) = false := by simp [hm]
   rw [Wk.tripF, if_pos hp, if_neg hm] at hr2;have hp' := hp
   obtain ⟨p0, p1⟩ := hp'
   obtain ⟨k, rfl⟩ := Int.eq_ofNat_of_zero_le p0
   have hk : k < 6 := by omega
   clear HR p0 p1;have HR := zh hr2; clear hr2; have HM := zh hm; clear hm; have HPN := zh hp; clear hp
   go_wp2_with fail;refine (RNode_yes _ _ (by omega) (by omega)).mono ?_; rintro e w' ⟨rfl, rfl⟩
   go_wp2_with fail;refine (RIn_any w.heap.size _ out k _ (by have := H6.out; omega) HO.out).mono ?_
   rintro e w' ⟨rfl, rfl⟩
   go_wp2_with (at_builtin; refine app_int' rfl (.tmp 24) (.tmp 26) 76 rfl Tryz.underlying76 Tryz.info3 w.heap.size (.slice al out.length nc) out rfl (HO.out.alloc _) ⟨wr.heap.size, 0, none⟩ k rfl (by simp) ?h1 ?h2 ?_)
   case h1 => have := H6.out; omega
   case h2 => have := HF.out.size; simp; omega
   ·intro v' w6 h1 h2;have hal : Fr NoB wr (wr.alloc (.cells #[.int .i64 k] 3)) := (Fr.refl _ _).alloc _
    have hown := oA HO.out (.cells #[.int .i64 k] 3)
    have ht6 := h2.row (hal.row HT.out (fun h => h)) (row_own_apart (hal.row HT.out (fun h => h)) hown (by decide))
    have hr6 := h2.row (hal.row HRR.out (fun h => h)) (row_own_apart (hal.row HRR.out (fun h => h)) hown (by decide))
    have hf6 : Fr NoB w w6 := (HF.out.alloc _).ownB hown (Nat.le_refl _) h2
    obtain ⟨al6, nc6, rfl, jj⟩ := ownsRow_rd h1
    have e6 : (out ++ [(k : Int)]).length = out.length + 1 := by simp
    rw [e6] at h1 ⊢
    clear e6;clear jj h2 hown hal HF HO HT HRR t0 t1 t2 r0 r1 r2 tf0 tf1 tf2 rf0 rf1 rf2
    obtain ⟨t0, t1, t2⟩ := tr_cells ht6
    have tf0 := rF ht6 0
    have HO := zh h1; clear h1; have HT6 := zh ht6; clear ht6; have HRR := zh hr6; clear hr6; have HF := zh hf6; clear hf6;go_upto_region 8 with fail
    refine wp_name fun w7 hw7 => ?_
    have hts : Fr (OneB tb) w6 w7 := by rw [hw7]; exact (Fr.refl _ _).set1 _ _
    have ht7 : w7.rowIs tb 102 3 (trF (.slice al6 (out.length + 1) nc6) c (-1)) := by rw [hw7]; exact tr_nodes HT6.out
    have hr7 := hts.row HRR.out (fun e => HZ2.out.2 e.symm)
    have ho7 : Sl w7 w.heap.size (.slice al6 (out.length + 1) nc6) (out ++ [(k : Int)]) := own_keep HO.out hts (fun g hg e => row_own_apart HT6.out HO.out (by decide) (by cases e; exact hg))
    have hf7 : Fr NoB w w7 := by rw [hw7]; exact HF.out.setNew HZ2.out.1 _ _
    clear hw7 hts HT6 HRR HO HF t0 t1 t2 tf0;have hkb : (k : Int) < 6 := by omega
    have hl2 := HL.out k hk
    obtain ⟨htw, htl⟩ := tab_ok HS.out hk small
    have hol := HS.out.o.len
    have HO := zh ho7; clear ho7; have HT := zh ht7; clear ht7; have HRR := zh hr7; clear hr7; have HF := zh hf7; clear hf7; have HL2 := zh hl2; clear hl2; have HTW := zh htw; clear htw; have HTL := zh htl; clear htl
    have hmid : Hid (∀ (w8 : World) (al8 : Option Addr) (nc8 : Nat), Fr NoB w7 w8 → Rs w8 al8 (tabOf small s k) → Calls Tryz.prog 65 #[.slice al8 (tabOf small s k).length nc8, .int .i64 a] w8 (IntFr (h k) w8)) := fun w8 al8 nc8 _ hr8 => by
     have := RLook_wf al8 nc8 (tabOf small s k) a w8 HTL.out HTW.out hr8
     rw [HL2.out] at this;exact this
    have HMID := hmid
    clear hmid;go_wp2_with fail
    refine (TFull_any y u al0 s k _ hk hol (HW.out.keep0 HF.out)).mono ?_
    rintro e w7a ⟨v7a, rfl, hv, hfa⟩
    obtain ⟨al7, nc7, rfl, hr7, _⟩ := hv.shape
    clear hv;have HFA := zh hfa; clear hfa; have HR7 := zh hr7; clear hr7
    go_upto_if 32 with fail
    go_cut [11] (fun sv wx => CutG small s k w7 sv wx)
    case first =>
     cases small with
     | true =>
      go_wp2_with fail;refine (TSmall_any y u al0 s k _ _ hk HS.out (HW.out.keep0 (HF.out.trans HFA.out))).mono ?_
      rintro e w7b ⟨v7b, rfl, hv, hfb⟩
      obtain ⟨al7b, nc7b, rfl, hr7b, _⟩ := hv.shape
      have hcg : CutG true s k w7 (.slice al7b (Fb.small s.t s.o k).length nc7b) w7b := ⟨al7b, nc7b, rfl, hr7b, HFA.out.trans hfb⟩
      clear hv hr7b hfb;have HCG := zh hcg; clear hcg
      go_wp2_with fail;go_meet
      exact HCG.out
     | false =>
      have hcg : CutG false s k w7 (.slice al7 (Fb.full s.t s.o k).length nc7) w7a := ⟨al7, nc7, rfl, HR7.out, HFA.out⟩
      have HCG := zh hcg; clear hcg;go_wp2_with fail
      go_meet;exact HCG.out
    case rest =>
    obtain ⟨al8, nc8, rfl, hr8, hf8⟩ := hcut
    clear HFA HR7;have HR8s := zh hr8; clear hr8; have HF8s := zh hf8; clear hf8
    go_wp2_with fail;refine (HMID.out _ al8 nc8 HF8s.out HR8s.out).mono ?_
    rintro e w8 ⟨rfl, hf⟩
    have hf := HF8s.out.trans hf
    have HT8 := zh (hf.row HT.out (fun h => h))
    have HR8 := zh (hf.row HRR.out (fun h => h))
    have HO8 : Hid (Sl w8 w.heap.size (.slice al6 (out.length + 1) nc6) (out ++ [(k : Int)])) := own_keep HO.out hf (fun _ _ h => h)
    have HF8 := zh (HF.out.trans hf)
    clear HT HRR HO HF hf HR8s HF8s HMID;have hr3 := HR.out
    clear HR;by_cases hh : h k = k
    ·rw [if_pos hh] at hr3;subst hr3
     have hhb : (h k == (k : Int)) = true := by simpa using hh
     have tf2 := rF HT8.out 2
     obtain ⟨t0, t1, t2⟩ := tr_cells HT8.out
     clear hh;go_upto_region 14 with fail
     refine wp_name fun w9 hw9 => ?_
     have hts : Fr (OneB tb) w8 w9 := by rw [hw9]; exact (Fr.refl _ _).set1 _ _
     have ht9 : w9.rowIs tb 102 3 (trF (.slice al6 (out.length + 1) nc6) c k) := by rw [hw9]; exact tr_end HT8.out
     have hr9 := hts.row HR8.out (fun e => HZ2.out.2 e.symm)
     have ho9 : Sl w9 w.heap.size (.slice al6 (out.length + 1) nc6) (out ++ [(k : Int)]) := own_keep HO8.out hts (fun g hg e => row_own_apart HT8.out HO8.out (by decide) (by cases e; exact hg))
     have hf9 : Fr NoB w w9 := by rw [hw9]; exact HF8.out.setNew HZ2.out.1 _ _
     clear hw9 hts HT8 HR8 HO8 HF8 t0 t1 t2 tf2;obtain ⟨t0, t1, t2⟩ := tr_cells ht9
     obtain ⟨r0, r1, r2⟩ := tr_cells hr9
     have rf0 := rF hr9 0
     have rf1 := rF hr9 1
     have rf2 := rF hr9 2
     have HO := zh ho9; clear ho9; have HRR := zh hr9; clear hr9; have HF := zh hf9; clear hf9;go_wp2
     refine bodyPost_ret (v := .agg #[.slice al6 (out.length + 1) nc6, .int .i64 (c), .int .i64 (k)]) ?_ rfl ⟨_, rfl, own_keep HO.out (((Fr.refl (OneB rb) w9).set1 _ _).set1 _ _ |>.set1 _ _) (fun g hg e => row_own_apart HRR.out HO.out (by decide) (by cases e; exact hg)), ((HF.out.setNew HZ.out _ _).setNew HZ.out _ _).setNew HZ.out _ _⟩
     have hR := tr_set (nv := .slice al6 (out.length + 1) nc6) (c := c) (e := k) HRR.out
     obtain ⟨s0, s1, s2⟩ := tr_cells hR
     clear hR;generalize (((w9.setCell ⟨rb, 0, none⟩ (.slice al6 (out.length + 1) nc6)).setCell ⟨rb, 1, none⟩ (.int .i64 (c))).setCell ⟨rb, 2, none⟩ (.int .i64 (k))) = W5 at *
     simp [results, Tryz.results40, go_sem, s0, s1, s2]
    rw [if_neg hh] at hr3;have hhb : (h k == (k : Int)) = false := by simpa using hh
    have hcn : 0 ≤ Wk.costN s.t.C k (h k) ∧ Wk.costN s.t.C k (h k) ≤ 15 := by
     unfold Wk.costN;split
     ·rename_i hi
      have h1 := HC.out.lo (k : Int).toNat (h k).toNat (by omega) (by omega)
      have h2 := HC.out.hi (k : Int).toNat (h k).toNat (by omega) (by omega)
      omega
     omega
    have tf1 := rF HT8.out 1
    obtain ⟨t0, t1, t2⟩ := tr_cells HT8.out
    obtain ⟨hop, hhop⟩ : ∃ hop, h k = hop := ⟨_, rfl⟩
    rw [hhop] at hr3 hhb hcn ⊢
    obtain ⟨d, hd⟩ : ∃ d, Wk.costN s.t.C k hop = d := ⟨_, rfl⟩
    rw [hd] at hr3 hcn;have hc0 := HC0.out
    have hc1 := HC1.out
    have hc6 := H6.out
    have hwr : IntKind.i64.wrap (c + d) = c + d := by simp [IntKind.wrap, IntKind.signed, IntKind.bits]; omega
    have hfin : ∀ n : Nat, TripRelT h s.t.C R w tb rb f (.int .i64 hop) ((w8.drewN n).setCell ⟨tb, 1, none⟩ (.int .i64 (c + d))) := fun n => by
     have hts : Fr (OneB tb) w8 ((w8.drewN n).setCell ⟨tb, 1, none⟩ (.int .i64 (c + d))) := ((Fr.refl _ _).drewN n).set1 _ _
     have hlen := HLEN.out
     refine ⟨out ++ [(k : Int)], c + d, hop, .slice al6 (out.length + 1) nc6, rfl, hr3, ?_, ?_, by rw [List.length_append]; simp; omega, by omega, by rw [List.length_append]; simp; omega, own_keep HO8.out hts (fun g hg e => row_own_apart HT8.out HO8.out (by decide) (by cases e; exact hg)), tr_cost (w := w8.drewN n) HT8.out, hts.row HR8.out (fun e => HZ2.out.2 e.symm), (HF8.out.drewN n).setNew HZ2.out.1 _ _⟩
     ·refine List.nodup_append.2 ⟨HND.out, by simp, fun x hx y hy => ?_⟩
      simp at hy
      subst hy;exact fun e => HM.out (e ▸ hx)
     intro y hy;rcases List.mem_append.1 hy with h | h
     ·exact HALL.out y h
     simp at h; subst h; exact HPN.out
    have HFIN := zh hfin; clear hfin; have HR3 := zh hr3; clear hr3;clear hcn hh hhop
    by_cases hn : Nt.isN hop
    ·have hn' := hn
     obtain ⟨n0, n1⟩ := hn'
     obtain ⟨x, rfl⟩ := Int.eq_ofNat_of_zero_le n0
     have hx : x < 6 := by omega
     have hdx : s.t.C k x = d := by
      rw [← hd];unfold Wk.costN
      rw [if_pos ⟨by omega, by omega, by omega, by omega⟩, Int.toNat_natCast, Int.toNat_natCast]
     have cM := (HW.out.keep0 HF8.out).tn.cM hk hx
     rw [hdx] at cM;have hk0 : (0 : Int) ≤ (k : Int) := by omega
     clear hn n0 n1 hd hdx;go_wp2_with fail
     refine (RNode_yes _ _ (by omega) (by omega)).mono ?_; rintro e w' ⟨rfl, rfl⟩
     go_wp2_with fail;go_region
     all_goals (clear cM tf1 t0 t1 t2 hc0 hc1 hc6 hwr hhb; go_wp2; go_roundg f; (case rel => exact HFIN.out _); (case measure => omega))
    have hd0 : d = 0 := by rw [← hd]; exact Wk.costN_off hn
    have hfin0 : TripRelT h s.t.C R w tb rb f (.int .i64 hop) w8 := by
     have hr4 := HR3.out
     rw [hd0, Int.add_zero] at hr4;have hlen := HLEN.out
     refine ⟨out ++ [(k : Int)], c, hop, .slice al6 (out.length + 1) nc6, rfl, hr4, ?_, ?_, by rw [List.length_append]; simp; omega, hc0, by rw [List.length_append]; simp; omega, HO8.out, HT8.out, HR8.out, HF8.out⟩
     ·refine List.nodup_append.2 ⟨HND.out, by simp, fun x hx y hy => ?_⟩
      simp at hy
      subst hy;exact fun e => HM.out (e ▸ hx)
     intro y hy;rcases List.mem_append.1 hy with h | h
     ·exact HALL.out y h
     simp at h; subst h; exact HPN.out
    clear hd hd0 hwr tf1 t0 t1 t2 hc0 hc1 hc6;have HFIN0 := zh hfin0; clear hfin0; have HNO := zh hn; clear hn
    go_wp2_with fail;refine (RNode_no _ _ HNO.out).mono ?_; rintro e w' ⟨rfl, rfl⟩
    go_wp2;go_roundg f
    case rel => exact HFIN0.out
    case measure => omega
  rw [Wk.tripF, if_neg hp] at hr2;clear HR
  subst hr2;have HPN := zh hp; clear hp
  go_wp2_with fail;refine (RNode_no _ _ HPN.out).mono ?_; rintro e w' ⟨rfl, rfl⟩
  go_wp2;refine bodyPost_ret (v := .agg #[.slice al out.length nc, .int .i64 (c), .int .i64 (-1)]) ?_ rfl ⟨_, rfl, own_keep HO.out (((Fr.refl (OneB rb) wr).set1 _ _).set1 _ _ |>.set1 _ _) (fun g hg e => row_own_apart HRR.out HO.out (by decide) (by cases e; exact hg)), ((HF.out.setNew HZ.out _ _).setNew HZ.out _ _).setNew HZ.out _ _⟩
  have hR := tr_set (nv := .slice al out.length nc) (c := c) (e := -1) HRR.out
  obtain ⟨s0, s1, s2⟩ := tr_cells hR
  clear hR;generalize (((wr.setCell ⟨rb, 0, none⟩ (.slice al out.length nc)).setCell ⟨rb, 1, none⟩ (.int .i64 (c))).setCell ⟨rb, 2, none⟩ (.int .i64 (-1))) = W5 at *
  simp [results, Tryz.results40, go_sem, s0, s1, s2]
theorem RdS.new (w : World) (ss : List ByteArray) (t : TypeId) : RdS (w.alloc (.cells (ss.map Value.string).toArray t)) (some ⟨w.heap.size, 0, none⟩) ss := by
 intro k hk
 refine ⟨w.heap.size, 0, rfl, ?_⟩
 have : (w.alloc (.cells (ss.map Value.string).toArray t)).heap[w.heap.size]? = some (.cells (ss.map Value.string).toArray t (0, 0)) := heap_alloc_new w _
 rw [Lib.cell_of_heap this, Nat.zero_add]
 simp [hk]
theorem Say_new (d : Nat) (ad bv : Value) (q : PIds) (v tv : Value) (s : Fb.PT) (t T : Dk.Bs) (ss : List ByteArray) (e : TypeId) (w : World) (hT : Dk.say (bss ss) = T) (hl : t.length + T.length ≤ 10000000) (hn : ss.length ≤ 1000) (h : DkAt w d ad bv q v tv s t) :
  Calls Tryz.prog 30 #[.pointer (some ⟨d, 0, none⟩), .slice (some ⟨w.heap.size, 0, none⟩) ss.length ss.length] (w.alloc (.cells (ss.map Value.string).toArray e)) (DkTo d q v tv bv (.tuple #[]) s (t ++ T) w) := by
 subst hT
 refine (Say_any d ad bv q v tv s t w.heap.size ss _ hl hn (h.keep0 ((Fr.refl _ _).alloc _)) (RdS.new w ss e) (by simp)).mono ?_
 rintro e w' ⟨ad', bv', v', tv', rfl, h1⟩
 exact ⟨ad', bv', v', tv', rfl, ((DkS.start h).keep ((Fr.refl _ _).alloc _)).go h1⟩
theorem DkTo.after {d : Nat} {q : PIds} {v tv bv v1 tv1 bv1 ad1 : Value} {R : Value} {s1 s2 : Fb.PT} {t1 t2 : Dk.Bs} {w w1 w2 : World} {e : Ending} (h : DkS (FtD d q v tv bv) w d ad1 bv1 q v1 tv1 s1 t1 w1) (k : DkTo d q v1 tv1 bv1 R s2 t2 w1 e w2) : DkTo d q v tv bv R s2 t2 w e w2 := by
 obtain ⟨ad', bv', v', tv', rfl, h1⟩ := k
 exact ⟨ad', bv', v', tv', rfl, h.go h1⟩
theorem DDo_any (d : Nat) (ad bv : Value) (q : PIds) (v tv : Value) (s : Fb.PT) (t : Dk.Bs) (k a b n pl pb : Int) (m : Nat) (w : World) (hs : Dk.DOk s m) (hm : m ≤ 1000) (hl : t.length ≤ 9000000) (h : DkAt w d ad bv q v tv s t) :
  Calls Tryz.prog 45 #[.pointer (some ⟨d, 0, none⟩), step6 k a b n pl pb] w (DkTo d q v tv bv (.tuple #[]) (Fb.doP s k a b n pl pb).1 (t ++ Dk.tellDo (Fb.doP s k a b n pl pb).2) w) := by
 have hc := Dk.code_ok s k a b n pl pb
 have hdo := fun W (hW : Fr NoB w W) => PDo_any q v tv s k a b n pl pb m W hs.ok hm (h.keep0 hW).post
 unfold PDoSaid at hdo
 generalize Fb.doP s k a b n pl pb = r at *
 obtain ⟨s', c⟩ := r
 dsimp only at hc hdo ⊢
 obtain ⟨R, hR⟩ : ∃ R, R = DkTo d q v tv bv (.tuple #[]) s' (t ++ Dk.tellDo c) w := ⟨_, rfl⟩
 rw [← hR]
 unfold step6 at *
 have H := zh h; clear h; have HDO := zh hdo; clear hdo; have HR := zh hR; clear hR; have HC := zh hc; clear hc
 clear hs
 go_enter Tryz.func45, Tryz.ntmps45
 go_upto_region 1 with fail
 refine wp_name fun w1 hw1 => ?_
 have d0 : w1.cell? ⟨w.heap.size, 0, none⟩ = some (.int .i64 k) := by rw [hw1]; simp
 have d1 : w1.cell? ⟨w.heap.size, 1, none⟩ = some (.int .i64 a) := by rw [hw1]; simp
 have d2 : w1.cell? ⟨w.heap.size, 2, none⟩ = some (.int .i64 b) := by rw [hw1]; simp
 have d3 : w1.cell? ⟨w.heap.size, 3, none⟩ = some (.int .i64 n) := by rw [hw1]; simp
 have d4 : w1.cell? ⟨w.heap.size, 4, none⟩ = some (.int .i64 pl) := by rw [hw1]; simp
 have d5 : w1.cell? ⟨w.heap.size, 5, none⟩ = some (.int .i64 pb) := by rw [hw1]; simp
 have hF : Fr NoB w w1 := by rw [hw1]; (repeat (first | exact Fr.refl _ _ | refine Fr.alloc ?_ _ | refine Fr.setNew ?_ (by omega) _ _ | refine Fr.drewN ?_ _ | refine Fr.drew ?_))
 clear hw1
 have p2 := (H.out.keep0 hF).c2
 have hz : ∀ i, FtP q v tv i → i ≠ w.heap.size := fun i hi e => by have := H.out.lt (.inr (.inl hi)); omega
 have hdP := H.out.dP
 generalize w.heap.size = z at *
 have hzP : ¬ FtP q v tv z := fun e => hz z e rfl
 clear hz
 have HF := zh hF; clear hF; have HDP := zh hdP; clear hdP; have HZP := zh hzP; clear hzP
 go_wp2_with fail
 go_region_held3 (fun W => W.cell? ⟨d, 2, none⟩ = some (.pointer (some ⟨q.p, 0, none⟩)) ∧ W.cell? ⟨z, 0, none⟩ = some (.int .i64 k) ∧ W.cell? ⟨z, 1, none⟩ = some (.int .i64 a) ∧ W.cell? ⟨z, 2, none⟩ = some (.int .i64 b) ∧ W.cell? ⟨z, 3, none⟩ = some (.int .i64 n) ∧ W.cell? ⟨z, 4, none⟩ = some (.int .i64 pl) ∧ W.cell? ⟨z, 5, none⟩ = some (.int .i64 pb))
  (first | exact ⟨p2, d0, d1, d2, d3, d4, d5⟩ | exact ⟨ep, e0, e1, e2, e3, e4, e5⟩)
  (first | (go_at_call 74; refine (HDO.out _ HF.out.drew).mono ?_; rintro e w2 ⟨v', tv', rfl, ha, hf, hg⟩; have ep := cell_fr' hf p2 HDP.out; have e0 := cell_fr' hf d0 HZP.out; have e1 := cell_fr' hf d1 HZP.out; have e2 := cell_fr' hf d2 HZP.out; have e3 := cell_fr' hf d3 HZP.out; have e4 := cell_fr' hf d4 HZP.out; have e5 := cell_fr' hf d5 HZP.out; have HA := zh ha; have HF2 := zh hf; have HG := zh hg; clear ha hf hg))
 clear ep e0 e1 e2 e3 e4 e5 p2 d0 d1 d2 d3 d4 d5 HZP HDP HDO
 have h2 := ((DkS.start H.out).keep HF.out.drew).post HA.out HF2.out HG.out
 clear HA HF2 HG HF
 have H2 := zh h2; clear h2
 by_cases hc0 : c = 0
 ·have hcb : (c != 0) = false := by simpa using hc0
  have hT : Dk.tellDo c = Dk.say [Dk.tOk] := by unfold Dk.tellDo; rw [if_pos hc0]
  clear hc0;have HT := zh hT; clear hT
  go_wp2_with fail;refine (Say_new d _ _ q _ _ s' t _ [⟨#[111, 107]⟩] _ _ HT.out.symm (by rw [HT.out]; have : (Dk.say [Dk.tOk]).length = 3 := rfl; omega) (by simp) H2.out.at_).mono ?_
  intro e w3 k3;obtain ⟨ad3, bv3, v3, tv3, rfl, h3⟩ := DkTo.after H2.out k3
  clear k3;have H3 := zh h3; clear h3
  go_wp2;go_end0
  rw [HR.out];exact ⟨ad3, bv3, v3, tv3, rfl, H3.out⟩
 have hcb : (c != 0) = true := by simpa using hc0
 have hT : Dk.tellDo c = Dk.say [Dk.tNo, Lib.itoa c] := by unfold Dk.tellDo; rw [if_neg hc0]
 clear hc0
 have HT := zh hT; clear hT
 go_wp2_with fail
 refine (Num_any c _ (sm64 HC.out) H2.out.at_.env).mono ?_
 intro e w3 h3
 obtain ⟨X, rfl, hX, hXs, hf⟩ := h3.r
 have h4 := H2.out.keep hf
 clear hf h3 H2 hXs
 have hT2 : Dk.say (bss [⟨#[110, 111]⟩, X]) = Dk.tellDo c := by rw [HT.out, ← hX]; rfl
 have hTl : (Dk.tellDo c).length ≤ 45 := by rw [HT.out]; exact Dk.sayNo_len HC.out
 have H4 := zh h4; clear h4; have HX := zh hX; clear hX; have HT2 := zh hT2; clear hT2; have HTL := zh hTl; clear hTl
 go_wp2_with fail
 refine (Say_new d _ _ q _ _ s' t _ [⟨#[110, 111]⟩, X] _ _ HT2.out (by have := HTL.out; omega) (by simp) H4.out.at_).mono ?_
 intro e w5 k5
 obtain ⟨ad3, bv3, v3, tv3, rfl, h5⟩ := DkTo.after H4.out k5
 clear k5
 have H5 := zh h5; clear h5
 go_wp2
 go_end0
 rw [HR.out]
 exact ⟨ad3, bv3, v3, tv3, rfl, H5.out⟩
theorem NWay_fr (x : Ids) (v : Value) (t : Nt.NT) (a b : Int) (w : World) (h : NtAt w x v t) :
  Calls Tryz.prog 75 #[.pointer (some ⟨x.b, 0, none⟩), .int .i64 a, .int .i64 b] w (WayFr (if Nt.isN a then Nd.wayAt (t.N a.toNat) b else Nd.noWay) w) := by
 by_cases ha : Nt.isN a
 ·rw [if_pos ha];obtain ⟨p, rfl⟩ := Int.eq_ofNat_of_zero_le ha.1
  rw [Int.toNat_natCast];exact (NWay_at x v t p b w (by have := ha.2; omega) h).mono fun e w' h => h
 rw [if_neg ha]
 have hbl := h.lt (.inl rfl)
 have H := zh h; clear h; have HA := zh ha; clear ha
 go_enter Tryz.func75, Tryz.ntmps75
 go_wp2_with fail
 refine (Node_no _ _ HA.out).mono ?_; rintro e w' ⟨rfl, rfl⟩
 go_wp2
 refine bodyPost_ret (v := way3 Nd.noWay) ?_ rfl ⟨rfl, (Fr.refl _ _).alloc _⟩
 simp [results, Tryz.results75, go_sem, way3, Nd.noWay]
theorem ways_succ (t : Nt.NT) (n : Int) (k : Nat) : Dk.tellWays t n (k + 1) = Dk.tellWays t n k ++ Dk.sayWay k (Dk.wayT t n k) := by
 unfold Dk.tellWays
 rw [List.range_succ, List.flatMap_append]
 simp
def WaysRel (d : Nat) (q : PIds) (s : Fb.PT) (t : Dk.Bs) (n : Int) (S : Nat → Prop) (w : World) (i : Value) (wr : World) : Prop :=
 ∃ (k : Nat) (ad' bv' v' tv' : Value), k ≤ 6 ∧ i = .int .i64 k ∧ DkS S w d ad' bv' q v' tv' s (t ++ Dk.tellWays s.t n k) wr
theorem Ways_any (d : Nat) (ad bv : Value) (q : PIds) (v tv : Value) (s : Fb.PT) (t : Dk.Bs) (n : Int) (m : Nat) (w : World) (hs : Dk.DOk s m) (hm : m ≤ 1000) (hl : t.length ≤ 9000000) (h : DkAt w d ad bv q v tv s t) :
  Calls Tryz.prog 47 #[.pointer (some ⟨d, 0, none⟩), .int .i64 n] w (DkTo d q v tv bv (.tuple #[]) s (t ++ Dk.tellWays s.t n 6) w) := by
 obtain ⟨R, hR⟩ : ∃ R, R = DkTo d q v tv bv (.tuple #[]) s (t ++ Dk.tellWays s.t n 6) w := ⟨_, rfl⟩
 rw [← hR]
 have H := zh h; clear h; have HS := zh hs; clear hs; have HR := zh hR; clear hR
 go_enter Tryz.func47, Tryz.ntmps47
 go_wp2
 go_loopw [6] (fun i wr => WaysRel d q s t n (FtD d q v tv bv) w i wr) (fun i _ => 6 - (intOf i).toNat)
 case atStart => exact ⟨0, ad, bv, v, tv, by omega, rfl, by have := DkS.start H.out; simpa [Dk.tellWays] using this⟩
 case round =>
  clear H;obtain ⟨k, ad1, bv1, v1, tv1, hk, rfl, h1⟩ := hrel
  have H := zh h1; clear h1;by_cases hkn : k < 6
  ·have hkb : decide ((k : Int) < 6) = true := by simp; omega
   have p2 := H.out.at_.c2
   have p0 := H.out.at_.post.p0
   have hsm := Dk.way_ok HS.out hm n k
   have hlen := Dk.tellWays_len HS.out hm n hk
   have hlen2 := Dk.sayWay_len (Dk.sm_of (n := (k : Int)) (by omega) (by omega)) hsm
   have hsu := ways_succ s.t n k
   have hW := fun W (hW : Fr NoB wr W) => NWay_fr q.x v1 s.t n k W (H.out.keep hW).at_.post.net
   have e : (if Nt.isN n then Nd.wayAt (s.t.N n.toNat) (k : Int) else Nd.noWay) = Dk.wayT s.t n k := rfl
   rw [e] at hW;clear e
   generalize Dk.wayT s.t n k = wy at *;obtain ⟨wq, wd, wh⟩ := wy
   have hq := sm64 hsm.q
   have hd := sm64 hsm.d
   have hh := sm64 hsm.h
   dsimp only at hq hd hh;have hkk : I64 (k : Int) := ⟨by omega, by omega⟩
   clear hsm;have HLEN := zh hlen; clear hlen; have HLEN2 := zh hlen2; clear hlen2; have HSU := zh hsu; clear hsu; have HW := zh hW; clear hW; have HQ := zh hq; clear hq; have HDD := zh hd; clear hd; have HHH := zh hh; clear hh; have HKK := zh hkk; clear hkk
   go_wp2_with fail;refine (HW.out _ (Fr.refl _ _)).mono ?_
   rintro e w1 ⟨rfl, hf⟩
   have h1 := H.out.keep hf
   clear H HW hf p2 p0;unfold way3
   have H := zh h1; clear h1;go_upto_region 4 with fail
   refine wp_name fun w2 hw2 => ?_
   have d0 : w2.cell? ⟨w1.heap.size, 0, none⟩ = some (.int .i64 wq) := by rw [hw2]; simp
   have d1 : w2.cell? ⟨w1.heap.size, 1, none⟩ = some (.int .i64 wd) := by rw [hw2]; simp
   have d2 : w2.cell? ⟨w1.heap.size, 2, none⟩ = some (.int .i64 wh) := by rw [hw2]; simp
   have hF : Fr NoB w1 w2 := by rw [hw2]; (repeat (first | exact Fr.refl _ _ | refine Fr.alloc ?_ _ | refine Fr.setNew ?_ (by omega) _ _ | refine Fr.drewN ?_ _ | refine Fr.drew ?_))
   clear hw2;have h2 := H.out.keep hF
   have hz : ¬ FtD d q v1 tv1 bv1 w1.heap.size := fun e => by have := H.out.at_.lt e; omega
   clear hF H;generalize w1.heap.size = z at *
   have hst : ∀ W, Fr NoB w2 W → W.cell? ⟨z, 0, none⟩ = some (.int .i64 wq) ∧ W.cell? ⟨z, 1, none⟩ = some (.int .i64 wd) ∧ W.cell? ⟨z, 2, none⟩ = some (.int .i64 wh) := fun W hW => ⟨cell_fr' hW d0 nB, cell_fr' hW d1 nB, cell_fr' hW d2 nB⟩
   clear d0 d1 d2;have F1 := zh (Fr.refl NoB w2)
   have H := zh h2; clear h2; have HZ := zh hz; clear hz; have HST := zh hst; clear hst
   go_region_held3 (fun W => W.cell? ⟨z, 0, none⟩ = some (.int .i64 wq) ∧ W.cell? ⟨z, 1, none⟩ = some (.int .i64 wd) ∧ W.cell? ⟨z, 2, none⟩ = some (.int .i64 wh))
    (first | exact HST.out _ F1.out.drew | exact HST.out _ F2.out | exact HST.out _ F3.out | exact HST.out _ F4.out | exact HST.out _ F5.out | exact HST.out _ (F5.out.alloc _) | exact ⟨g0, g1, g2⟩)
    (first | (go_at_call 46; refine (Num_any (k : Int) _ HKK.out (H.out.keep F1.out.drew).at_.env).mono ?_; intro e w3 h3; obtain ⟨X1, rfl, hX1, hs1, hf⟩ := h3.r; have F2 := zh (F1.out.drew.trans hf); have HX1 := zh hX1; clear hf h3 hX1 hs1) | (go_at_call 46; refine (Num_any wq _ HQ.out (H.out.keep F2.out).at_.env).mono ?_; intro e w4 h4; obtain ⟨X2, rfl, hX2, hs2, hf⟩ := h4.r; have F3 := zh (F2.out.trans hf); have HX2 := zh hX2; clear hf h4 hX2 hs2) | (go_at_call 46; refine (Num_any wd _ HDD.out (H.out.keep F3.out).at_.env).mono ?_; intro e w5 h5; obtain ⟨X3, rfl, hX3, hs3, hf⟩ := h5.r; have F4 := zh (F3.out.trans hf); have HX3 := zh hX3; clear hf h5 hX3 hs3) | (go_at_call 46; refine (Num_any wh _ HHH.out (H.out.keep F4.out).at_.env).mono ?_; intro e w6 h6; obtain ⟨X4, rfl, hX4, hs4, hf⟩ := h6.r; have F5 := zh (F4.out.trans hf); have HX4 := zh hX4; clear hf h6 hX4 hs4) | (go_at_call 30; refine (Say_new d _ _ q _ _ s _ (Dk.sayWay k ⟨wq, wd, wh⟩) [⟨#[119, 97, 121]⟩, X1, X2, X3, X4] _ _ (by show Dk.say [Dk.tWay, X1.data.toList, X2.data.toList, X3.data.toList, X4.data.toList] = _; rw [HX1.out, HX2.out, HX3.out, HX4.out]; rfl) (by rw [List.length_append]; have := HLEN.out; have := HLEN2.out; omega) (by simp) (H.out.keep F5.out).at_).mono ?_; intro e w7 k7; obtain ⟨ad7, bv7, v7, tv7, rfl, h7⟩ := k7; have hst5 := HST.out _ F5.out; have g0 := cell_fr' h7.f hst5.1 HZ.out; have g1 := cell_fr' h7.f hst5.2.1 HZ.out; have g2 := cell_fr' h7.f hst5.2.2 HZ.out; clear hst5; have H7 := zh ((H.out.keep F5.out).go h7); clear h7))
   go_wp2;go_roundw
   case rel => exact ⟨k + 1, ad7, bv7, v7, tv7, by omega, by go_num, by rw [HSU.out, ← List.append_assoc]; exact H7.out⟩
   case measure => simp [intOf]; omega
  obtain rfl : k = 6 := by omega
  have hkb : decide (((6 : Nat) : Int) < 6) = false := by simp
  go_wp2;go_end0
  rw [HR.out];exact ⟨ad1, bv1, v1, tv1, rfl, H.out⟩
theorem flat_succ {α : Type} (f : α → Dk.Bs) (l : List α) (k : Nat) (x : α) (h : l[k]? = some x) : (l.take (k + 1)).flatMap f = (l.take k).flatMap f ++ f x := by
 rw [List.take_add_one, h, List.flatMap_append]
 simp
theorem SlN.form {w : World} {base : Nat} {v : Value} {n : Nat} {xs : List Int} (h : SlN w base v n xs) : ∃ a c, v = .slice a n c ∧ ∀ p, a = some p → base ≤ p.block ∧ p.block < w.heap.size := by
 have hlt := fun g => oL h g
 rcases h.2 with ⟨rfl, h0⟩ | ⟨g, cap, cur, rfl, h2, _⟩
 ·exact ⟨none, 0, by rw [h0], fun p hp => by cases hp⟩
 exact ⟨some ⟨g, 0, none⟩, cap, rfl, fun p hp => by cases hp; exact ⟨h2, (hlt g rfl).2⟩⟩
def DNewsRel (d : Nat) (q : PIds) (s : Fb.PT) (t : Dk.Bs) (av : Option Addr) (cv : Nat) (S : Nat → Prop) (w : World) (i : Value) (wr : World) : Prop :=
 ∃ (k : Nat) (ad' bv' v' tv' : Value), k ≤ s.t.news.length ∧ i = .int .i64 k ∧ DkS S w d ad' bv' q v' tv' s (t ++ Dk.tellNews (s.t.news.take k)) wr ∧
  SlN wr 0 (.slice av s.t.news.length cv) s.t.news.length (nwI s.t.news) ∧ ∀ p, av = some p → p.block < wr.heap.size ∧ ¬ FtD d q v' tv' bv' p.block
theorem DNews_any (d : Nat) (ad bv : Value) (q : PIds) (v tv : Value) (s : Fb.PT) (t : Dk.Bs) (m : Nat) (w : World) (hs : Dk.DOk s m) (hl : t.length ≤ 9000000) (h : DkAt w d ad bv q v tv s t) :
  Calls Tryz.prog 48 #[.pointer (some ⟨d, 0, none⟩)] w (DkTo d q v tv bv (.tuple #[]) s (t ++ (Dk.tellNews s.t.news ++ Dk.say [Dk.tEnd])) w) := by
 obtain ⟨R, hR⟩ : ∃ R, R = DkTo d q v tv bv (.tuple #[]) s (t ++ (Dk.tellNews s.t.news ++ Dk.say [Dk.tEnd])) w := ⟨_, rfl⟩
 rw [← hR]
 have p2 := h.c2
 have p0 := h.post.p0
 have hn40 := hs.ok.str.ok.len
 have H := zh h; clear h; have HS := zh hs; clear hs; have HR := zh hR; clear hR
 go_enter Tryz.func48, Tryz.ntmps48
 go_wp2_with fail
 refine (News_any q.x v s.t _ (by omega) H.out.post.net).mono ?_
 rintro e w1 ⟨vn, rfl, hv, hf⟩
 have h1 := (DkS.start H.out).keep hf
 obtain ⟨av, cv, rfl, hav⟩ := hv.form
 have hap : ∀ p, av = some p → p.block < w1.heap.size ∧ ¬ FtD d q v tv bv p.block := fun p hp => ⟨(hav p hp).2, fun e => by have := H.out.lt e; have := (hav p hp).1; omega⟩
 have hv0 : SlN w1 0 (.slice av s.t.news.length cv) s.t.news.length (nwI s.t.news) := ⟨hv.1, by
  rcases hv.2 with e | ⟨g, cap, cur, e1, _, e2⟩
  ·exact .inl e
  exact .inr ⟨g, cap, cur, e1, Nat.zero_le _, e2⟩⟩
 clear hav hf hv p2 p0
 have H1 := zh h1; clear h1; have HAP := zh hap; clear hap; have HV0 := zh hv0; clear hv0
 go_wp2
 go_loopw [13] (fun i wr => DNewsRel d q s t av cv (FtD d q v tv bv) w i wr) (fun i _ => s.t.news.length - (intOf i).toNat)
 case atStart => exact ⟨0, ad, bv, v, tv, by omega, rfl, by have := H1.out; simpa [Dk.tellNews] using this, HV0.out, HAP.out⟩
 case round =>
  clear H1 HAP HV0;obtain ⟨k, ad1, bv1, v1, tv1, hk, rfl, h1, hv, hap⟩ := hrel
  by_cases hkn : k < s.t.news.length
  ·have hkb : decide ((k : Int) < (s.t.news.length : Int)) = true := by simp; omega
   obtain ⟨b0, rfl, c0, c1, c2, c3, c4⟩ := news_cells hv hkn
   have hb0 := hap _ rfl
   obtain ⟨x, hx⟩ : ∃ x, s.t.news[k]? = some x := ⟨s.t.news[k], List.getElem?_eq_getElem hkn⟩
   have hxg : nwGet s.t.news k = x := by simp [nwGet, hx]
   rw [hxg] at c0 c1 c2 c3 c4;have hsm := Dk.nw_ok HS.out (List.mem_of_getElem? hx)
   have hlen := Dk.tellNews_len HS.out k
   have hlen2 := Dk.sayNw_len hsm
   have hsu : Dk.tellNews (s.t.news.take (k + 1)) = Dk.tellNews (s.t.news.take k) ++ Dk.sayNw x := flat_succ Dk.sayNw _ k x hx
   obtain ⟨xa, xg, xt, xq, xd⟩ := x
   have ha := sm64 hsm.a
   have hg := sm64 hsm.g
   have ht := sm64 hsm.t
   have hq := sm64 hsm.q
   have hd := sm64 hsm.d
   dsimp only at ha hg ht hq hd c0 c1 c2 c3 c4;clear hsm hx hxg
   have H := zh h1; clear h1; have HV := zh hv; clear hv; have HAP := zh hap; clear hap; have HLEN := zh hlen; clear hlen; have HLEN2 := zh hlen2; clear hlen2; have HSU := zh hsu; clear hsu; have HA := zh ha; clear ha; have HG := zh hg; clear hg; have HT := zh ht; clear ht; have HQ := zh hq; clear hq; have HDD := zh hd; clear hd; have HB0 := zh hb0; clear hb0;go_upto_region 3 with fail
   refine wp_name fun w2 hw2 => ?_
   have d0 : w2.cell? ⟨wr.heap.size, 0, none⟩ = some (.int .i64 xa) := by rw [hw2]; simp
   have d1 : w2.cell? ⟨wr.heap.size, 1, none⟩ = some (.int .i64 xg) := by rw [hw2]; simp
   have d2 : w2.cell? ⟨wr.heap.size, 2, none⟩ = some (.int .i64 xt) := by rw [hw2]; simp
   have d3 : w2.cell? ⟨wr.heap.size, 3, none⟩ = some (.int .i64 xq) := by rw [hw2]; simp
   have d4 : w2.cell? ⟨wr.heap.size, 4, none⟩ = some (.int .i64 xd) := by rw [hw2]; simp
   have hF : Fr NoB wr w2 := by rw [hw2]; (repeat (first | exact Fr.refl _ _ | refine Fr.alloc ?_ _ | refine Fr.setNew ?_ (by omega) _ _ | refine Fr.drewN ?_ _ | refine Fr.drew ?_))
   clear hw2 c0 c1 c2 c3 c4;have h2 := H.out.keep hF
   have hz : ¬ FtD d q v1 tv1 bv1 wr.heap.size := fun e => by have := H.out.at_.lt e; omega
   have hv2 := own_keep HV.out hF (fun _ _ h => h)
   have hbz := Nat.lt_of_lt_of_le HB0.out.1 hF.size
   clear hF H HV;generalize wr.heap.size = z at *
   have hst : ∀ W, Fr NoB w2 W → W.cell? ⟨z, 0, none⟩ = some (.int .i64 xa) ∧ W.cell? ⟨z, 1, none⟩ = some (.int .i64 xg) ∧ W.cell? ⟨z, 2, none⟩ = some (.int .i64 xt) ∧ W.cell? ⟨z, 3, none⟩ = some (.int .i64 xq) ∧ W.cell? ⟨z, 4, none⟩ = some (.int .i64 xd) := fun W hW => ⟨cell_fr' hW d0 nB, cell_fr' hW d1 nB, cell_fr' hW d2 nB, cell_fr' hW d3 nB, cell_fr' hW d4 nB⟩
   clear d0 d1 d2 d3 d4;have F1 := zh (Fr.refl NoB w2)
   have H := zh h2; clear h2; have HZ := zh hz; clear hz; have HST := zh hst; clear hst; have HV := zh hv2; clear hv2; have HBZ := zh hbz; clear hbz
   go_region_held3 (fun W => W.cell? ⟨z, 0, none⟩ = some (.int .i64 xa) ∧ W.cell? ⟨z, 1, none⟩ = some (.int .i64 xg) ∧ W.cell? ⟨z, 2, none⟩ = some (.int .i64 xt) ∧ W.cell? ⟨z, 3, none⟩ = some (.int .i64 xq) ∧ W.cell? ⟨z, 4, none⟩ = some (.int .i64 xd))
    (first | exact HST.out _ F1.out.drew | exact HST.out _ F2.out | exact HST.out _ F3.out | exact HST.out _ F4.out | exact HST.out _ F5.out | exact HST.out _ F6.out | exact HST.out _ (F6.out.alloc _) | exact ⟨g0, g1, g2, g3, g4⟩)
    (first | (go_at_call 46; refine (Num_any xa _ HA.out (H.out.keep F1.out.drew).at_.env).mono ?_; intro e w3 h3; obtain ⟨X1, rfl, hX1, hs1, hf⟩ := h3.r; have F2 := zh (F1.out.drew.trans hf); have HX1 := zh hX1; clear hf h3 hX1 hs1) | (go_at_call 46; refine (Num_any xg _ HG.out (H.out.keep F2.out).at_.env).mono ?_; intro e w4 h4; obtain ⟨X2, rfl, hX2, hs2, hf⟩ := h4.r; have F3 := zh (F2.out.trans hf); have HX2 := zh hX2; clear hf h4 hX2 hs2) | (go_at_call 46; refine (Num_any xt _ HT.out (H.out.keep F3.out).at_.env).mono ?_; intro e w5 h5; obtain ⟨X3, rfl, hX3, hs3, hf⟩ := h5.r; have F4 := zh (F3.out.trans hf); have HX3 := zh hX3; clear hf h5 hX3 hs3) | (go_at_call 46; refine (Num_any xq _ HQ.out (H.out.keep F4.out).at_.env).mono ?_; intro e w6 h6; obtain ⟨X4, rfl, hX4, hs4, hf⟩ := h6.r; have F5 := zh (F4.out.trans hf); have HX4 := zh hX4; clear hf h6 hX4 hs4) | (go_at_call 46; refine (Num_any xd _ HDD.out (H.out.keep F5.out).at_.env).mono ?_; intro e w7 h7; obtain ⟨X5, rfl, hX5, hs5, hf⟩ := h7.r; have F6 := zh (F5.out.trans hf); have HX5 := zh hX5; clear hf h7 hX5 hs5) | (go_at_call 30; refine (Say_new d _ _ q _ _ s _ (Dk.sayNw ⟨xa, xg, xt, xq, xd⟩) [⟨#[110, 101, 119, 115]⟩, X1, X2, X3, X4, X5] _ _ (by show Dk.say [Dk.wNews, X1.data.toList, X2.data.toList, X3.data.toList, X4.data.toList, X5.data.toList] = _; rw [HX1.out, HX2.out, HX3.out, HX4.out, HX5.out]; rfl) (by rw [List.length_append]; have := HLEN.out; have := HLEN2.out; omega) (by simp) (H.out.keep F6.out).at_).mono ?_; intro e w8 k8; obtain ⟨ad8, bv8, v8, tv8, rfl, h8⟩ := k8; have hst6 := HST.out _ F6.out; have g0 := cell_fr' h8.f hst6.1 HZ.out; have g1 := cell_fr' h8.f hst6.2.1 HZ.out; have g2 := cell_fr' h8.f hst6.2.2.1 HZ.out; have g3 := cell_fr' h8.f hst6.2.2.2.1 HZ.out; have g4 := cell_fr' h8.f hst6.2.2.2.2 HZ.out; clear hst6; have HV8 := zh (own_keep (own_keep HV.out F6.out (fun _ _ h => h)) h8.f (fun g hg => by cases hg; exact HB0.out.2)); have HN8 := zh (show b0 < w8.heap.size ∧ ¬ FtD d q v8 tv8 bv8 b0 from ⟨by have := HBZ.out; have := F6.out.size; have := h8.f.size; omega, fun e => by rcases h8.new _ e with e | e; exact HB0.out.2 e; have := HBZ.out; have := F6.out.size; omega⟩); have H8 := zh ((H.out.keep F6.out).go h8); clear h8))
   go_wp2;go_roundw
   case rel => exact ⟨k + 1, ad8, bv8, v8, tv8, by omega, by go_num, by rw [HSU.out, ← List.append_assoc]; exact H8.out, HV8.out, fun p hp => by cases hp; exact HN8.out⟩
   case measure => simp [intOf]; omega
  have e : s.t.news.take k = s.t.news := List.take_of_length_le (by omega)
  rw [e] at h1;have hlen := Dk.tellNews_len HS.out k
  rw [e] at hlen;have hkb : decide ((k : Int) < (s.t.news.length : Int)) = false := by simp; omega
  clear e hv hap;have H := zh h1; clear h1; have HLEN := zh hlen; clear hlen
  go_wp2_with fail;refine (Say_new d _ _ q _ _ s _ _ [⟨#[101, 110, 100]⟩] _ _ rfl (by rw [List.length_append]; have := HLEN.out; have : (Dk.say (bss [⟨#[101, 110, 100]⟩])).length = 4 := rfl; omega) (by simp) H.out.at_).mono ?_
  intro e w3 k3;obtain ⟨ad3, bv3, v3, tv3, rfl, h3⟩ := DkTo.after H.out k3
  clear k3;have H3 := zh h3; clear h3
  go_wp2;go_end0
  rw [HR.out];exact ⟨ad3, bv3, v3, tv3, rfl, by rw [← List.append_assoc]; exact H3.out⟩
theorem Text_r (l b : Int) (w : World) (h : Env w) : Calls Tryz.prog 78 #[.agg #[.int .i64 l, .int .i64 b]] w (StrR (Tb.txt ⟨l, b⟩) w) := (Text_any l b w h.tab).mono fun _ _ h => h.r
theorem DTab_none (d : Nat) (ad bv : Value) (q : PIds) (v tv : Value) (s : Fb.PT) (t : Dk.Bs) (w : World) (hl : t.length ≤ 9000000) (h : DkAt w d ad bv q v tv s t) :
  Calls Tryz.prog 49 #[.pointer (some ⟨d, 0, none⟩), .pointer none] w (DkTo d q v tv bv (.tuple #[]) s (t ++ Dk.tellTab none) w) := by
 obtain ⟨R, hR⟩ : ∃ R, R = DkTo d q v tv bv (.tuple #[]) s (t ++ Dk.tellTab none) w := ⟨_, rfl⟩
 rw [← hR]
 have H := zh h; clear h; have HR := zh hR; clear hR
 go_enter Tryz.func49, Tryz.ntmps49
 go_wp2_with fail
 refine (Num_any 1 _ ⟨by omega, by omega⟩ H.out.env).mono ?_
 intro e w3 h3
 obtain ⟨X, rfl, hX, hXs, hf⟩ := h3.r
 have h4 := (DkS.start H.out).keep hf
 clear hf h3 hXs
 have hT2 : Dk.say (bss [⟨#[110, 111]⟩, X]) = Dk.tellTab none := by
  show Dk.say [Dk.tNo, X.data.toList] = Dk.say [Dk.tNo, Lib.itoa 1]
  rw [hX]
 have hTl : (Dk.tellTab none).length ≤ 45 := Dk.sayNo_len (Dk.sm_of (by decide) (by decide))
 have H4 := zh h4; clear h4; have HT2 := zh hT2; clear hT2; have HTL := zh hTl; clear hTl
 clear hX
 go_wp2_with fail
 refine (Say_new d _ _ q _ _ s t _ [⟨#[110, 111]⟩, X] _ _ HT2.out (by have := HTL.out; omega) (by simp) H4.out.at_).mono ?_
 intro e w5 k5
 obtain ⟨ad3, bv3, v3, tv3, rfl, h5⟩ := DkTo.after H4.out k5
 clear k5
 have H5 := zh h5; clear h5
 go_wp2
 go_end0
 rw [HR.out]
 exact ⟨ad3, bv3, v3, tv3, rfl, H5.out⟩
def DTabRel (d : Nat) (q : PIds) (s : Fb.PT) (t : Dk.Bs) (L : List Tb.Rt) (av : Option Addr) (S : Nat → Prop) (w : World) (i : Value) (wr : World) : Prop :=
 ∃ (k : Nat) (ad' bv' v' tv' : Value), k ≤ L.length ∧ i = .int .i64 k ∧ DkS S w d ad' bv' q v' tv' s (t ++ Dk.tellRts (L.take k)) wr ∧
  Rs wr av L ∧ ∀ p, av = some p → p.block < wr.heap.size ∧ ¬ FtD d q v' tv' bv' p.block
theorem DTab_some (d : Nat) (ad bv : Value) (q : PIds) (v tv : Value) (s : Fb.PT) (t : Dk.Bs) (tb : Nat) (v' : Value) (L : List Tb.Rt) (w : World) (hL : Dk.SmT L) (hl : t.length ≤ 9000000) (h : DkAt w d ad bv q v tv s t) (hT : TAt w tb v' L) :
  Calls Tryz.prog 49 #[.pointer (some ⟨d, 0, none⟩), .pointer (some ⟨tb, 0, none⟩)] w (DkTo d q v tv bv (.tuple #[]) s (t ++ Dk.tellTab (some L)) w) := by
 obtain ⟨R, hR⟩ : ∃ R, R = DkTo d q v tv bv (.tuple #[]) s (t ++ (Dk.tellRts L ++ Dk.say [Dk.tEnd])) w := ⟨_, rfl⟩
 show Calls Tryz.prog 49 _ w (DkTo d q v tv bv (.tuple #[]) s (t ++ (Dk.tellRts L ++ Dk.say [Dk.tEnd])) w)
 rw [← hR]
 have hl40 := hL.len
 have H := zh h; clear h; have HR := zh hR; clear hR; have HL := zh hL; clear hL; have HT := zh hT; clear hT
 go_enter Tryz.func49, Tryz.ntmps49
 go_wp2_with fail
 refine (ListT_any tb v' L _ (by omega) HT.out).mono ?_
 rintro e w1 ⟨lv, rfl, hv, hf⟩
 have h1 := (DkS.start H.out).keep hf
 have hlt := fun g => oL hv g
 obtain ⟨av, cv, rfl, hr, hnew, _⟩ := hv.shape
 have hap : ∀ p, av = some p → p.block < w1.heap.size ∧ ¬ FtD d q v tv bv p.block := fun p hp => by
  have hb : w.heap.size ≤ p.block ∧ p.block < w1.heap.size := hlt p.block (by rw [hp]; rfl)
  exact ⟨hb.2, fun e => by have := H.out.lt e; omega⟩
 clear hlt hf hv hnew HT
 have H1 := zh h1; clear h1; have HAP := zh hap; clear hap; have HV0 := zh hr; clear hr
 go_wp2
 go_loopw [15] (fun i wr => DTabRel d q s t L av (FtD d q v tv bv) w i wr) (fun i _ => L.length - (intOf i).toNat)
 case atStart => exact ⟨0, ad, bv, v, tv, by omega, rfl, by have := H1.out; simpa [Dk.tellRts] using this, HV0.out, HAP.out⟩
 case round =>
  clear H1 HAP HV0;obtain ⟨k, ad1, bv1, v1, tv1, hk, rfl, h1, hv, hap⟩ := hrel
  by_cases hkn : k < L.length
  ·have hkb : decide ((k : Int) < (L.length : Int)) = true := by simp; omega
   obtain ⟨b0, o0, rfl, c0, c1, c2⟩ := hv k hkn
   have hb0 := hap _ rfl
   have hx : L[k]? = some (Tb.nth L k) := by simp [Tb.nth, hkn]
   have hsm := HL.out.hop _ (List.mem_of_getElem? hx)
   have hlen := Dk.tellRts_len HL.out k
   have hlen2 := Dk.sayRt_len hsm
   have hsu : Dk.tellRts (L.take (k + 1)) = Dk.tellRts (L.take k) ++ Dk.sayRt (Tb.nth L k) := flat_succ Dk.sayRt _ k _ hx
   generalize Tb.nth L k = x at *;obtain ⟨⟨l, b⟩, hop⟩ := x
   have hh := sm64 hsm
   dsimp only at hh c0 c1 c2;clear hsm hx
   have H := zh h1; clear h1; have HV := zh hv; clear hv; have HAP := zh hap; clear hap; have HLEN := zh hlen; clear hlen; have HLEN2 := zh hlen2; clear hlen2; have HSU := zh hsu; clear hsu; have HHH := zh hh; clear hh; have HB0 := zh hb0; clear hb0;go_upto_region 5 with fail
   refine wp_name fun w2 hw2 => ?_
   have d0 : w2.cell? ⟨wr.heap.size, 0, none⟩ = some (.int .i64 l) := by rw [hw2]; simp
   have d1 : w2.cell? ⟨wr.heap.size, 1, none⟩ = some (.int .i64 b) := by rw [hw2]; simp
   have d2 : w2.cell? ⟨wr.heap.size, 2, none⟩ = some (.int .i64 hop) := by rw [hw2]; simp
   have hF : Fr NoB wr w2 := by rw [hw2]; (repeat (first | exact Fr.refl _ _ | refine Fr.alloc ?_ _ | refine Fr.setNew ?_ (by omega) _ _ | refine Fr.drewN ?_ _ | refine Fr.drew ?_))
   clear hw2 c0 c1 c2;have h2 := H.out.keep hF
   have hz : ¬ FtD d q v1 tv1 bv1 wr.heap.size := fun e => by have := H.out.at_.lt e; omega
   have hv2 := HV.out.keep hF (fun _ _ h => h)
   have hbz := Nat.lt_of_lt_of_le HB0.out.1 hF.size
   clear hF H HV;generalize wr.heap.size = z at *
   have hst : ∀ W, Fr NoB w2 W → W.cell? ⟨z, 0, none⟩ = some (.int .i64 l) ∧ W.cell? ⟨z, 1, none⟩ = some (.int .i64 b) ∧ W.cell? ⟨z, 2, none⟩ = some (.int .i64 hop) := fun W hW => ⟨cell_fr' hW d0 nB, cell_fr' hW d1 nB, cell_fr' hW d2 nB⟩
   clear d0 d1 d2;have F1 := zh (Fr.refl NoB w2)
   have H := zh h2; clear h2; have HZ := zh hz; clear hz; have HST := zh hst; clear hst; have HV := zh hv2; clear hv2; have HBZ := zh hbz; clear hbz
   go_region_held3 (fun W => W.cell? ⟨z, 0, none⟩ = some (.int .i64 l) ∧ W.cell? ⟨z, 1, none⟩ = some (.int .i64 b) ∧ W.cell? ⟨z, 2, none⟩ = some (.int .i64 hop))
    (first | exact HST.out _ F1.out.drew | exact HST.out _ F2.out | exact HST.out _ F3.out | exact HST.out _ (F3.out.alloc _) | exact ⟨g0, g1, g2⟩)
    (first | (go_at_call 78; refine (Text_r l b _ (H.out.keep F1.out.drew).at_.env).mono ?_; rintro e w3 ⟨X1, rfl, hX1, hs1, hf⟩; have F2 := zh (F1.out.drew.trans hf); have HX1 := zh hX1; clear hf hX1 hs1) | (go_at_call 46; refine (Num_any hop _ HHH.out (H.out.keep F2.out).at_.env).mono ?_; intro e w4 h4; obtain ⟨X2, rfl, hX2, hs2, hf⟩ := h4.r; have F3 := zh (F2.out.trans hf); have HX2 := zh hX2; clear hf h4 hX2 hs2) | (go_at_call 30; refine (Say_new d _ _ q _ _ s _ (Dk.sayRt ⟨⟨l, b⟩, hop⟩) [⟨#[114, 111, 117, 116, 101]⟩, X1, X2] _ _ (by show Dk.say [Dk.tRoute, X1.data.toList, X2.data.toList] = _; rw [HX1.out, HX2.out]; rfl) (by rw [List.length_append]; have := HLEN.out; have := HLEN2.out; omega) (by simp) (H.out.keep F3.out).at_).mono ?_; intro e w8 k8; obtain ⟨ad8, bv8, v8, tv8, rfl, h8⟩ := k8; have hst6 := HST.out _ F3.out; have g0 := cell_fr' h8.f hst6.1 HZ.out; have g1 := cell_fr' h8.f hst6.2.1 HZ.out; have g2 := cell_fr' h8.f hst6.2.2 HZ.out; clear hst6; have HV8 := zh ((HV.out.keep F3.out (fun _ _ h => h)).keep h8.f (fun p hp => by cases hp; exact HB0.out.2)); have HN8 := zh (show b0 < w8.heap.size ∧ ¬ FtD d q v8 tv8 bv8 b0 from ⟨by have := HBZ.out; have := F3.out.size; have := h8.f.size; omega, fun e => by rcases h8.new _ e with e | e; exact HB0.out.2 e; have := HBZ.out; have := F3.out.size; omega⟩); have H8 := zh ((H.out.keep F3.out).go h8); clear h8))
   go_wp2;go_roundw
   case rel => exact ⟨k + 1, ad8, bv8, v8, tv8, by omega, by go_num, by rw [HSU.out, ← List.append_assoc]; exact H8.out, HV8.out, fun p hp => by cases hp; exact HN8.out⟩
   case measure => simp [intOf]; omega
  have e : L.take k = L := List.take_of_length_le (by omega)
  rw [e] at h1;have hlen := Dk.tellRts_len HL.out k
  rw [e] at hlen;have hkb : decide ((k : Int) < (L.length : Int)) = false := by simp; omega
  clear e hv hap;have H := zh h1; clear h1; have HLEN := zh hlen; clear hlen
  go_wp2_with fail;refine (Say_new d _ _ q _ _ s _ _ [⟨#[101, 110, 100]⟩] _ _ rfl (by rw [List.length_append]; have := HLEN.out; have : (Dk.say (bss [⟨#[101, 110, 100]⟩])).length = 4 := rfl; omega) (by simp) H.out.at_).mono ?_
  intro e w3 k3;obtain ⟨ad3, bv3, v3, tv3, rfl, h3⟩ := DkTo.after H.out k3
  clear k3;have H3 := zh h3; clear h3
  go_wp2;go_end0
  rw [HR.out];exact ⟨ad3, bv3, v3, tv3, rfl, by rw [← List.append_assoc]; exact H3.out⟩
theorem tripS_succ (e c : Int) (l : List Int) (k : Nat) (h : k < l.length) : Dk.tripS e c (l.take (k + 1)) = Dk.tripS e c (l.take k) ++ 32 :: Lib.itoa (l.getD k 0) := by
 unfold Dk.tripS
 have hx : l[k]? = some (l.getD k 0) := by simp [h]
 rw [flat_succ (fun n => 32 :: Lib.itoa n) l k _ hx]
 simp [List.append_assoc]
def LetRel (d : Nat) (q : PIds) (v tv ad bv : Value) (s : Fb.PT) (t : Dk.Bs) (e0 c0 : Int) (l : List Int) (nv : Value) (S : Nat → Prop) (w : World) (sv i : Value) (wr : World) : Prop :=
 ∃ (k : Nat) (X : ByteArray), k ≤ l.length ∧ i = .int .i64 k ∧ sv = .string X ∧ X.data.toList = Dk.tripS e0 c0 (l.take k) ∧ X.size ≤ 202 ∧ DkS S w d ad bv q v tv s t wr ∧ Sl wr 0 nv l
theorem Letter_any (d : Nat) (ad bv : Value) (q : PIds) (v tv : Value) (s : Fb.PT) (t : Dk.Bs) (a b : Int) (m : Nat) (w : World) (hs : Dk.DOk s m) (hl : t.length ≤ 9000000) (h : DkAt w d ad bv q v tv s t) :
  Calls Tryz.prog 52 #[.pointer (some ⟨d, 0, none⟩), .int .i64 a, .int .i64 b] w (DkTo d q v tv bv (.tuple #[]) s (t ++ Dk.say [Dk.tripS (Dk.trip s a b).2.2 (Dk.trip s a b).2.1 (Dk.trip s a b).1]) w) := by
 have hsm := Dk.trip_sm hs a b
 have hgo := fun (kb : Nat) T V W (hk : WkAt W kb q.p T V (tabOf true s)) (hW : Fr NoB w W) => WGo_any kb T V (tabOf true s) q v tv s (Wk.hopA s.t (Tb.look s.o b)) a b W hk (h.keep0 hW).post hs.ok.str.ok.cost (fun _ hk => ⟨(tab_ok hs.ok hk true).2, tab_look hs.ok hk true b⟩)
 have e0 : Wk.tripT (Wk.hopA s.t (Tb.look s.o b)) s.t.C a = Dk.trip s a b := rfl
 rw [e0] at hgo
 clear e0
 generalize Dk.trip s a b = r at *
 obtain ⟨l, co, en⟩ := r
 unfold GoPost at hgo
 dsimp only at hgo ⊢
 obtain ⟨R, hR⟩ : ∃ R, R = DkTo d q v tv bv (.tuple #[]) s (t ++ Dk.say [Dk.tripS en co l]) w := ⟨_, rfl⟩
 rw [← hR]
 have p2 := h.c2
 have hln : l.length ≤ 7 := hsm.len
 have hce := sm64 hsm.e
 have hcc := sm64 hsm.c
 dsimp only at hce hcc
 have hnw := NewW true q v tv s m w hs.ok h.post
 have H := zh h; clear h; have HR := zh hR; clear hR; have HGO := zh hgo; clear hgo; have HSM := zh hsm; clear hsm; have HE := zh hce; clear hce; have HC := zh hcc; clear hcc; have HNW := zh hnw; clear hnw
 clear hs
 go_enter Tryz.func52, Tryz.ntmps52
 go_wp2_with fail
 refine HNW.out.mono ?_
 rintro e w1 ⟨kb, T, V, rfl, hk, hf, _⟩
 have hgo := HGO.out kb T V w1 hk hf
 clear hk HGO HNW p2
 have HGO := zh hgo; clear hgo; have HF := zh hf; clear hf
 go_wp2_with fail
 refine HGO.out.mono ?_
 rintro e w2 ⟨nv, rfl, hnv, hf⟩
 have hF2 := HF.out.trans hf
 have hsl : Sl w2 0 nv l := ⟨hnv.1, by
  rcases hnv.2 with e | ⟨g, cap, cur, e1, _, e2⟩
  ·exact .inl e
  exact .inr ⟨g, cap, cur, e1, Nat.zero_le _, e2⟩⟩
 obtain ⟨al, cn, rfl, _⟩ := ownsRow_rd hsl
 clear hnv hf HF HGO
 have HF2 := zh hF2; clear hF2; have HSL := zh hsl; clear hsl
 go_upto_region 1 with fail
 refine wp_name fun w3 hw3 => ?_
 have d0 : w3.cell? ⟨w2.heap.size, 0, none⟩ = some (.slice al l.length cn) := by rw [hw3]; simp
 have d1 : w3.cell? ⟨w2.heap.size, 1, none⟩ = some (.int .i64 co) := by rw [hw3]; simp
 have d2 : w3.cell? ⟨w2.heap.size, 2, none⟩ = some (.int .i64 en) := by rw [hw3]; simp
 have hF : Fr NoB w2 w3 := by rw [hw3]; (repeat (first | exact Fr.refl _ _ | refine Fr.alloc ?_ _ | refine Fr.setNew ?_ (by omega) _ _ | refine Fr.drewN ?_ _ | refine Fr.drew ?_))
 clear hw3
 have h3 := (DkS.start H.out).keep (HF2.out.trans hF)
 have hs3 : Sl w3 0 (.slice al l.length cn) l := own_keep HSL.out hF (fun _ _ h => h)
 clear hF HF2 HSL
 generalize w2.heap.size = z at *
 have hst : ∀ W, Fr NoB w3 W → W.cell? ⟨z, 0, none⟩ = some (.slice al l.length cn) ∧ W.cell? ⟨z, 1, none⟩ = some (.int .i64 co) ∧ W.cell? ⟨z, 2, none⟩ = some (.int .i64 en) := fun W hW => ⟨cell_fr' hW d0 nB, cell_fr' hW d1 nB, cell_fr' hW d2 nB⟩
 clear d0 d1 d2
 have F1 := zh (Fr.refl NoB w3)
 have H3 := zh h3; clear h3; have HS3 := zh hs3; clear hs3; have HST := zh hst; clear hst
 go_region_held3 (fun W => W.cell? ⟨z, 0, none⟩ = some (.slice al l.length cn) ∧ W.cell? ⟨z, 1, none⟩ = some (.int .i64 co) ∧ W.cell? ⟨z, 2, none⟩ = some (.int .i64 en))
  (first | exact HST.out _ F1.out.drew | exact HST.out _ F2.out | exact HST.out _ F3.out)
  (first | (go_at_call 46; refine (Num_any en _ HE.out (H3.out.keep F1.out.drew).at_.env).mono ?_; intro e w4 h4; obtain ⟨X1, rfl, hX1, hs1, hf⟩ := h4.r; have F2 := zh (F1.out.drew.trans hf); have hq1 : X1.size ≤ 21 := (by rw [hs1]; exact Dk.itoa_len HSM.out.e); have hk1 : ¬ (9223372036854775807 < 5 + X1.size) := (by omega); have hk2 : ¬ (9223372036854775807 < 5 + X1.size + 1) := (by omega); have HX1 := zh hX1; clear hf h4 hX1 hs1) | (go_at_call 46; refine (Num_any co _ HC.out (H3.out.keep F2.out).at_.env).mono ?_; intro e w5 h5; obtain ⟨X2, rfl, hX2, hs2, hf⟩ := h5.r; have F3 := zh (F2.out.trans hf); have hq2 : X2.size ≤ 21 := (by rw [hs2]; exact Dk.itoa_len HSM.out.c); have hk3 : ¬ (9223372036854775807 < 5 + X1.size + 1 + X2.size) := (by omega); have HX2 := zh hX2; clear hf h5 hX2 hs2))
 have h5 := H3.out.keep F3.out
 have hs5 := own_keep HS3.out F3.out (fun _ _ h => h)
 have c0 := (HST.out _ F3.out).1
 have hY : (((⟨#[116, 114, 105, 112, 32]⟩ : ByteArray) ++ X1 ++ ⟨#[32]⟩) ++ X2).data.toList = Dk.tripS en co (l.take 0) := by
  rw [ba_app, ba_app, ba_app, HX1.out, HX2.out];simp [Dk.tripS, Dk.tTrip]
 have hYs : (((⟨#[116, 114, 105, 112, 32]⟩ : ByteArray) ++ X1 ++ ⟨#[32]⟩) ++ X2).size ≤ 202 := by
  rw [ba_size, hY];exact Dk.tripS_len HSM.out.e HSM.out.c HSM.out.len HSM.out.n 0
 clear H3 HS3 HST F1 F2 F3 HX1 HX2 hk1 hk2 hk3
 have H5 := zh h5; clear h5; have HS5 := zh hs5; clear hs5; have HY := zh hY; clear hY; have HYS := zh hYs; clear hYs
 go_wp2
 go_loopw [7, 9, 30] (fun sv _ i wr => LetRel d q v tv ad bv s t en co l (.slice al l.length cn) (FtD d q v tv bv) w sv i wr) (fun _ _ i _ => l.length - (intOf i).toNat)
 case atStart => exact ⟨0, _, by omega, rfl, rfl, HY.out, HYS.out, H5.out, HS5.out⟩
 case round =>
  clear H5 HS5 HY HYS;obtain ⟨k, X, hk, rfl, rfl, hX, hXs, h1, hsl⟩ := hrel
  by_cases hkn : k < l.length
  ·have hkb : decide ((k : Int) < (l.length : Int)) = true := by simp; omega
   obtain ⟨g, rfl, cg⟩ := Sl.at hsl hkn
   have hx64 : Dk.Sm (l.getD k 0) := HSM.out.n _ (by
    have e : l.getD k 0 = l[k] := by simp [hkn]
    rw [e]; exact List.getElem_mem _)
   have hsu := tripS_succ en co l k hkn
   have hlen := Dk.tripS_len HSM.out.e HSM.out.c HSM.out.len HSM.out.n (k + 1)
   dsimp only at hlen;generalize l.getD k 0 = x at *
   have H := zh h1; clear h1; have HSL := zh hsl; clear hsl; have HX := zh hX; clear hX; have HX64 := zh hx64; clear hx64; have HSU := zh hsu; clear hsu; have HLEN := zh hlen; clear hlen;go_wp2_with fail
   refine (Num_any x _ (sm64 HX64.out) H.out.at_.env).mono ?_
   intro e w4 h4;obtain ⟨Y, rfl, hYd, hys, hf⟩ := h4.r
   have hq1 : Y.size ≤ 21 := by rw [hys]; exact Dk.itoa_len HX64.out
   have h6 := H.out.keep hf
   have hs6 := own_keep HSL.out hf (fun _ _ h => h)
   have hZ : (X ++ ((⟨#[32]⟩ : ByteArray) ++ Y)).data.toList = Dk.tripS en co (l.take (k + 1)) := by
    rw [ba_app, ba_app, HX.out, hYd, HSU.out];rfl
   have hZs : (X ++ ((⟨#[32]⟩ : ByteArray) ++ Y)).size ≤ 202 := by rw [ba_size, hZ]; exact HLEN.out
   clear hf h4 hYd hys H HSL HX;have H6 := zh h6; clear h6; have HS6 := zh hs6; clear hs6; have HZ := zh hZ; clear hZ; have HZS := zh hZs; clear hZs
   go_wp2;go_roundw
   case rel => exact ⟨k + 1, _, by omega, by go_num, rfl, HZ.out, HZS.out, H6.out, HS6.out⟩
   case measure => simp [intOf]; omega
  have e : l.take k = l := List.take_of_length_le (by omega)
  rw [e] at hX;have hkb : decide ((k : Int) < (l.length : Int)) = false := by simp; omega
  clear e hsl;have H1 := zh h1; clear h1; have HX := zh hX; clear hX
  go_wp2_with fail;refine (Say_new d _ _ q _ _ s _ (Dk.say [Dk.tripS en co l]) [X] _ _ (by show Dk.say [X.data.toList] = _; rw [HX.out]) (by rw [Dk.say1_len, ← HX.out]; have e : X.data.toList.length = X.size := (ba_size X).symm; omega) (by simp) H1.out.at_).mono ?_
  intro e w3 k3;obtain ⟨ad3, bv3, v3, tv3, rfl, h3⟩ := DkTo.after H1.out k3
  clear k3;have H3 := zh h3; clear h3
  go_wp2;go_end0
  rw [HR.out];exact ⟨ad3, bv3, v3, tv3, rfl, H3.out⟩
def AtoiPost (l : Dk.Bs) (w : World) (e : Ending) (w' : World) : Prop :=
 Fr NoB w w' ∧ ((∃ k, Lib.atoiAll l = .ok k ∧ I64 k ∧ e = .returned (.tuple #[.int .i64 k, .nilIface])) ∨ (Dk.numOf l = none ∧ ∃ k te pe, e = .returned (.tuple #[.int .i64 k, .iface te pe])))
theorem Atoi_any (s : ByteArray) (w : World) (hs : s.size ≤ 2097152) (hE : Env w) : Calls Tryz.prog 32 #[.string s] w (AtoiPost s.data.toList w) := by
 cases h : Lib.atoiAll s.data.toList with
 | ok k =>
  refine (Tryz.strconv_Atoi_ok s (by omega) k h w).mono ?_
  rintro e w' ⟨rfl, hw⟩
  refine ⟨?_, .inl ⟨k, h, Lib.atoiAll_bounds h, rfl⟩⟩
  rcases hw with rfl | ⟨t, rfl⟩
  ·exact Fr.refl _ _
  exact Fr.of_below (Lib.bytesWorld_below w _ t)
 | range =>
  obtain ⟨te, pe, hc⟩ := hE.ran
  refine (Tryz.strconv_Atoi_range s (by omega) h _ w hc (.inr ⟨_, _, rfl⟩)).mono ?_
  rintro e w' ⟨N, rfl, _, _, hb⟩
  exact ⟨Fr.of_below hb, .inr ⟨by unfold Dk.numOf; rw [h], _, _, _, rfl⟩⟩
 | _ =>
  obtain ⟨te, pe, hc⟩ := hE.syn
  refine (Tryz.strconv_Atoi_none s (by omega) (by intro v e; rw [h] at e; cases e) (by intro e; rw [h] at e; cases e) _ w hc (.inr ⟨_, _, rfl⟩)).mono ?_
  rintro e w' ⟨N, rfl, _, _, hb⟩
  exact ⟨Fr.of_below hb, .inr ⟨by unfold Dk.numOf; rw [h], _, _, _, rfl⟩⟩
theorem numOf_ok {l : Dk.Bs} {k : Int} (h : Lib.atoiAll l = .ok k) (e : Lib.itoa k = l) : Dk.numOf l = some k := by
 unfold Dk.numOf
 rw [h]
 dsimp only
 rw [if_pos e]
theorem numOf_no {l : Dk.Bs} {k : Int} (h : Lib.atoiAll l = .ok k) (e : Lib.itoa k ≠ l) : Dk.numOf l = none := by
 unfold Dk.numOf
 rw [h]
 dsimp only
 rw [if_neg e]
theorem str_neq (X Y : ByteArray) : (X.toList == Y.toList) = decide (X.data.toList = Y.data.toList) := by
 rw [ByteArray.toList_eq, ByteArray.toList_eq]
 by_cases h : X.data.toList = Y.data.toList
 ·rw [h]; simp
 rw [decide_eq_false h]
 simpa using h
def NumsPost (o : Option (List Int)) (w : World) (e : Ending) (w' : World) : Prop :=
 Fr NoB w w' ∧ ((o = none ∧ e = .returned (.tuple #[.slice none 0 0, .bool false])) ∨ (∃ xs v, o = some xs ∧ e = .returned (.tuple #[v, .bool true]) ∧ Sl w' w.heap.size v xs))
def NumsRel (ss : List ByteArray) (w : World) (v i : Value) (wr : World) : Prop :=
 ∃ (k : Nat) (xs : List Int), k ≤ ss.length ∧ i = .int .i64 k ∧ Dk.numsOf (bss (ss.take k)) = some xs ∧ Sl wr w.heap.size v xs ∧ Fr NoB w wr
theorem bss_step {ss : List ByteArray} {k : Nat} (h : k < ss.length) : bss (ss.take (k + 1)) = bss (ss.take k) ++ [(ss.getD k .empty).data.toList] ∧ bss ss = bss (ss.take k) ++ [(ss.getD k .empty).data.toList] ++ bss (ss.drop (k + 1)) := by
 have h1 : ss.take (k + 1) = ss.take k ++ [ss.getD k .empty] := by
  rw [List.take_add_one];simp [h]
 refine ⟨by unfold bss; rw [h1, List.map_append]; rfl, ?_⟩
 have h2 : ss = ss.take k ++ [ss.getD k .empty] ++ ss.drop (k + 1) := by rw [← h1]; exact (List.take_append_drop _ _).symm
 conv => lhs; rw [h2]
 unfold bss
 rw [List.map_append, List.map_append]
 rfl
theorem ints_app (xs : List Int) (x : Int) : xs.map (Value.int .i64) ++ [Value.int .i64 x] = (xs ++ [x]).map (Value.int .i64) := by simp
theorem Numbers_any (a : Option Addr) (c : Nat) (ss : List ByteArray) (w : World) (hS : RdS w a ss) (hz : ∀ x ∈ ss, x.size ≤ 2097152) (hn : ss.length ≤ 2097152) (hE : Env w) :
  Calls Tryz.prog 28 #[.slice a ss.length c] w (NumsPost (Dk.numsOf (bss ss)) w) := by
 obtain ⟨R, hR⟩ : ∃ R, R = NumsPost (Dk.numsOf (bss ss)) w := ⟨_, rfl⟩
 rw [← hR]
 have HR := zh hR; clear hR; have HS := zh hS; clear hS; have HZ := zh hz; clear hz; have HE := zh hE; clear hE
 go_enter Tryz.func28, Tryz.ntmps28
 go_wp2
 go_loopw [4, 6, 7, 8, 11] (fun v _ _ _ i wr => NumsRel ss w v i wr) (fun _ _ _ _ i _ => ss.length - (intOf i).toNat)
 case atStart => exact ⟨0, [], by omega, rfl, rfl, Sl.nil _ _, Fr.refl _ _⟩
 case round =>
  obtain ⟨k, xs, hk, rfl, hxs, hv, hf⟩ := hrel
  have hxl := Dk.nums_len hxs
  unfold bss at hxl;rw [List.length_map, List.length_take] at hxl
  have hxl : xs.length ≤ 2097152 := by omega
  by_cases hkn : k < ss.length
  ·have hkb : decide ((k : Int) < (ss.length : Int)) = true := by simp; omega
   obtain ⟨b0, o0, rfl, c0⟩ := (HS.out.keep0 hf) k hkn
   obtain ⟨hb1, hb2⟩ := bss_step hkn
   have hsz := HZ.out (ss.getD k .empty) (by rw [List.getD_eq_getElem?_getD, List.getElem?_eq_getElem hkn]; exact List.getElem_mem _)
   have hat := fun W (hW : Fr NoB w W) => Atoi_any (ss.getD k .empty) W hsz (HE.out.keep0 hW)
   generalize ss.getD k .empty = X at *;have HV := zh hv; clear hv; have HF := zh hf; clear hf; have HXS := zh hxs; clear hxs; have HB1 := zh hb1; clear hb1; have HB2 := zh hb2; clear hb2; have HAT := zh hat; clear hat
   go_wp2_with fail;refine (HAT.out _ HF.out).mono ?_
   rintro e w1 ⟨hf1, h1⟩
   have hF1 := HF.out.trans hf1
   have hv1 : Sl w1 w.heap.size _ xs := own_keep HV.out hf1 (fun _ _ h => h)
   clear HV HF hf1 c0 HAT;have HV := zh hv1; clear hv1; have HF := zh hF1; clear hF1
   rcases h1 with ⟨kk, hok, hk64, rfl⟩ | ⟨hno, kk, te, pe, rfl⟩
   ·have HOK := zh hok; clear hok; have HK64 := zh hk64; clear hk64;go_wp2_with fail
    refine (Num_any kk _ HK64.out (HE.out.keep0 HF.out)).mono ?_
    intro e w2 h2;obtain ⟨Y, rfl, hY, _, hf2⟩ := h2.r
    have hF2 := HF.out.trans hf2
    have hv2 : Sl w2 w.heap.size _ xs := own_keep HV.out hf2 (fun _ _ h => h)
    clear HV HF hf2 h2;have HV := zh hv2; clear hv2; have HF := zh hF2; clear hF2
    by_cases hq : Lib.itoa kk = X.data.toList
    ·have hqb : (Y.toList == X.toList) = true := by rw [str_neq, hY, hq]; simp
     have hnum := numOf_ok HOK.out hq
     have hst : Dk.numsOf (bss (ss.take (k + 1))) = some (xs ++ [kk]) := by rw [HB1.out]; exact Dk.nums_snoc hnum HXS.out
     clear hnum hq hY;have HST := zh hst; clear hst
     have hnew : ∀ j u, ([.int .i64 kk] : List Value)[j]? = some u → (w2.alloc (.cells #[.int .i64 kk] 3)).cell? ((⟨w2.heap.size, 0, none⟩ : Addr).add j) = some u := by
      intro j u hj
      match j, hj with
      | 0, hj => simp at hj; subst hj; simp [Addr.add]
     have hzz := HF.out.size
     go_wp2_with (at_builtin; refine app_own rfl _ _ 76 3 1 8 _ rfl Tryz.underlying76 Tryz.info3 rfl (by omega) w.heap.size _ xs.length _ rfl (oA HV.out _) ⟨w2.heap.size, 0, none⟩ 1 1 [.int .i64 kk] rfl rfl hnew (ints_one [kk]) (by omega) (by omega) (by simp; omega) ?_; intro v' w3 hv3 hf3)
     have hF3 : Fr NoB w w3 := (HF.out.alloc _).ownB (oA HV.out _) (Nat.le_refl _) hf3
     have hv3' : Sl w3 w.heap.size v' (xs ++ [kk]) := by
      unfold Sl;rw [List.length_append, ← ints_app]
      exact hv3
     clear hv3 hf3 HV HF hnew;have HV := zh hv3'; clear hv3'; have HF := zh hF3; clear hF3
     go_wp2;go_roundw
     case rel => exact ⟨k + 1, xs ++ [kk], by omega, by go_num, HST.out, HV.out, HF.out⟩
     case measure => simp [intOf]; omega
    have hqb : (Y.toList == X.toList) = false := by rw [str_neq, hY]; simpa using hq
    have hno : Dk.numsOf (bss ss) = none := by
     rw [HB2.out];exact Dk.nums_no _ (Dk.nums_snoc_no (numOf_no HOK.out hq) HXS.out)
    clear hq hY;have HNO := zh hno; clear hno
    go_wp2;rw [HR.out]
    exact ⟨HF.out, .inl ⟨HNO.out, rfl⟩⟩
   have hno : Dk.numsOf (bss ss) = none := by
    rw [HB2.out];exact Dk.nums_no _ (Dk.nums_snoc_no hno HXS.out)
   have HNO := zh hno; clear hno;go_wp2
   rw [HR.out];exact ⟨HF.out, .inl ⟨HNO.out, rfl⟩⟩
  have e : ss.take k = ss := List.take_of_length_le (by omega)
  rw [e] at hxs;have hkb : decide ((k : Int) < (ss.length : Int)) = false := by simp; omega
  clear e;have HV := zh hv; clear hv; have HF := zh hf; clear hf; have HXS := zh hxs; clear hxs
  go_wp2;rw [HR.out]
  exact ⟨HF.out, .inr ⟨xs, _, HXS.out, rfl, HV.out⟩⟩
def PfOr (o : Option Tb.Pf) (w : World) (e : Ending) (w' : World) : Prop := e = .returned (.tuple #[pfA (o.getD ⟨0, 0⟩), .bool o.isSome]) ∧ Fr NoB w w'
def CutPost (T : ByteArray) (b : Bool) (w : World) (e : Ending) (w' : World) : Prop := e = .returned (.tuple #[.string T, .bool b]) ∧ w' = w
theorem cut_call (s T : ByteArray) (b : Bool) (hs : s.size ≤ maxLen) (h1 : Lib.trimSuffix s.data.toList [42] = T.data.toList) (h2 : Lib.hasSuffix s.data.toList [42] = b) (w : World) :
  Calls Tryz.prog 73 #[.string s, .string ⟨#[42]⟩] w (CutPost T b w) := by
 have h := Tryz.strings_CutSuffix s ⟨#[42]⟩ w (by unfold maxLen at hs; exact hs)
 have hR2 : ((⟨#[42]⟩ : ByteArray).data.toList) = [42] := rfl
 rw [hR2, h1, h2] at h
 exact h
theorem none_post (w w' : World) (h : Fr NoB w w') : PfOr none w (.returned (.tuple #[pfA ⟨0, 0⟩, .bool false])) w' := ⟨rfl, h⟩
theorem Parse_long (s T : ByteArray) (b : Bool) (w : World) (hs : s.size ≤ maxLen) (h1 : Lib.trimSuffix s.data.toList [42] = T.data.toList) (h2 : Lib.hasSuffix s.data.toList [42] = b) (hT : 8 < T.size) :
  Calls Tryz.prog 44 #[.string s] w (PfOr none w) := by
 have hc := cut_call s T b hs h1 h2
 have hT' : decide ((8 : Int) < (T.size : Int)) = true := by simp; omega
 have HC := zh hc; clear hc
 clear hs h1 h2 hT
 go_enter Tryz.func44, Tryz.ntmps44
 go_upto_region 1 with fail
 refine wp_name fun w1 hw1 => ?_
 have hF : Fr NoB w w1 := by rw [hw1]; (repeat (first | exact Fr.refl _ _ | refine Fr.alloc ?_ _ | refine Fr.setNew ?_ (by omega) _ _ | refine Fr.drewN ?_ _ | refine Fr.drew ?_))
 have hr : w1.rowIs w.heap.size 83 2 (fun _ => .int .i64 0) := by rw [hw1]; exact rowIs_new w 2 (.int .i64 0) 83
 clear hw1
 have z0 := rC hr (i := 0) (by omega)
 have z1 := rC hr (i := 1) (by omega)
 have f0 := rF hr 0
 have f1 := rF hr 1
 have HF := zh hF; clear hF; have HR := zh hr; clear hr
 go_wp2_with fail
 refine (HC.out _).mono ?_
 rintro e w2 ⟨rfl, rfl⟩
 go_wp2
 refine bodyPost_ret (v := .tuple #[pfA ⟨0, 0⟩, .bool false]) ?_ rfl (none_post w _ ((HF.out.setNew (Nat.le_refl _) _ _).setNew (Nat.le_refl _) _ _))
 simp [results, Tryz.results44, go_sem, pfA, z0, z1]
theorem Parse_mixed (s T : ByteArray) (b : Bool) (w : World) (hs : s.size ≤ maxLen) (h1 : Lib.trimSuffix s.data.toList [42] = T.data.toList) (h2 : Lib.hasSuffix s.data.toList [42] = b) (hT : T.size ≤ 8) (hb : ((T.size : Int) == 8) = b) :
  Calls Tryz.prog 44 #[.string s] w (PfOr none w) := by
 have hc := cut_call s T b hs h1 h2
 have hT' : decide ((8 : Int) < (T.size : Int)) = false := by simp; omega
 have HC := zh hc; clear hc
 clear hs h1 h2 hT
 cases b <;>
 ·go_enter Tryz.func44, Tryz.ntmps44
  go_upto_region 1 with fail
  refine wp_name fun w1 hw1 => ?_
  have hF : Fr NoB w w1 := by rw [hw1]; (repeat (first | exact Fr.refl _ _ | refine Fr.alloc ?_ _ | refine Fr.setNew ?_ (by omega) _ _ | refine Fr.drewN ?_ _ | refine Fr.drew ?_))
  have hr : w1.rowIs w.heap.size 83 2 (fun _ => .int .i64 0) := by rw [hw1]; exact rowIs_new w 2 (.int .i64 0) 83
  clear hw1;have z0 := rC hr (i := 0) (by omega)
  have z1 := rC hr (i := 1) (by omega)
  have f0 := rF hr 0
  have f1 := rF hr 1
  have HF := zh hF; clear hF; have HR := zh hr; clear hr;go_wp2_with fail
  refine (HC.out _).mono ?_
  rintro e w2 ⟨rfl, rfl⟩
  go_wp2;refine bodyPost_ret (v := .tuple #[pfA ⟨0, 0⟩, .bool false]) ?_ rfl (none_post w _ ((HF.out.setNew (Nat.le_refl _) _ _).setNew (Nat.le_refl _) _ _))
  simp [results, Tryz.results44, go_sem, pfA, z0, z1]
def PsRel (T : ByteArray) (w : World) (B : Nat) (i : Value) (wr : World) : Prop :=
 ∃ k : Nat, k ≤ T.size ∧ i = .int .i64 k ∧ Tb.allb (T.data.toList.take k) ∧
  (∃ F : Nat → Value, wr.rowIs B 83 2 F ∧ F 0 = .int .i64 T.size ∧ F 1 = .int .i64 (Tb.vl (T.data.toList.take k))) ∧
  wr.rowIs w.heap.size 83 2 (fun _ => .int .i64 0) ∧ Fr NoB w wr
def psOpt (T : ByteArray) : Option Tb.Pf := if Tb.allb T.data.toList then some ⟨T.size, Tb.vl T.data.toList⟩ else none
theorem pair_row (w : World) (x y : Value) (t : TypeId) : ∃ F : Nat → Value, (w.alloc (.cells #[x, y] t)).rowIs w.heap.size t 2 F ∧ F 0 = x ∧ F 1 = y := by
 refine ⟨fun i => (#[x, y] : Array Value).getD i x, World.rowIs_alloc w #[x, y] t _ (fun i hi => ?_), rfl, rfl⟩
 have hi : i < 2 := hi
 have : i = 0 ∨ i = 1 := by omega
 rcases this with rfl | rfl <;> rfl
theorem idx_ty : Tryz.prog.underlying 9 = some .string := by kernel_rfl
theorem idx_run (T : ByteArray) (k : Nat) (h : k < T.size) (W : World) : (Instr.index 9 (.string T) (.int .i64 k)).run Tryz.prog W = .ok (.int .u8 ((T.data.toList[k]'(by rw [← ba_size]; exact h)).toNat)) W := by
 rw [run_index_string W 9 T .i64 k idx_ty, dif_pos ⟨by omega, by omega⟩]
 congr 1
theorem take_snoc {l : List UInt8} {k : Nat} (h : k < l.length) : l.take (k + 1) = l.take k ++ [l[k]] := by simp
theorem psOpt_all {T : ByteArray} (h : Tb.allb (T.data.toList.take T.size)) : psOpt T = some ⟨T.size, Tb.vl (T.data.toList.take T.size)⟩ := by
 have e : T.data.toList.take T.size = T.data.toList := by rw [ba_size, List.take_length]
 rw [e] at h ⊢
 unfold psOpt
 rw [if_pos h]
theorem psOpt_no {T : ByteArray} {k : Nat} (h : k < T.data.toList.length) (hn : ¬ Tb.isb T.data.toList[k]) : psOpt T = none := by
 unfold psOpt
 rw [if_neg (fun ha => hn (ha _ (List.getElem_mem h)))]
theorem PsRel.next {T : ByteArray} {w wr : World} {B k : Nat} {F : Nat → Value} (hk : k < T.size) (hall : Tb.allb (T.data.toList.take (k + 1))) (hp : wr.rowIs B 83 2 F) (hp0 : F 0 = .int .i64 T.size)
  (hr : wr.rowIs w.heap.size 83 2 (fun _ => .int .i64 0)) (hf : Fr NoB w wr) (hB : w.heap.size < B) {X : Int} (hX : X = Tb.vl (T.data.toList.take (k + 1))) :
  PsRel T w B (.int .i64 ((k : Int) + 1)) (wr.setCell ⟨B, 1, none⟩ (.int .i64 X)).drew := by
 subst hX
 refine ⟨k + 1, hk, rfl, hall, ⟨_, World.rowIs.set hp 1 _, ?_, ?_⟩, World.rowIs.setOther hr (by show w.heap.size ≠ B; omega) _, (hf.setNew (by omega) _ _).drew⟩
 ·rw [if_neg (by decide)]; exact hp0
 rw [if_pos rfl]
theorem Parse_loop (s T : ByteArray) (b : Bool) (w : World) (hs : s.size ≤ maxLen) (h1 : Lib.trimSuffix s.data.toList [42] = T.data.toList) (h2 : Lib.hasSuffix s.data.toList [42] = b) (hT : T.size ≤ 8) (hb : ((T.size : Int) == 8) = !b) :
  Calls Tryz.prog 44 #[.string s] w (PfOr (psOpt T) w) := by
 have hc := cut_call s T b hs h1 h2
 have hT' : decide ((8 : Int) < (T.size : Int)) = false := by simp; omega
 have HC := zh hc; clear hc
 clear hs h1 h2
 cases b <;>
 ·go_enter Tryz.func44, Tryz.ntmps44
  go_upto_region 1 with fail
  refine wp_name fun w1 hw1 => ?_
  have hF : Fr NoB w w1 := by rw [hw1]; (repeat (first | exact Fr.refl _ _ | refine Fr.alloc ?_ _ | refine Fr.setNew ?_ (by omega) _ _ | refine Fr.drewN ?_ _ | refine Fr.drew ?_))
  have hr : w1.rowIs w.heap.size 83 2 (fun _ => .int .i64 0) := by rw [hw1]; exact rowIs_new w 2 (.int .i64 0) 83
  have hz : w.heap.size < w1.heap.size := by rw [hw1]; simp
  clear hw1;have HZ := zh hz
  clear hz;have HF := zh hF; clear hF; have HR := zh hr; clear hr
  go_wp2_with fail;refine (HC.out _).mono ?_
  rintro e w2 ⟨rfl, rfl⟩
  go_upto_region 5 with fail
  refine wp_name fun w3 hw3 => ?_
  obtain ⟨B, hB⟩ : ∃ B, B = w2.heap.size := ⟨_, rfl⟩
  have hp := pair_row w2 (.int .i64 T.size) (.int .i64 0) 83
  rw [← hw3, ← hB] at hp;have hF3 : Fr NoB w w3 := by rw [hw3]; exact HF.out.alloc _
  have hr3 : w3.rowIs w.heap.size 83 2 (fun _ => .int .i64 0) := ((Fr.refl NoB w2).alloc _).row HR.out (fun h => h) |> fun h => by rw [hw3]; exact h
  have hz : w.heap.size < B := hB ▸ HZ.out
  rw [← hB];clear hw3 hB HR HF
  have HF := zh hF3; clear hF3; have HR := zh hr3; clear hr3; have HP := zh hp; clear hp;go_wp2
  go_loopw [29] (fun i wr => PsRel T w B i wr) (fun i _ => T.size - (intOf i).toNat)
  case atStart => exact ⟨0, by omega, rfl, (fun c hc => by cases hc), HP.out, HR.out, HF.out⟩
  case round =>
   obtain ⟨k, hk, rfl, hall, ⟨F, hp, hp0, hp1⟩, hr, hf⟩ := hrel
   have z0 := rC hr (i := 0) (by omega)
   have z1 := rC hr (i := 1) (by omega)
   have f0 := rF hr 0
   have f1 := rF hr 1
   have c0 := rC hp (i := 0) (by omega)
   have c1 := rC hp (i := 1) (by omega)
   have g1 := rF hp 1
   rw [hp0] at c0;rw [hp1] at c1
   have hv := Tb.vl_lt k (T.data.toList.take k) (by rw [List.length_take, ← ba_size]; omega) hall
   by_cases hkk : k < T.size
   ·have hkb : decide ((k : Int) < (T.size : Int)) = true := by simp; omega
    have hv256 : Tb.vl (T.data.toList.take k) < 128 := Nat.lt_of_lt_of_le hv (Nat.le_trans (Nat.pow_le_pow_right (by decide) (show k ≤ 7 by omega)) (by decide))
    have hidx := idx_run T k hkk
    have hlen : k < T.data.toList.length := by rw [← ba_size]; exact hkk
    have htk := take_snoc hlen
    by_cases h48 : T.data.toList[k] = 48
    ·rw [h48] at hidx htk;have hidx : ∀ W, (Instr.index 9 (.string T) (.int .i64 k)).run Tryz.prog W = .ok (.int .u8 48) W := hidx
     have hor := or0 _ (show Tb.vl (T.data.toList.take k) < 256 by omega)
     have hall' : Tb.allb (T.data.toList.take (k + 1)) := by
      rw [htk];intro c hc
      rcases List.mem_append.1 hc with h | h
      ·exact hall c h
      rw [List.mem_singleton] at h; exact .inl h
     have hnv : Tb.vl (T.data.toList.take (k + 1)) = Tb.vl (T.data.toList.take k) * 2 + 0 := by rw [htk, Tb.vl_snoc]; rfl
     generalize Tb.vl (T.data.toList.take k) = V at *;have HF1 := zh hf; clear hf; have HA := zh hall'; clear hall'; have HV := zh hnv; clear hnv; have HP1 := zh hp; clear hp; have HR1 := zh hr; clear hr; have HP0 := zh hp0; clear hp0; have HALL := zh hall; clear hall; have HTK := zh htk; clear htk; have HVV := zh hv; clear hv; have H48 := zh h48; clear h48; have HP2 := zh hp1; clear hp1; have HZB := zh hz; clear hz
     go_wp2;go_region
     go_wp2;go_roundw
     case rel => exact PsRel.next hkk HA.out HP1.out HP0.out HR1.out HF1.out HZB.out (by rw [HV.out]; omega)
     case measure => simp [intOf]; omega
    by_cases h48' : T.data.toList[k] = 49
    ·rw [h48'] at hidx htk;have hidx : ∀ W, (Instr.index 9 (.string T) (.int .i64 k)).run Tryz.prog W = .ok (.int .u8 49) W := hidx
     have hor := or1 _ (show Tb.vl (T.data.toList.take k) < 256 by omega)
     have hall' : Tb.allb (T.data.toList.take (k + 1)) := by
      rw [htk];intro c hc
      rcases List.mem_append.1 hc with h | h
      ·exact hall c h
      rw [List.mem_singleton] at h; exact .inr h
     have hnv : Tb.vl (T.data.toList.take (k + 1)) = Tb.vl (T.data.toList.take k) * 2 + 1 := by rw [htk, Tb.vl_snoc]; rfl
     generalize Tb.vl (T.data.toList.take k) = V at *;have HF1 := zh hf; clear hf; have HA := zh hall'; clear hall'; have HV := zh hnv; clear hnv; have HP1 := zh hp; clear hp; have HR1 := zh hr; clear hr; have HP0 := zh hp0; clear hp0; have HALL := zh hall; clear hall; have HTK := zh htk; clear htk; have HVV := zh hv; clear hv; have H49 := zh h48'; clear h48'; have HP2 := zh hp1; clear hp1; have HZB := zh hz; clear hz
     go_wp2;go_region
     go_wp2;go_roundw
     case rel => exact PsRel.next hkk HA.out HP1.out HP0.out HR1.out HF1.out HZB.out (by rw [HV.out]; omega)
     case measure => simp [intOf]; omega
    obtain ⟨c, hcc⟩ : ∃ c : UInt8, c = T.data.toList[k] := ⟨_, rfl⟩
    rw [← hcc] at hidx h48 h48';have hno := psOpt_no hlen (fun h => by rw [← hcc] at h; exact h.elim h48 h48')
    have n48 : ((c.toNat : Int) != 48) = true := by
     rw [bne_iff_ne];intro h
     exact h48 (UInt8.toNat_inj.1 (by show c.toNat = 48; omega))
    have n49 : ((c.toNat : Int) != 49) = true := by
     rw [bne_iff_ne];intro h
     exact h48' (UInt8.toNat_inj.1 (by show c.toNat = 49; omega))
    generalize (c.toNat : Int) = x at *;have HF1 := zh hf; clear hf; have HP1 := zh hp; clear hp; have HR1 := zh hr; clear hr; have HP0 := zh hp0; clear hp0; have HALL := zh hall; clear hall; have HTK := zh htk; clear htk; have HVV := zh hv; clear hv; have H48 := zh h48; clear h48; have H49 := zh h48'; clear h48'; have HP2 := zh hp1; clear hp1; have HZB := zh hz; clear hz; have HCC := zh hcc; clear hcc; have HNO := zh hno; clear hno
    go_wp2;refine bodyPost_ret (v := .tuple #[pfA ⟨0, 0⟩, .bool false]) ?_ rfl (by rw [HNO.out]; exact none_post w _ ((HF1.out.setNew (Nat.le_refl _) _ _).setNew (Nat.le_refl _) _ _))
    simp [results, Tryz.results44, go_sem, pfA, z0, z1]
   have e : k = T.size := by omega
   subst e;have hkb : decide ((T.size : Int) < (T.size : Int)) = false := by simp
   have hpo := psOpt_all hall
   generalize Tb.vl (T.data.toList.take T.size) = V at *
   have hfin : PfOr (psOpt T) w (.returned (.tuple #[pfA ⟨T.size, V⟩, .bool true])) ((wr.setCell ⟨w.heap.size, 0, none⟩ (.int .i64 T.size)).setCell ⟨w.heap.size, 1, none⟩ (.int .i64 V)) := by
    rw [hpo];exact ⟨rfl, (hf.setNew (Nat.le_refl _) _ _).setNew (Nat.le_refl _) _ _⟩
   have HF1 := zh hf; clear hf; have HP1 := zh hp; clear hp; have HR1 := zh hr; clear hr; have HP0 := zh hp0; clear hp0; have HALL := zh hall; clear hall; have HVV := zh hv; clear hv; have HP2 := zh hp1; clear hp1; have HZB := zh hz; clear hz; have HFIN := zh hfin; clear hfin; have HPO := zh hpo; clear hpo;go_wp2
   refine bodyPost_ret (v := .tuple #[pfA ⟨T.size, V⟩, .bool true]) ?_ rfl HFIN.out
   simp [results, Tryz.results44, go_sem, pfA, z0, z1]
theorem Parse_any (s : ByteArray) (w : World) (hs : s.size ≤ maxLen) : Calls Tryz.prog 44 #[.string s] w (PfOr (told s.data.toList) w) := by
 obtain ⟨T, hT⟩ : ∃ T : ByteArray, Lib.trimSuffix s.data.toList [42] = T.data.toList := ⟨⟨(Lib.trimSuffix s.data.toList [42]).toArray⟩, rfl⟩
 obtain ⟨b, hb⟩ : ∃ b, Lib.hasSuffix s.data.toList [42] = b := ⟨_, rfl⟩
 have hsz := ba_size T
 unfold told
 rw [hT, hb, ← hsz]
 by_cases h8 : T.size ≤ 8
 ·by_cases h : ((T.size : Int) == 8) = b
  ·rw [if_neg (fun k => by rw [h] at k; exact absurd k.2.1 (by simp))]
   exact Parse_mixed s T b w hs hT hb h8 h
  have hb' : ((T.size : Int) == 8) = !b := by cases b <;> simpa using h
  have := Parse_loop s T b w hs hT hb h8 hb'
  unfold psOpt at this;by_cases ha : Tb.allb T.data.toList
  ·rw [if_pos ⟨h8, by rw [hb']; cases b <;> rfl, ha⟩]
   rw [if_pos ha] at this;exact this
  rw [if_neg (fun k => ha k.2.2)];rw [if_neg ha] at this
  exact this
 rw [if_neg (fun k => h8 k.1)]
 exact Parse_long s T b w hs hT hb (by omega)
end Go.Proofs.YtffoilacaffdgaaGreatDoor
