/- The walk of DeskDoes. -/
import Derived.Test.YtffoilacaffdgaaGreatDoorB16
import Derived.Test.YtffoilacaffdgaaGreatDoorB17
set_option maxRecDepth 100000
set_option maxHeartbeats 8000000
namespace Go.Proofs.YtffoilacaffdgaaGreatDoor
open Go.RowKit Go.Deep
structure DR (w0 w : World) (zl d : Nat) (q : PIds) (v tv : Value) (s : Fb.PT) (r : Nat) (X : ByteArray) (y : TIds) (u : Value) (al : Option Addr) (s2 : Fb.PT) (t : Dk.Bs) : Prop where
 a : Own1 w0 w d q v tv s
 b : RkAt w r X y u al s2 t
 nb : ∀ i, FtR r y u al i → w0.heap.size ≤ i
 ap : ∀ i, FtA d q v tv i → ¬ FtR r y u al i
 zd : ¬ FtA d q v tv zl
 zr : ¬ FtR r y u al zl
 zt : zl < w.heap.size
 f : Fr NoB w0 w
section
variable {w0 w : World} {zl d : Nat} {q : PIds} {v tv : Value} {s : Fb.PT} {r : Nat} {X : ByteArray} {y : TIds} {u : Value} {al : Option Addr} {s2 : Fb.PT} {t : Dk.Bs}
theorem DR.keep {w' : World} (h : DR w0 w zl d q v tv s r X y u al s2 t) (hf : Fr NoB w w') : DR w0 w' zl d q v tv s r X y u al s2 t := ⟨h.a.keep hf, h.b.keep0 hf, h.nb, h.ap, h.zd, h.zr, Nat.lt_of_lt_of_le h.zt hf.size, h.f.trans hf⟩
theorem DR.goA {w' : World} {v' tv' : Value} {s' : Fb.PT} (h : DR w0 w zl d q v tv s r X y u al s2 t) (hA : DkAny w' d q v' tv' s') (hf : Fr (FtA d q v tv) w w') (hn : ∀ i, FtA d q v' tv' i → FtA d q v tv i ∨ w.heap.size ≤ i) : DR w0 w' zl d q v' tv' s' r X y u al s2 t := by
 have hz := h.f.size
 have hzt := h.zt
 refine ⟨⟨hA, fun i hi => ?_⟩, h.b.keep hf (fun i hi h' => h.ap i h' hi) (fun i hi h' => ?_), h.nb, fun i hi hb => ?_, fun e => ?_, h.zr, Nat.lt_of_lt_of_le hzt hf.size, h.f.trans' hf (fun i hi h' => by have := h.a.new i h'; omega)⟩
 ·rcases hn i hi with e | e
  ·exact h.a.new i e
  omega
 ·have := h.a.at_.lo i h'; omega
 ·rcases hn i hi with e | e
  ·exact h.ap i e hb
  have := h.b.lt hb; omega
 rcases hn _ e with e | e
 ·exact h.zd e
 omega
theorem DR.goR {w' : World} {X' : ByteArray} {y' : TIds} {u' : Value} {al' : Option Addr} {s' : Fb.PT} {t' : Dk.Bs} (h : DR w0 w zl d q v tv s r X y u al s2 t) (k : RkS (FtR r y u al) w r X' y' u' al' s' t' w') : DR w0 w' zl d q v tv s r X' y' u' al' s' t' := by
 have hz := h.f.size
 have hzt := h.zt
 refine ⟨⟨h.a.at_.keep k.f (fun i hi h' => h.ap i hi h') (fun i hi h' => ?_), h.a.new⟩, k.at_, fun i hi => ?_, fun i hi hb => ?_, h.zd, fun e => ?_, Nat.lt_of_lt_of_le hzt k.f.size, h.f.trans' k.f (fun i hi h' => by have := h.nb i h'; omega)⟩
 ·have := h.b.lo i h'; omega
 ·rcases k.new i hi with e | e
  ·exact h.nb i e
  omega
 ·rcases k.new i hb with e | e
  ·exact h.ap i hi e
  have := h.a.at_.lt hi; omega
 rcases k.new _ e with e | e
 ·exact h.zr e
 omega
end
def DdRel (w0 : World) (zl d : Nat) (q : PIds) (r : Nat) (y : TIds) (A : Nat → Option Addr) (C : Nat → Nat) (LS : Nat → List ByteArray) (i : Value) (wr : World) : Prop :=
 ∃ (k : Nat) (v tv : Value) (X : ByteArray) (o u : Value) (al : Option Addr) (s : Fb.PT) (t : Dk.Bs) (m : Nat), k ≤ 2 ∧ i = .int .i64 k ∧ m ≤ 150 * k ∧ Dk.DOk s m ∧ DR w0 wr zl d q v tv s r X { y with own := o } u al s t ∧
  ∀ j, j < 2 → wr.cell? ⟨zl, j, none⟩ = some (.slice (A j) (LS j).length (C j))
theorem does_state {s : Fb.PT} {m k : Nat} {l : List Dk.Bs} (h : Dk.DOk s m) (hm : m ≤ 150 * k) (hk : k < 2) : ∃ m', m' ≤ 150 * (k + 1) ∧ Dk.DOk (Dk.outS s l) m' := by
 unfold Dk.outS
 split
 ·rename_i e
  have := (Dk.fault_ok e).1
  exact ⟨m + l.length, by omega, Dk.DOk.runS l h (by omega)⟩
 exact ⟨m, by omega, h⟩
theorem DeskDoes_main (a0 a1 : Option Addr) (c0 c1 : Nat) (l0 l1 : List ByteArray) (w : World) (hE : Env w) (hn0 : l0.length ≤ 200) (hn1 : l1.length ≤ 200) (hz0 : ∀ x ∈ l0, x.size ≤ 2097152) (hz1 : ∀ x ∈ l1, x.size ≤ 2097152) (hS0 : RdS w a0 l0) (hS1 : RdS w a1 l1) :
  Calls Tryz.prog 3 #[.slice a0 l0.length c0, .slice a1 l1.length c1] w (TrueFr w) := by
 have hb0 : decide ((200 : Int) < (l0.length : Int)) = false := by simp; omega
 have hb1 : decide ((200 : Int) < (l1.length : Int)) = false := by simp; omega
 have HE := zh hE; clear hE; have HS0 := zh hS0; clear hS0; have HS1 := zh hS1; clear hS1; have HZ0 := zh hz0; clear hz0; have HZ1 := zh hz1; clear hz1
 go_enter Tryz.func3, Tryz.ntmps3
 go_wp2_with fail
 refine (Begun_true _ HE.out).mono ?_
 rintro e w1 ⟨rfl, hf1⟩
 have HF1 := zh hf1; clear hf1
 go_wp2_with fail
 refine (Slow_any a0 c0 l0 _ hn0 HZ0.out (HS0.out.keep0 HF1.out)).mono ?_
 rintro e w2 ⟨B0, rfl, hf2⟩
 have hF2 := HF1.out.trans hf2
 clear hf2 HF1
 have HF := zh hF2; clear hF2
 cases B0 with
 | true =>
  go_wp2;go_ret
  exact ⟨rfl, HF.out⟩
 | false =>
  go_wp2_with fail;refine (Slow_any a1 c1 l1 _ hn1 HZ1.out (HS1.out.keep0 HF.out)).mono ?_
  rintro e w3 ⟨B1, rfl, hf3⟩
  have hF3 := HF.out.trans hf3
  clear hf3 HF;have HF := zh hF3; clear hF3
  cases B1 with
  | true =>
   go_wp2;go_ret
   exact ⟨rfl, HF.out⟩
  | false =>
   go_wp2_with fail;refine (NewD _ (HE.out.keep0 HF.out)).mono ?_
   rintro e w4 ⟨d, q, v, tv, rfl, hA, hf, hnew⟩
   have h4 : Own1 w w4 d q v tv Fb.begunP := ⟨hA, fun i hi => Nat.le_trans HF.out.size (hnew i hi)⟩
   have hF4 := HF.out.trans hf
   clear HF hf hA hnew;have H4 := zh h4; clear h4; have HF := zh hF4; clear hF4
   go_wp2_with fail;refine (NewR _ (HE.out.keep0 HF.out)).mono ?_
   rintro e w5 ⟨r, y, u, al, rfl, hB, hf, hnew⟩
   have hF5 := HF.out.trans hf
   have h5 : Own1 w w5 d q v tv Fb.begunP := H4.out.keep hf
   have hnb : ∀ i, FtR r y u al i → w.heap.size ≤ i := fun i hi => Nat.le_trans HF.out.size (hnew i hi)
   have hap : ∀ i, FtA d q v tv i → ¬ FtR r y u al i := fun i hi hr => by have := hnew i hr; have := H4.out.at_.lt hi; omega
   clear HF H4 hf hnew;have HB := zh hB; clear hB; have HF := zh hF5; clear hF5; have H5 := zh h5; clear h5; have HNB := zh hnb; clear hnb; have HAP := zh hap; clear hap
   go_upto_region 8 with fail
   generalize hw6 : w5.alloc (.cells #[.slice a0 l0.length c0, .slice a1 l1.length c1] 22) = w6
   have hz5 : w5.heap.size < w6.heap.size := by rw [← hw6]; simp
   have hF6 : Fr NoB w5 w6 := by rw [← hw6]; (repeat (first | exact Fr.refl _ _ | refine Fr.alloc ?_ _ | refine Fr.setNew ?_ (by omega) _ _ | refine Fr.drewN ?_ _ | refine Fr.drew ?_))
   have hce : ∀ j, j < 2 → w6.cell? ⟨w5.heap.size, j, none⟩ = some (.slice ((fun j => if j = 0 then a0 else a1) j) ((fun j => if j = 0 then l0 else l1) j).length ((fun j => if j = 0 then c0 else c1) j)) := by
    rw [← hw6];intro j hj
    rw [Lib.cell_of_heap (heap_alloc_new w5 _)]
    match j, hj with
    | 0, _ => rfl
    | 1, _ => rfl
   have h6 : DR w w6 w5.heap.size d q v tv Fb.begunP r ⟨#[]⟩ y u al Fb.begunP [] := ⟨H5.out.keep hF6, HB.out.keep0 hF6, HNB.out, HAP.out, fun e => by have := H5.out.at_.lt e; omega, fun e => by have := HB.out.lt e; omega, hz5, HF.out.trans hF6⟩
   have hSA : ∀ j, j < 2 → RdS w ((fun j => if j = 0 then a0 else a1) j) ((fun j => if j = 0 then l0 else l1) j) := fun j hj => by
    match j, hj with
    | 0, _ => exact HS0.out
    | 1, _ => exact HS1.out
   have hZA : ∀ j, j < 2 → ∀ x ∈ ((fun j => if j = 0 then l0 else l1) j), x.size ≤ 2097152 := fun j hj => by
    match j, hj with
    | 0, _ => exact HZ0.out
    | 1, _ => exact HZ1.out
   clear hw6 hz5 hF6 HB HF H5 HNB HAP HS0 HS1 HZ0 HZ1;generalize w5.heap.size = zl at *
   generalize (fun j : Nat => if j = 0 then a0 else a1) = A at *
   generalize (fun j : Nat => if j = 0 then c0 else c1) = C at *
   generalize (fun j : Nat => if j = 0 then l0 else l1) = LS at *
   have H6 := zh h6; clear h6; have HCE := zh hce; clear hce; have HSA := zh hSA; clear hSA; have HZA := zh hZA; clear hZA;go_wp2
   go_loopw [8] (fun i wr => DdRel w zl d q r y A C LS i wr) (fun i _ => 2 - (intOf i).toNat)
   case atStart => exact ⟨0, v, tv, ⟨#[]⟩, y.own, u, al, Fb.begunP, [], 0, by omega, rfl, by omega, Dk.DOk.begun, H6.out, HCE.out⟩
   case round =>
    clear H6 HCE;obtain ⟨k, v, tv, X, o, u, al, s, t, m, hk, rfl, hm, hok, h7, hcz⟩ := hrel
    by_cases hk2 : k < 2
    ·have hkb : decide ((k : Int) < 2) = true := by simp; omega
     have hki : (k : Int) < 2 := by omega
     have ck := hcz k hk2
     have hRd := HSA.out k hk2
     have hZk := HZA.out k hk2
     have hDo := DkDo_any d q v tv s (A k) (C k) (LS k) m wr hok (by omega) hZk h7.a.at_ (fun W hW => hRd.old h7.f h7.a.new hW)
     obtain ⟨m', hm', hok'⟩ := does_state (l := bss (LS k)) hok hm hk2
     obtain ⟨Ak, hAk⟩ : ∃ Ak, Ak = A k := ⟨_, rfl⟩
     obtain ⟨Ck, hCk⟩ : ∃ Ck, Ck = C k := ⟨_, rfl⟩
     obtain ⟨L, hL⟩ : ∃ L, L = LS k := ⟨_, rfl⟩
     rw [← hAk, ← hL] at hRd;rw [← hL] at hZk hok'
     rw [← hAk, ← hCk, ← hL] at hDo ck;have HAK := zh hAk; clear hAk; have HCK := zh hCk; clear hCk; have HLL := zh hL; clear hL
     unfold DkDoPost at hDo;generalize hfl : Dk.fault (bss L) = fl at *
     obtain ⟨fc, fa⟩ := fl
     dsimp only at hDo;have HDO := zh hDo; clear hDo; have H7 := zh h7; clear h7; have HCZ := zh hcz; clear hcz; have HRD := zh hRd; clear hRd; have HZK := zh hZk; clear hZk; have HOK := zh hok; clear hok; have HOK' := zh hok'; clear hok'; have HFL := zh hfl; clear hfl
     go_wp2_with fail;refine HDO.out.mono ?_
     rintro e w8 ⟨X1, v1, tv1, rfl, hX1, hA8, hf8, hn8⟩
     have h8 := H7.out.goA hA8 hf8 hn8
     have hcz8 : ∀ j, j < 2 → w8.cell? ⟨zl, j, none⟩ = some (.slice (A j) (LS j).length (C j)) := fun j hj => cell_fr' hf8 (HCZ.out j hj) H7.out.zd
     clear hA8 hf8 hn8 H7 HCZ HDO ck;have HX1 := zh hX1; clear hX1; have H8 := zh h8; clear h8; have HCZ := zh hcz8; clear hcz8
     generalize hw9 : w8.alloc (.cells #[.int .i64 fc, .int .i64 fa] 31) = w9
     go_upto_region 12 with fail
     try rw [hw9]
     have hF9 : Fr NoB w8 w9 := by rw [← hw9]; (repeat (first | exact Fr.refl _ _ | refine Fr.alloc ?_ _ | refine Fr.setNew ?_ (by omega) _ _ | refine Fr.drewN ?_ _ | refine Fr.drew ?_))
     have e0 : w9.cell? ⟨w8.heap.size, 0, none⟩ = some (.int .i64 fc) := by rw [← hw9]; simp
     have e1 : w9.cell? ⟨w8.heap.size, 1, none⟩ = some (.int .i64 fa) := by rw [← hw9]; simp
     have h9 := H8.out.keep hF9
     have hza : ¬ FtR r { y with own := o } u al w8.heap.size := fun e => by have := H8.out.b.lt e; omega
     have hcz9 : ∀ j, j < 2 → w9.cell? ⟨zl, j, none⟩ = some (.slice (A j) (LS j).length (C j)) := fun j hj => cell_fr' hF9 (HCZ.out j hj) (fun h => h)
     have ck := hcz9 k hk2
     rw [← HAK.out, ← HCK.out, ← HLL.out] at ck;clear hw9 hF9 H8 HCZ
     generalize w8.heap.size = zf at *;have hfr := fun W (hW : Fr NoB w9 W) => RFaultL_any Ak Ck L W HZK.out (HRD.out.keep0 (h9.f.trans hW))
     rw [HFL.out] at hfr;unfold FlFr at hfr
     dsimp only at hfr;have H9 := zh h9; clear h9; have HCZ := zh hcz9; clear hcz9; have HZA2 := zh hza; clear hza; have HFR := zh hfr; clear hfr
     go_wp2_with fail;refine (HFR.out _ (Fr.refl _ _)).mono ?_
     rintro e w10 ⟨rfl, hf10⟩
     generalize hw11 : w10.alloc (.cells #[.int .i64 fc, .int .i64 fa] 31) = w11
     go_upto_region 13 with fail
     try rw [hw11]
     have hF11 : Fr NoB w9 w11 := by rw [← hw11]; exact hf10.alloc _
     have f0 : w11.cell? ⟨w10.heap.size, 0, none⟩ = some (.int .i64 fc) := by rw [← hw11]; simp
     have f1 : w11.cell? ⟨w10.heap.size, 1, none⟩ = some (.int .i64 fa) := by rw [← hw11]; simp
     have e0 := cell_fr' hF11 e0 nB
     have e1 := cell_fr' hF11 e1 nB
     have ck := cell_fr' hF11 ck nB
     have h11 := H9.out.keep hF11
     have hcz11 : ∀ j, j < 2 → w11.cell? ⟨zl, j, none⟩ = some (.slice (A j) (LS j).length (C j)) := fun j hj => cell_fr' hF11 (HCZ.out j hj) (fun h => h)
     clear hw11 hF11 hf10 H9 HCZ HFR;generalize w10.heap.size = zg at *
     have hcc : (fc != fc) = false := by simp
     have haa : (fa != fa) = false := by simp
     have H11 := zh h11; clear h11; have HCZ := zh hcz11; clear hcz11;by_cases hc0 : fc = 0
     ·subst hc0;have hl := Dk.fault_ok (l := bss L) (by rw [HFL.out])
      have hl150 : L.length ≤ 150 := by have := hl.1; rw [bss_lens] at this; exact this
      have hoT : Dk.outT s (bss L) = Dk.runT s (bss L) := by unfold Dk.outT; rw [HFL.out, if_pos rfl]
      have hoS : Dk.outS s (bss L) = Dk.runS s (bss L) := by unfold Dk.outS; rw [HFL.out, if_pos rfl]
      have hRD := fun W (hW : RkAt W r X { y with own := o } u al s t) (hF : Fr NoB w W) => RDoL_any r X { y with own := o } u al s t Ak Ck L m W HOK.out (by omega) hl150 HZK.out hW (fun W' hW' => HRD.out.old hF H11.out.nb hW')
      clear hl;have HOT := zh hoT; clear hoT; have HOS := zh hoS; clear hoS; have HRO := zh hRD; clear hRD
      go_wp2_with fail;refine (HRO.out _ H11.out.b H11.out.f).mono ?_
      rintro e w12 ⟨X2, o2, u2, al2, rfl, h12⟩
      have h13 := H11.out.goR h12
      have hcz12 : ∀ j, j < 2 → w12.cell? ⟨zl, j, none⟩ = some (.slice (A j) (LS j).length (C j)) := fun j hj => cell_fr' h12.f (HCZ.out j hj) H11.out.zr
      have hne : (!X1.toList == X2.toList) = false := by
       rw [ByteArray.toList_eq, ByteArray.toList_eq, HX1.out, h12.at_.told, HOT.out];simp
      rw [HOS.out] at h13;have hok'' := HOK'.out
      rw [HOS.out] at hok'';clear h12
      have H13 := zh h13; clear h13; have HCZ2 := zh hcz12; clear hcz12; have HOK2 := zh hok''; clear hok'';go_wp2
      go_roundw
      case rel => exact ⟨k + 1, v1, tv1, X2, o2, u2, al2, _, _, m', by omega, by go_num, hm', HOK2.out, H13.out, HCZ2.out⟩
      case measure => simp [intOf]; omega
     have hcb : (fc != 0) = true := by simpa using hc0
     have hcb2 : (fc == 0) = false := by simpa using hc0
     have hoT : X1.toList = [] := by
      rw [ByteArray.toList_eq, HX1.out];unfold Dk.outT; rw [HFL.out, if_neg hc0]
     have hoS : Dk.outS s (bss L) = s := by unfold Dk.outS; rw [HFL.out, if_neg hc0]
     have h13 := H11.out
     rw [hoS] at h13;clear hoS hc0
     have H13 := zh h13; clear h13;go_wp2
     go_roundw
     case rel => exact ⟨k + 1, v1, tv1, X, o, u, al, s, t, m, by omega, by go_num, by omega, HOK.out, H13.out, HCZ.out⟩
     case measure => simp [intOf]; omega
    obtain rfl : k = 2 := by omega
    have hkb : decide (((2 : Nat) : Int) < 2) = false := by simp
    have H7 := zh h7; clear h7;go_wp2
    go_ret
    exact ⟨rfl, H7.out.f⟩
theorem DeskDoes_all (a0 a1 : Option Addr) (c0 c1 : Nat) (l0 l1 : List ByteArray) (w : World) (hE : Env w) (hz0 : ∀ x ∈ l0, x.size ≤ 2097152) (hz1 : ∀ x ∈ l1, x.size ≤ 2097152) (hS0 : RdS w a0 l0) (hS1 : RdS w a1 l1) :
  Calls Tryz.prog 3 #[.slice a0 l0.length c0, .slice a1 l1.length c1] w (TrueFr w) := by
 by_cases hn : l0.length ≤ 200 ∧ l1.length ≤ 200
 ·exact DeskDoes_main a0 a1 c0 c1 l0 l1 w hE hn.1 hn.2 hz0 hz1 hS0 hS1
 have HE := zh hE; clear hE
 clear hS0 hS1 hz0 hz1
 by_cases h0 : l0.length ≤ 200
 ·have hb0 : decide ((200 : Int) < (l0.length : Int)) = false := by simp; omega
  have hb1 : decide ((200 : Int) < (l1.length : Int)) = true := by simp; omega
  clear hn;go_enter Tryz.func3, Tryz.ntmps3
  go_wp2_with fail;refine (Begun_true _ HE.out).mono ?_
  rintro e w1 ⟨rfl, hf1⟩
  have HF1 := zh hf1; clear hf1;go_wp2
  go_ret
  exact ⟨rfl, HF1.out⟩
 have hb0 : decide ((200 : Int) < (l0.length : Int)) = true := by simp; omega
 clear hn
 go_enter Tryz.func3, Tryz.ntmps3
 go_wp2_with fail
 refine (Begun_true _ HE.out).mono ?_
 rintro e w1 ⟨rfl, hf1⟩
 have HF1 := zh hf1; clear hf1
 go_wp2
 go_ret
 exact ⟨rfl, HF1.out⟩
end Go.Proofs.YtffoilacaffdgaaGreatDoor
