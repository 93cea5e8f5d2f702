/- Walk: (*maker).lay. -/
import Derived.Test.YtffoilacaffdgaaGreatDoorB9
set_option maxRecDepth 100000
set_option maxHeartbeats 8000000
namespace Go.Proofs.YtffoilacaffdgaaGreatDoor
open Go.RowKit Go.Deep
structure MkAt (w : World) (m N : Nat) (v : Value) (L : List Tb.Rt) : Prop where
 row : w.rowIs m 191 1 (fun _ => v)
 sl : SlR w N v L
 lt : m < N
theorem MkAt.c0 {w : World} {m N : Nat} {v : Value} {L : List Tb.Rt} (h : MkAt w m N v L) : w.cell? ⟨m, 0, none⟩ = some v := rC h.row (i := 0) (by omega)
theorem MkAt.keep0 {w w' : World} {m N : Nat} {v : Value} {L : List Tb.Rt} (h : MkAt w m N v L) (hf : Fr NoB w w') : MkAt w' m N v L := ⟨hf.row h.row (fun h => h), own_keep h.sl hf (fun _ _ h => h), h.lt⟩
theorem SlR.from' {w : World} {N : Nat} {v : Value} {L : List Tb.Rt} (h : SlR w N v L) : ∀ g, v.ownBlock = some g → N ≤ g := fun g hg => (oL h g hg).1
theorem MkAt.store {w w' : World} {m N : Nat} {v v' : Value} {L L' : List Tb.Rt} (h : MkAt w m N v L) (hv : SlR w' N v' L') (hf : Fr (fun k => v.ownBlock = some k) w w') : MkAt (w'.setCell ⟨m, 0, none⟩ v') m N v' L' := by
 have hm := h.lt
 have hr := hf.row h.row (fun e => by have := h.sl.from' m e; omega)
 exact ⟨(World.rowIs.set hr 0 v').congr (fun i hi => by rw [if_pos (by omega)]), own_keep hv ((Fr.refl (OneB m) _).set1 _ _) (fun g hg e => by unfold OneB at e; have := hv.from' g hg; omega), hm⟩
def MN (m N : Nat) : Nat → Prop := fun k => k = m ∨ N ≤ k
def TrM (w : World) (m N : Nat) : Tb.Tr → Nat → Prop
 | .leaf p h, b => N5 w b p h (.pointer none) (.pointer none) ∧ b < N ∧ b ≠ m
 | .node p l r, b => ∃ bl br, (N5 w b p 0 (.pointer (some ⟨bl, 0, none⟩)) (.pointer (some ⟨br, 0, none⟩)) ∧ b < N ∧ b ≠ m) ∧ TrM w m N l bl ∧ TrM w m N r br
theorem TrM.at_ {w : World} {m N : Nat} : ∀ {T : Tb.Tr} {b : Nat}, TrM w m N T b → TrAt w T b
 | .leaf _ _, _, h => h.1
 | .node _ _ _, _, ⟨bl, br, h, hl, hr⟩ => ⟨bl, br, h.1, hl.at_, hr.at_⟩
theorem N5.keepS {S : Nat → Prop} {w w' : World} {b : Nat} {p : Tb.Pf} {h : Int} {lo hi : Value} (k : N5 w b p h lo hi) (hf : Fr S w w') (hS : ¬ S b) : N5 w' b p h lo hi :=
 ⟨cell_fr' hf k.c0 hS, cell_fr' hf k.c1 hS, cell_fr' hf k.c2 hS, cell_fr' hf k.c3 hS, cell_fr' hf k.c4 hS⟩
theorem TrM.keep {w w' : World} {m N : Nat} (hf : Fr (MN m N) w w') : ∀ {T : Tb.Tr} {b : Nat}, TrM w m N T b → TrM w' m N T b
 | .leaf _ _, _, h => ⟨h.1.keepS hf (fun k => by rcases k with k | k; exact h.2.2 k; have := h.2.1; omega), h.2⟩
 | .node _ _ _, _, ⟨bl, br, h, hl, hr⟩ => ⟨bl, br, ⟨h.1.keepS hf (fun k => by rcases k with k | k; exact h.2.2 k; have := h.2.1; omega), h.2⟩, hl.keep hf, hr.keep hf⟩
theorem N5.apart {w : World} {b m N : Nat} {p : Tb.Pf} {h : Int} {lo hi v : Value} (k : N5 w b p h lo hi) (hm : w.cell? ⟨m, 0, none⟩ = some v) (hv : ∀ x, v ≠ .int .i64 x) (hN : w.heap.size ≤ N) : b < N ∧ b ≠ m := by
 refine ⟨Nat.lt_of_lt_of_le (World.block_lt_of_cell? w _ k.c0) hN, fun e => ?_⟩
 rw [← e, k.c0] at hm
 exact hv _ (Option.some.inj hm).symm
theorem TrM.of {w : World} {m N : Nat} {v : Value} (hm : w.cell? ⟨m, 0, none⟩ = some v) (hv : ∀ x, v ≠ .int .i64 x) (hN : w.heap.size ≤ N) : ∀ {T : Tb.Tr} {b : Nat}, TrAt w T b → TrM w m N T b
 | .leaf _ _, _, h => ⟨h, N5.apart h hm hv hN⟩
 | .node _ _ _, _, ⟨bl, br, h, hl, hr⟩ => ⟨bl, br, ⟨h, h.apart hm hv hN⟩, TrM.of hm hv hN hl, TrM.of hm hv hN hr⟩
theorem Fr.mn {w w' : World} {m N : Nat} (h : Fr NoB w w') : Fr (MN m N) w w' := h.mono (fun _ _ h => h.elim)
def LayPost (m N : Nat) (L : List Tb.Rt) (w : World) (e : Ending) (w' : World) : Prop := e = .returned (.tuple #[]) ∧ ∃ v, MkAt w' m N v L ∧ Fr (MN m N) w w'
def LaySaid (T : Tb.Tr) : Prop := ∀ (b m N : Nat) (v : Value) (L : List Tb.Rt) (h : Int) (w : World), TrM w m N T b → Tb.HopT T → MkAt w m N v L → N ≤ w.heap.size → L.length + (Tb.layT T h).length ≤ 1000 →
  Calls Tryz.prog 116 #[.pointer (some ⟨m, 0, none⟩), .pointer (some ⟨b, 0, none⟩), .int .i64 h] w (LayPost m N (L ++ Tb.layT T h) w)
def CutLay (T : Tb.Tr) (b m N : Nat) (L : List Tb.Rt) (h : Int) (w : World) (s : Value) (wx : World) : Prop :=
 s = .int .i64 (Tb.pick (Tb.wshT T) h) ∧ ∃ v, Hid (MkAt wx m N v (L ++ Tb.made (Tb.wshT T) T.root h)) ∧ Hid (TrM wx m N T b) ∧ Hid (Fr (MN m N) w wx) ∧ Hid (N ≤ wx.heap.size)
theorem TrM.c01 {w : World} {m N : Nat} {T : Tb.Tr} {b : Nat} (h : TrM w m N T b) : w.cell? ⟨b, 0, none⟩ = some (.int .i64 T.root.len) ∧ w.cell? ⟨b, 1, none⟩ = some (.int .i64 T.root.bits) ∧ b < N ∧ b ≠ m := by
 cases T with
 | leaf p x => exact ⟨h.1.c0, h.1.c1, h.2⟩
 | node p l r => obtain ⟨bl, br, h, _, _⟩ := h; exact ⟨h.1.c0, h.1.c1, h.2⟩
theorem lay_step (T : Tb.Tr) (IH : ∀ p l r, T = .node p l r → LaySaid l ∧ LaySaid r) : LaySaid T := by
 intro b m N v L h w hT hh hM hN hlen
 have wT := Tb.wshT_wish T hh
 obtain ⟨c0, c1, hbN, hbm⟩ := hT.c01
 have hwish := fun W (hW : Fr NoB w W) => wish_any T b W (hT.at_.keep0 hW) hh
 unfold WishPost at hwish
 have hlf := fun W (h : TrM W m N T b) => Leaf_any T b W h.at_
 have hpos := Tb.W_pos wT
 have hwl := Tb.W_len (Tb.wshT T)
 have hhd := Tb.W_head (f := Tb.wshT T)
 have hmem := fun x => Tb.W_mem wT (h := x)
 have hll : L.length ≤ 1000 := by omega
 obtain ⟨tl, tb, htr⟩ : ∃ a b, T.root = ⟨a, b⟩ := ⟨_, _, rfl⟩
 rw [htr] at c0 c1
 dsimp only at c0 c1
 obtain ⟨f, hf⟩ : ∃ f, f = Tb.wshT T := ⟨_, rfl⟩
 rw [← hf] at hwish hpos hwl hhd hmem
 obtain ⟨A, hA⟩ : ∃ A, A = Tb.W f := ⟨_, rfl⟩
 rw [← hA] at hwish hpos hwl hhd
 have hmem : ∀ x, x ∈ A ↔ f x = true := fun x => by rw [hA]; exact hmem x
 have HT := zh hT; clear hT; have HM0 := zh hM; clear hM; have HN := zh hN; clear hN; have HLN := zh hlen; clear hlen; have HLL := zh hll; clear hll; have WT := zh wT; clear wT; have HBN := zh hbN; clear hbN; have HBM := zh hbm; clear hbm; have HW := zh hwish; clear hwish; have HLF := zh hlf; clear hlf; have HPOS := zh hpos; clear hpos; have HWL := zh hwl; clear hwl; have HHD := zh hhd; clear hhd; have HMEM := zh hmem; clear hmem; have HTR := zh htr; clear htr; have HFE := zh hf; clear hf; have HAE := zh hA; clear hA; have HH := zh hh; clear hh; have IHH := zh IH; clear IH
 go_enter Tryz.func116, Tryz.ntmps116
 go_wp2_with fail
 refine (HW.out _ (Fr.refl _ _)).mono ?_
 rintro e w2 ⟨v1, rfl, hv1, hf2⟩
 obtain ⟨g1, q1, rfl, _, _, hc1⟩ := hv1.any1 HPOS.out
 have c0 := cell_fr' hf2 c0 nB
 have c1 := cell_fr' hf2 c1 nB
 have HM := zh (HM0.out.keep0 hf2)
 have cm := HM.out.c0
 have ca := hc1 0 HPOS.out
 rw [HHD.out] at ca
 have HT2 := zh (HT.out.keep hf2.mn)
 have HN2 : Hid (N ≤ w2.heap.size) := Nat.le_trans HN.out hf2.size
 have HV1 := zh hv1; clear hv1; have HF2 := zh hf2; clear hf2
 clear hc1 HM0 HW
 obtain ⟨d, hd⟩ : ∃ d, decide (h ∈ A) = d := ⟨_, rfl⟩
 have HD := zh hd
 clear hd
 go_wp2_with fail
 refine (Contains_any w.heap.size _ A h _ (by have := HWL.out; omega) HV1.out).mono ?_
 rw [HD.out]
 rintro e w3 ⟨rfl, rfl⟩
 go_upto_if 12 with fail
 go_cut [2] (fun s wx => CutLay T b m N L h w s wx)
 case first =>
  by_cases hx : f h = true
  ·have hd : d = true := by rw [← HD.out]; exact decide_eq_true ((HMEM.out h).2 hx)
   have hpk : Tb.pick (Tb.wshT T) h = h := by rw [← HFE.out]; unfold Tb.pick; rw [if_pos hx]
   have hmd : Tb.made (Tb.wshT T) T.root h = [] := by rw [← HFE.out]; unfold Tb.made; rw [if_pos hx]
   subst hd;have HPK := zh hpk; clear hpk; have HMD := zh hmd; clear hmd
   clear hx;go_wp2_with fail
   go_meet;exact ⟨by rw [HPK.out], v, by show MkAt _ m N v (L ++ Tb.made (Tb.wshT T) T.root h); rw [HMD.out, List.append_nil]; exact HM.out, HT2, HF2.out.mn, HN2⟩
  have hd : d = false := by rw [← HD.out]; exact decide_eq_false (fun k => hx ((HMEM.out h).1 k))
  have hpk : Tb.pick (Tb.wshT T) h = Tb.fstW f := by rw [← HFE.out]; unfold Tb.pick; rw [if_neg hx]
  have hmd : Tb.made (Tb.wshT T) T.root h = [⟨⟨tl, tb⟩, Tb.fstW f⟩] := by rw [← HFE.out, HTR.out]; unfold Tb.made; rw [if_neg hx]
  have hpi : (0 : Int) < (A.length : Int) := by have := HPOS.out; omega
  have hpn : 0 < A.length := HPOS.out
  subst hd;have HPK := zh hpk; clear hpk; have HMD := zh hmd; clear hmd
  clear hx;go_upto_region 3 with fail
  (refine wp_region_held_drew (S := (fun W => W.cell? ⟨b, 0, none⟩ = some (.int .i64 tl) ∧ W.cell? ⟨b, 1, none⟩ = some (.int .i64 tb))) (by kernel_rfl) ⟨c0, c1⟩ (fun hHeld => ?_))
  (refine tk (v := ?_) 0 (by simp only [gx]; rfl) hHeld (.inl ⟨by rfl, ?_⟩) ?_; rotate_left; (focus (intro w k; (try dsimp only at k); go_simp; all_goals with_reducible rfl)); (try simp only [Act.put, px])); (refine tk (v := ?_) 1 (by simp only [gx]; rfl) hHeld (.inl ⟨by rfl, ?_⟩) ?_; rotate_left; (focus (intro w k; (try dsimp only at k); go_simp; all_goals with_reducible rfl)); (try simp only [Act.put, px])); (refine tk (v := ?_) 2 (by simp only [gx]; rfl) hHeld (.inl ⟨by rfl, ?_⟩) ?_; rotate_left; (focus (intro w k; (try dsimp only at k); go_simp; all_goals with_reducible rfl)); (try simp only [Act.put, px])); (refine tk (v := ?_) 3 (by simp only [gx]; rfl) hHeld (.inl ⟨by rfl, ?_⟩) ?_; rotate_left; (focus (intro w k; (try dsimp only at k); go_simp; all_goals with_reducible rfl)); (try simp only [Act.put, px])); (refine tk (v := ?_) 5 (by simp only [gx]; rfl) hHeld (.inl ⟨by rfl, ?_⟩) ?_; rotate_left; (focus (intro w k; (try dsimp only at k); go_simp; all_goals with_reducible rfl)); (try simp only [Act.put, px])); (refine tk (v := ?_) 6 (by simp only [gx]; rfl) hHeld (.inl ⟨by rfl, ?_⟩) ?_; rotate_left; (focus (intro w k; (try dsimp only at k); go_simp; all_goals with_reducible rfl)); (try simp only [Act.put, px])); (refine tk (v := ?_) 7 (by simp only [gx]; rfl) hHeld (.inl ⟨by rfl, ?_⟩) ?_; rotate_left; (focus (intro w k; (try dsimp only at k); go_simp; all_goals with_reducible rfl)); (try simp only [Act.put, px])); (refine tk (v := ?_) 8 (by simp only [gx]; rfl) hHeld (.inl ⟨by rfl, ?_⟩) ?_; rotate_left; (focus (intro w k; (try dsimp only at k); go_simp; all_goals with_reducible rfl)); (try simp only [Act.put, px])); (refine tk (v := ?_) 9 (by simp only [gx]; rfl) hHeld (.inl ⟨by rfl, ?_⟩) ?_; rotate_left; (focus (intro w k; (try dsimp only at k); go_simp; all_goals with_reducible rfl)); (try simp only [Act.put, px])); (refine tk (v := ?_) 10 (by simp only [gx]; rfl) hHeld (.inl ⟨by rfl, ?_⟩) ?_; rotate_left; (focus (intro w k; (try dsimp only at k); go_simp; all_goals with_reducible rfl)); (try simp only [Act.put, px]))
  refine wpAnyH_ready (rs := [4, 11]) (by kernel_rfl) (by simp) ?_
  refine AllReadyH.cons (by simp only [gx]; rfl) (fun K hK => ?_) (AllReadyH.cons (by simp only [gx]; rfl) (fun K hK => ?_) AllReadyH.nil)
  ·go_simp
   (try go_wp2_with fail)
   refine hK.out _ _ ⟨c0, c1⟩ (fun hHeld => ?_)
   clear hK K;(try simp only [Act.put, px])
   (refine wpAnyH_ready (rs := [11]) (by kernel_rfl) (by simp) ?_; refine AllReadyH.cons (by simp only [gx]; rfl) (fun K hK => ?_) AllReadyH.nil; go_simp); (skip); (try go_wp2_with fail); (refine hK.out _ _ ⟨cell_alloc c0 _, cell_alloc c1 _⟩ (fun hHeld => ?_)); clear hK K; (try simp only [Act.put, px])
   refine wpAnyH_name fun w4 hw4 => ?_
   rw [← hw4] at hHeld;have hF : Fr NoB w2 w4 := by rw [hw4]; exact (Fr.refl _ _).drew.alloc _
   have hN3 : ∀ (j : Nat) (u : Value), (rt3 ⟨⟨tl, tb⟩, Tb.fstW f⟩)[j]? = some u → w4.cell? ((⟨w2.heap.size, 0, none⟩ : Addr).add j) = some u := by rw [hw4]; exact news3 w2.drew ⟨⟨tl, tb⟩, Tb.fstW f⟩
   clear hw4;have q0 := cell_fr' hF c0 nB
   have q1 := cell_fr' hF c1 nB
   have HM4 := zh (HM.out.keep0 hF)
   have HN3 := zh hN3;have HF4 := zh hF
   have HS4 : Hid (N ≤ w4.heap.size) := Nat.le_trans HN2.out hF.size
   clear hN3 hF;refine wpAnyH_ready (rs := [12]) (by kernel_rfl) (by simp) ?_
   refine AllReadyH.cons (by simp only [gx]; rfl) (fun K hK => ?_) AllReadyH.nil
   refine step_own (by rfl) (.tmp 20) (.tmp 27) 68 134 3 24 (.agg #[.int .i64 0, .int .i64 0, .int .i64 0]) (by rfl) Tryz.underlying68 Tryz.info134 rfl (by omega) N v L.length _ (by rfl) HM4.out.sl ⟨w2.heap.size, 0, none⟩ 1 1 (rt3 ⟨⟨tl, tb⟩, Tb.fstW f⟩) (by rfl) rfl HN3.out (rt3_one _) (by have := HLL.out; omega) (by omega) HS4.out ?_
   intro v2 w5 hv2 hf5;have hv3 : SlR w5 N v2 (L ++ [⟨⟨tl, tb⟩, Tb.fstW f⟩]) := SlR.app hv2
   have hnb : ∀ g, v.ownBlock = some g → g ≠ b := fun g hg => by have := HM4.out.sl.from' g hg; have := HBN.out; omega
   have hnm : ∀ g, v.ownBlock = some g → g ≠ m := fun g hg => by have := HM4.out.sl.from' g hg; have := HM4.out.lt; omega
   have x0 := cell_fr' hf5 q0 (fun h => hnb _ h rfl)
   have x1 := cell_fr' hf5 q1 (fun h => hnb _ h rfl)
   have xm := cell_fr' hf5 HM4.out.c0 (fun h => hnm _ h rfl)
   have xf := rF (hf5.row HM4.out.row (fun h => hnm _ h rfl)) 0
   have HST := zh (HM4.out.store hv3 hf5)
   have HFR : Hid (Fr (MN m N) w (w5.setCell ⟨m, 0, none⟩ v2)) := ((HF2.out.mn.trans HF4.out.mn).trans (hf5.mono (fun i _ hi => .inr (HM4.out.sl.from' i hi)))).setCell (p := ⟨m, 0, none⟩) (.inl (.inl rfl)) _
   have HS5 : Hid (N ≤ (w5.setCell ⟨m, 0, none⟩ v2).heap.size) := by show N ≤ _; have := hf5.size; have := HS4.out; simp [World.setCell]; omega
   have hbm' : b ≠ m := HBM.out
   obtain ⟨a5, q5, rfl, _⟩ := hv3.shape
   clear hv2 hf5 hv3 hnb hnm;generalize (L ++ [(⟨⟨tl, tb⟩, Tb.fstW f⟩ : Tb.Rt)]).length = n5 at *
   refine hK.out _ _ ⟨x0, x1⟩ (fun hHeld => ?_)
   clear hK K;(try simp only [Act.put, px])
   (refine tk (v := ?_) 13 (by simp only [gx]; rfl) hHeld (.inl ⟨by rfl, ?_⟩) ?_; rotate_left; (focus (intro w k; (try dsimp only at k); go_simp; all_goals with_reducible rfl)); (try simp only [Act.put, px])); (refine tk (v := ?_) 14 (by simp only [gx]; rfl) hHeld (.inl ⟨by rfl, ?_⟩) ?_; rotate_left; (focus (intro w k; (try dsimp only at k); go_simp; all_goals with_reducible rfl)); (try simp only [Act.put, px]))
   (refine wpAnyH_ready (rs := [15]) (by kernel_rfl) (by simp) ?_; refine AllReadyH.cons (by simp only [gx]; rfl) (fun K hK => ?_) AllReadyH.nil; go_simp); (skip); (try go_wp2_with fail); (refine hK.out _ _ ⟨cell_set x0 hbm', cell_set x1 hbm'⟩ (fun hHeld => ?_)); clear hK K; (try simp only [Act.put, px])
   (refine wpAnyH_done (by kernel_rfl) ?_ _)
   go_wp2_with fail;go_meet
   exact ⟨by rw [HPK.out], _, by show MkAt _ m N _ (L ++ Tb.made (Tb.wshT T) T.root h); rw [HMD.out]; exact HST.out, TrM.keep HFR.out HT.out, HFR, HS5⟩
  go_simp
  (try go_wp2_with fail)
  refine hK.out _ _ ⟨cell_alloc c0 _, cell_alloc c1 _⟩ (fun hHeld => ?_)
  clear hK K;(try simp only [Act.put, px])
  refine wpAnyH_name fun w4 hw4 => ?_
  rw [← hw4] at hHeld;have hF : Fr NoB w2 w4 := by rw [hw4]; exact (Fr.refl _ _).drew.alloc _
  have hN3 : ∀ (j : Nat) (u : Value), (rt3 ⟨⟨tl, tb⟩, Tb.fstW f⟩)[j]? = some u → w4.cell? ((⟨w2.heap.size, 0, none⟩ : Addr).add j) = some u := by rw [hw4]; exact news3 w2.drew ⟨⟨tl, tb⟩, Tb.fstW f⟩
  clear hw4;have q0 := cell_fr' hF c0 nB
  have q1 := cell_fr' hF c1 nB
  have HM4 := zh (HM.out.keep0 hF)
  have HN3 := zh hN3;have HF4 := zh hF
  have HS4 : Hid (N ≤ w4.heap.size) := Nat.le_trans HN2.out hF.size
  clear hN3 hF;have cm4 := HM4.out.c0
  (refine wpAnyH_ready (rs := [4]) (by kernel_rfl) (by simp) ?_; refine AllReadyH.cons (by simp only [gx]; rfl) (fun K hK => ?_) AllReadyH.nil; go_simp); (skip); (try go_wp2_with fail); (refine hK.out _ _ ⟨q0, q1⟩ (fun hHeld => ?_)); clear hK K; (try simp only [Act.put, px])
  refine wpAnyH_ready (rs := [12]) (by kernel_rfl) (by simp) ?_
  refine AllReadyH.cons (by simp only [gx]; rfl) (fun K hK => ?_) AllReadyH.nil
  refine step_own (by rfl) (.tmp 20) (.tmp 27) 68 134 3 24 (.agg #[.int .i64 0, .int .i64 0, .int .i64 0]) (by rfl) Tryz.underlying68 Tryz.info134 rfl (by omega) N v L.length _ (by rfl) HM4.out.sl ⟨w2.heap.size, 0, none⟩ 1 1 (rt3 ⟨⟨tl, tb⟩, Tb.fstW f⟩) (by rfl) rfl HN3.out (rt3_one _) (by have := HLL.out; omega) (by omega) HS4.out ?_
  intro v2 w5 hv2 hf5;have hv3 : SlR w5 N v2 (L ++ [⟨⟨tl, tb⟩, Tb.fstW f⟩]) := SlR.app hv2
  have hnb : ∀ g, v.ownBlock = some g → g ≠ b := fun g hg => by have := HM4.out.sl.from' g hg; have := HBN.out; omega
  have hnm : ∀ g, v.ownBlock = some g → g ≠ m := fun g hg => by have := HM4.out.sl.from' g hg; have := HM4.out.lt; omega
  have x0 := cell_fr' hf5 q0 (fun h => hnb _ h rfl)
  have x1 := cell_fr' hf5 q1 (fun h => hnb _ h rfl)
  have xm := cell_fr' hf5 HM4.out.c0 (fun h => hnm _ h rfl)
  have xf := rF (hf5.row HM4.out.row (fun h => hnm _ h rfl)) 0
  have HST := zh (HM4.out.store hv3 hf5)
  have HFR : Hid (Fr (MN m N) w (w5.setCell ⟨m, 0, none⟩ v2)) := ((HF2.out.mn.trans HF4.out.mn).trans (hf5.mono (fun i _ hi => .inr (HM4.out.sl.from' i hi)))).setCell (p := ⟨m, 0, none⟩) (.inl (.inl rfl)) _
  have HS5 : Hid (N ≤ (w5.setCell ⟨m, 0, none⟩ v2).heap.size) := by show N ≤ _; have := hf5.size; have := HS4.out; simp [World.setCell]; omega
  have hbm' : b ≠ m := HBM.out
  obtain ⟨a5, q5, rfl, _⟩ := hv3.shape
  clear hv2 hf5 hv3 hnb hnm;generalize (L ++ [(⟨⟨tl, tb⟩, Tb.fstW f⟩ : Tb.Rt)]).length = n5 at *
  refine hK.out _ _ ⟨x0, x1⟩ (fun hHeld => ?_)
  clear hK K;(try simp only [Act.put, px])
  (refine tk (v := ?_) 13 (by simp only [gx]; rfl) hHeld (.inl ⟨by rfl, ?_⟩) ?_; rotate_left; (focus (intro w k; (try dsimp only at k); go_simp; all_goals with_reducible rfl)); (try simp only [Act.put, px])); (refine tk (v := ?_) 14 (by simp only [gx]; rfl) hHeld (.inl ⟨by rfl, ?_⟩) ?_; rotate_left; (focus (intro w k; (try dsimp only at k); go_simp; all_goals with_reducible rfl)); (try simp only [Act.put, px]))
  (refine wpAnyH_ready (rs := [15]) (by kernel_rfl) (by simp) ?_; refine AllReadyH.cons (by simp only [gx]; rfl) (fun K hK => ?_) AllReadyH.nil; go_simp); (skip); (try go_wp2_with fail); (refine hK.out _ _ ⟨cell_set x0 hbm', cell_set x1 hbm'⟩ (fun hHeld => ?_)); clear hK K; (try simp only [Act.put, px])
  (refine wpAnyH_done (by kernel_rfl) ?_ _)
  go_wp2_with fail;go_meet
  exact ⟨by rw [HPK.out], _, by show MkAt _ m N _ (L ++ Tb.made (Tb.wshT T) T.root h); rw [HMD.out]; exact HST.out, TrM.keep HFR.out HT.out, HFR, HS5⟩
 case rest =>
  clear c0 c1 cm ca HM HT2 HN2 HV1 HF2 HD HT;obtain ⟨rfl, v3, hM3, hT3, hF3, hN3⟩ := hcut
  have hlf3 := HLF.out _ hT3.out
  have HLF3 := zh hlf3;clear hlf3
  cases T with
  | leaf p x =>
   go_wp2_with fail;refine HLF3.out.mono ?_
   rintro e w4 ⟨rfl, rfl⟩
   dsimp only [Tb.Tr.isLeaf]
   go_wp2;refine bodyPost_end (results_none rfl _ _ _) rfl ?_
   exact ⟨rfl, v3, hM3.out, hF3.out⟩
  | node p l r =>
   obtain ⟨IHL, IHR⟩ := IHH.out p l r rfl
   obtain ⟨bl, br, hn3, hl3, hr3⟩ := hT3.out
   have c2 := hn3.1.c3
   have c3 := hn3.1.c4
   have hlen := HLN.out
   have elen : (Tb.layT (.node p l r) h).length = (Tb.made (Tb.wshT (.node p l r)) p h).length + ((Tb.layT l (Tb.pick (Tb.wshT (.node p l r)) h)).length + (Tb.layT r (Tb.pick (Tb.wshT (.node p l r)) h)).length) := by
    show (Tb.made (Tb.wshT (.node p l r)) p h ++ (Tb.layT l (Tb.pick (Tb.wshT (.node p l r)) h) ++ Tb.layT r (Tb.pick (Tb.wshT (.node p l r)) h))).length = _
    rw [List.length_append, List.length_append]
   have eL : L ++ Tb.layT (.node p l r) h = ((L ++ Tb.made (Tb.wshT (.node p l r)) p h) ++ Tb.layT l (Tb.pick (Tb.wshT (.node p l r)) h)) ++ Tb.layT r (Tb.pick (Tb.wshT (.node p l r)) h) := by
    show L ++ (Tb.made (Tb.wshT (.node p l r)) p h ++ (Tb.layT l (Tb.pick (Tb.wshT (.node p l r)) h) ++ Tb.layT r (Tb.pick (Tb.wshT (.node p l r)) h))) = _
    rw [List.append_assoc, List.append_assoc]
   have hM3' : MkAt wc m N v3 (L ++ Tb.made (Tb.wshT (.node p l r)) p h) := hM3.out
   rw [elen] at hlen;have ihl := IHL bl m N v3 (L ++ Tb.made (Tb.wshT (.node p l r)) p h) (Tb.pick (Tb.wshT (.node p l r)) h) wc hl3 HH.out.1 hM3' hN3.out (by rw [List.length_append]; omega)
   have ihr := fun W v4 (h1 : MkAt W m N v4 ((L ++ Tb.made (Tb.wshT (.node p l r)) p h) ++ Tb.layT l (Tb.pick (Tb.wshT (.node p l r)) h))) (h2 : TrM W m N r br) (h3 : N ≤ W.heap.size) =>
    IHR br m N v4 ((L ++ Tb.made (Tb.wshT (.node p l r)) p h) ++ Tb.layT l (Tb.pick (Tb.wshT (.node p l r)) h)) (Tb.pick (Tb.wshT (.node p l r)) h) W h2 HH.out.2 h1 h3 (by rw [List.length_append, List.length_append]; omega)
   rw [← eL] at ihr;have hbm3 := hn3.2
   have IL := zh ihl; clear ihl; have IR := zh ihr; clear ihr; have HR3 := zh hr3; clear hr3; have HBM3 := zh hbm3; clear hbm3;clear elen eL hlen hM3 hM3' hl3 hn3 IHL IHR
   go_wp2_with fail;refine HLF3.out.mono ?_
   rintro e w4 ⟨rfl, rfl⟩
   dsimp only [Tb.Tr.isLeaf]
   go_wp2_with fail;refine IL.out.mono ?_
   rintro e w5 ⟨rfl, v4, hM5, hF5⟩
   have hS : ¬ MN m N b := fun q => by
    rcases q with q | q
    ·exact HBM3.out.2 q
    have := HBM3.out.1; omega
   have c3 := cell_fr' hF5 c3 hS
   have HM5 := zh hM5;have HR5 := zh (HR3.out.keep hF5)
   have HF5 := zh (hF3.out.trans hF5)
   have HN5 : Hid (N ≤ w5.heap.size) := Nat.le_trans hN3.out hF5.size
   clear hM5 hF5 hS;go_wp2_with fail
   refine (IR.out _ v4 HM5.out HR5.out HN5.out).mono ?_
   rintro e w6 ⟨rfl, v5, hM6, hF6⟩
   have HM6 := zh hM6;have HF6 := zh (HF5.out.trans hF6)
   clear hM6 hF6;go_wp2
   refine bodyPost_end (results_none rfl _ _ _) rfl ?_
   exact ⟨rfl, v5, HM6.out, HF6.out⟩
theorem lay_any : ∀ T, LaySaid T
 | .leaf p x => lay_step (.leaf p x) (fun _ _ _ e => by cases e)
 | .node p l r => lay_step (.node p l r) (fun _ _ _ e => by cases e; exact ⟨lay_any l, lay_any r⟩)
def OfTbNew (L : List Tb.Rt) (w : World) (e : Ending) (w' : World) : Prop :=
 (Tb.chk L ≠ 0 ∧ e = .returned (.tuple #[.pointer none, .int .i64 (Tb.chk L)]) ∧ Fr NoB w w') ∨
 (Tb.chk L = 0 ∧ ∃ t v, e = .returned (.tuple #[.pointer (some ⟨t, 0, none⟩), .int .i64 0]) ∧ TAt w' t v L ∧ w.heap.size ≤ t ∧ (∀ g, v.ownBlock = some g → w.heap.size ≤ g) ∧ Fr NoB w w')
theorem OfTb_new (a : Option Addr) (c : Nat) (L : List Tb.Rt) (w : World) (hl : L.length ≤ 1000) (ha : Rs w a L) :
  Calls Tryz.prog 118 #[.slice a L.length c] w (OfTbNew L w) := by
 have HA := zh ha; clear ha
 go_enter Tryz.func118, Tryz.ntmps118
 go_wp2_with fail
 refine (Check_all a c L _ HA.out).mono ?_
 rintro e w1 ⟨rfl, hf⟩
 have hr := HA.out.keep0 hf
 have HR := zh hr; clear hr; have HF := zh hf; clear hf
 by_cases h0 : Tb.chk L = 0
 ·have H0 := zh h0;rw [h0]
  clear h0;go_wp2_with fail
  refine (CloneR_any a c L _ hl HR.out).mono ?_
  rintro e w2 ⟨v', rfl, hv, hf⟩
  obtain ⟨a', c', rfl, _⟩ := hv.shape
  have hs0 : SlR w2 0 (.slice a' L.length c') L := by
   refine ⟨hv.1, ?_⟩
   rcases hv.2 with h | ⟨g, cap, cur, h1, h2, h3⟩
   ·exact .inl h
   exact .inr ⟨g, cap, cur, h1, Nat.zero_le _, h3⟩
  have hne : (Value.slice a' L.length c').ownBlock ≠ some w2.heap.size := fun e => by
   have := (oL hv _ e).2
   omega
  have hnw : ∀ g, (Value.slice a' L.length c').ownBlock = some g → w.heap.size ≤ g := fun g hg => Nat.le_trans HF.out.size (hv.from' g hg)
  have hF := HF.out.trans hf
  have HS0 := zh hs0; clear hs0; have HNE := zh hne; clear hne; have HF1 := zh hF; clear hF; have HNW := zh hnw; clear hnw;clear hv hf
  go_wp2;refine bodyPost_ret (v := .tuple #[.pointer (some ⟨w2.heap.size, 0, none⟩), .int .i64 0]) ?_ rfl (show OfTbNew L w (.returned (.tuple #[.pointer (some ⟨w2.heap.size, 0, none⟩), .int .i64 0])) _ from Or.inr ⟨H0.out, w2.heap.size, _, rfl, ⟨?_, oA HS0.out _, HNE.out⟩, HF1.out.size, HNW.out, HF1.out.alloc _⟩)
  ·simp [results, Tryz.results118, go_sem]
  exact rowIs_new w2 1 _ 112
 have hb : (Tb.chk L != 0) = true := by simpa using h0
 have H0 := zh h0
 clear h0
 go_wp2
 refine bodyPost_ret (v := .tuple #[.pointer none, .int .i64 (Tb.chk L)]) ?_ rfl (show OfTbNew L w (.returned (.tuple #[.pointer none, .int .i64 (Tb.chk L)])) w1 from Or.inl ⟨H0.out, rfl, HF.out⟩)
 simp [results, Tryz.results118, go_sem]
def FewPost (L : List Tb.Rt) (w : World) (e : Ending) (w' : World) : Prop :=
 (40 < (Tb.few L).length ∧ e = .returned (.tuple #[.pointer none, .bool false]) ∧ Fr NoB w w') ∨
 ((Tb.few L).length ≤ 40 ∧ ∃ t v, e = .returned (.tuple #[.pointer (some ⟨t, 0, none⟩), .bool true]) ∧ TAt w' t v (Tb.few L) ∧ w.heap.size ≤ t ∧ (∀ g, v.ownBlock = some g → w.heap.size ≤ g) ∧ Fr NoB w w')
theorem new_maker (w : World) (N : Nat) (hN : w.heap.size < N) : MkAt (w.alloc (.cells #[.slice none 0 0] 191)) w.heap.size N (.slice none 0 0) [] :=
 ⟨World.rowIs_alloc w #[.slice none 0 0] _ _ (by intro i hi; simp at hi; subst hi; rfl), SlR.nil _ _, hN⟩
theorem MkAt.grow {w w' : World} {m N M : Nat} (h : MkAt w m N (.slice none 0 0) []) (hf : Fr NoB w w') (hM : m < M) : MkAt w' m M (.slice none 0 0) [] := ⟨hf.row h.row (fun h => h), SlR.nil _ _, hM⟩
theorem slice_noint (x : Int) : Value.slice none 0 0 ≠ .int .i64 x := fun e => by cases e
theorem Fr.noMN {w w1 w2 : World} {m N : Nat} (h : Fr NoB w w1) (hf : Fr (MN m N) w1 w2) (hm : w.heap.size ≤ m) (hN : w.heap.size ≤ N) : Fr NoB w w2 := h.trans' hf (fun i hi k => by
 rcases k with k | k
 ·omega
 omega)
theorem Few_any (t : Nat) (v : Value) (L : List Tb.Rt) (w : World) (hl : L.length ≤ 1000) (hw : Tb.Wf L) (h : TAt w t v L) : Calls Tryz.prog 80 #[.pointer (some ⟨t, 0, none⟩)] w (FewPost L w) := by
 have hL := Tb.few_layT hw
 have hH := (Tb.mkT_hop 8 ⟨0, 0⟩ (Tb.allOf L) (Tb.fit_allOf L) (Tb.allOf_hops hw)).1
 have h512 := Tb.few_512 hw
 have hck := Tb.chk_of_wf (Tb.few_wf hw)
 obtain ⟨T, hT⟩ : ∃ T, T = Tb.mkT 8 ⟨0, 0⟩ (Tb.allOf L) := ⟨_, rfl⟩
 have hof := fun W (hW : Fr NoB w W) => TOf_any t v L W hl hw (h.keep0 hW)
 rw [← hT] at hL hH hof
 have HL := zh hL; clear hL; have HH := zh hH; clear hH; have H512 := zh h512; clear h512; have HCK := zh hck; clear hck; have HOF := zh hof; clear hof
 clear h hw hl hT
 go_enter Tryz.func80, Tryz.ntmps80
 go_upto_region 2 with fail
 refine wp_name fun w1 hw1 => ?_
 have hM1 : MkAt w1 w.heap.size (w.heap.size + 1) (.slice none 0 0) [] := by rw [hw1]; exact new_maker w _ (by omega)
 have hF1 : Fr NoB w w1 := by rw [hw1]; (repeat (first | exact Fr.refl _ _ | refine Fr.alloc ?_ _ | refine Fr.setNew ?_ (by omega) _ _ | refine Fr.drewN ?_ _ | refine Fr.drew ?_))
 clear hw1
 have HM1 := zh hM1; clear hM1; have HF1 := zh hF1; clear hF1
 go_wp2_with fail
 refine (HOF.out _ HF1.out).mono ?_
 rintro e w2 ⟨b, rfl, hT2, hf2⟩
 have hlt : w.heap.size < w2.heap.size := Nat.lt_of_lt_of_le (World.block_lt_of_cell? w1 _ HM1.out.c0) hf2.size
 have hM2 := HM1.out.grow hf2 hlt
 have hTM := TrM.of (m := w.heap.size) (N := w2.heap.size) hM2.c0 slice_noint (Nat.le_refl _) hT2
 have hlay := lay_any T b w.heap.size w2.heap.size (.slice none 0 0) [] (-1) w2 hTM HH.out hM2 (Nat.le_refl _) (by rw [HL.out]; have := H512.out; simp only [List.length_nil]; omega)
 rw [HL.out, List.nil_append] at hlay
 have HLAY := zh hlay
 have HF2 := zh (HF1.out.trans hf2)
 have HLT := zh hlt; clear hlt
 clear hT2 hf2 hM2 hTM hlay HM1 HF1
 go_wp2_with fail
 refine HLAY.out.mono ?_
 rintro e w3 ⟨rfl, v3, hM3, hf3⟩
 have c0 := hM3.c0
 obtain ⟨a3, q3, rfl, hrs, _⟩ := hM3.sl.shape
 have HF3 := zh (HF2.out.noMN hf3 (Nat.le_refl _) (Nat.le_of_lt HLT.out))
 have HRS := zh hrs; clear hrs
 clear hM3 hf3
 go_wp2_with fail
 refine (OfTb_new a3 q3 (Tb.few L) _ (by have := H512.out; omega) HRS.out).mono ?_
 rintro e w4 h4
 rcases h4 with ⟨h0, rfl, hf4⟩ | ⟨h0, t4, v4, rfl, hT4, ht4, hv4, hf4⟩
 ·have h40 : 40 < (Tb.few L).length := Classical.byContradiction fun k => h0 (by rw [HCK.out, if_neg k])
  have hc : Tb.chk (Tb.few L) = 3 := by rw [HCK.out, if_pos h40]
  have HF4 := zh (HF3.out.trans hf4)
  have H40 := zh h40; clear h40;rw [hc]
  clear h0 hf4 hc;go_wp2
  refine bodyPost_ret (v := .tuple #[.pointer none, .bool false]) ?_ rfl (show FewPost L w (.returned (.tuple #[.pointer none, .bool false])) w4 from Or.inl ⟨H40.out, rfl, HF4.out⟩)
  simp [results, Tryz.results80, go_sem]
 have h40 : (Tb.few L).length ≤ 40 := Classical.byContradiction fun k => by
  rw [HCK.out, if_pos (by omega)] at h0;cases h0
 have HT4 := zh hT4
 have HV4 := zh (fun g hg => Nat.le_trans HF3.out.size (hv4 g hg))
 have HB4 := zh (Nat.le_trans HF3.out.size ht4)
 have HF4 := zh (HF3.out.trans hf4)
 have H40 := zh h40; clear h40
 clear h0 hf4 hT4 ht4 hv4
 go_wp2
 refine bodyPost_ret (v := .tuple #[.pointer (some ⟨t4, 0, none⟩), .bool true]) ?_ rfl (show FewPost L w (.returned (.tuple #[.pointer (some ⟨t4, 0, none⟩), .bool true])) w4 from Or.inr ⟨H40.out, t4, v4, rfl, HT4.out, HB4.out, HV4.out, HF4.out⟩)
 simp [results, Tryz.results80, go_sem]
end Go.Proofs.YtffoilacaffdgaaGreatDoor
