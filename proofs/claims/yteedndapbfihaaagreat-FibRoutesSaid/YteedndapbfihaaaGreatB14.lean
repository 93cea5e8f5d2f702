/- Walks over the reference's town: Do. -/
import Derived.Test.YteedndapbfihaaaGreatB13
import Derived.Test.YteedndapbfihaaaGreatB12
namespace Go.Proofs.YteedndapbfihaaaGreat
open Go.RowKit Go.Deep

def TDoSaid (y : TIds) (u : Value) (t : Nt.NT) (k a b n pl pb : Int) (w : World) : Prop :=
  Calls Tryz.prog 42 #[.pointer (some ⟨y.b, 0, none⟩), step6 k a b n pl pb] w (TnDo y u (Nt.doT t k a b n).1 (Nt.doT t k a b n).2 w)

set_option maxRecDepth 100000 in
set_option maxHeartbeats 4000000 in
theorem TDo_tell (y : TIds) (u : Value) (t : Nt.NT) (a b n pl pb : Int) (m : Nat) (w : World) (hr : Nt.NOk t m) (h : TnAt w y u t) : TDoSaid y u t 3 a b n pl pb w := by
  have e : Nt.doT t 3 a b n = Nt.tellT t a b := rfl
  unfold TDoSaid step6
  rw [e]
  have H := Lib.hid h; clear h; have HR := Lib.hid hr; clear hr
  clear e
  go_enter Tryz.func42, Tryz.ntmps42
  go_wp2_with fail
  refine (Ttell_any y u t a b m _ HR.out (H.out.keep0 ((Fr.refl _ _).alloc _))).mono ?_
  rintro e w1 hd
  have hd := TnDo.after ((Fr.refl _ w).alloc _) hd
  obtain ⟨v', rfl, ha, hf, hg⟩ := hd
  have HA := Lib.hid ha; clear ha; have HF := Lib.hid hf; clear hf; have HG := Lib.hid hg; clear hg
  go_wp2
  go_ret
  exact ⟨v', rfl, HA.out, HF.out, HG.out⟩
set_option maxRecDepth 100000 in
set_option maxHeartbeats 4000000 in
theorem TDo_else (y : TIds) (u : Value) (t : Nt.NT) (k a b n pl pb : Int) (w : World) (h1 : k ≠ 1) (h2 : k ≠ 2) (h3 : k ≠ 3) (h4 : k ≠ 4) (h5 : k ≠ 5) (h6 : k ≠ 6) (h7 : k ≠ 7) (h : TnAt w y u t) : TDoSaid y u t k a b n pl pb w := by
  have e : Nt.doT t k a b n = (t, 8) := by rw [Nt.doT, if_neg h1, if_neg h2, if_neg h3, if_neg h4, if_neg h5, if_neg h6]
  unfold TDoSaid step6
  rw [e]
  clear e
  have g1 : (k == 1) = false := by simpa using h1
  have g2 : (k == 2) = false := by simpa using h2
  have g3 : (k == 3) = false := by simpa using h3
  have g4 : (k == 4) = false := by simpa using h4
  have g5 : (k == 5) = false := by simpa using h5
  have g6 : (k == 6) = false := by simpa using h6
  have g7 : (k == 7) = false := by simpa using h7
  clear h1 h2 h3 h4 h5 h6 h7
  have H := Lib.hid h; clear h
  go_enter Tryz.func42, Tryz.ntmps42
  go_wp2
  go_ret
  exact TnDo.none (H.out.keep0 ((Fr.refl _ _).alloc _)) ((Fr.refl _ _).alloc _)
set_option maxRecDepth 100000 in
set_option maxHeartbeats 4000000 in
theorem TDo_link (y : TIds) (u : Value) (t : Nt.NT) (a b c pl pb : Int) (m : Nat) (w : World) (hr : Nt.NOk t m) (h : TnAt w y u t) : TDoSaid y u t 1 a b c pl pb w := by
  have e : Nt.doT t 1 a b c = Nt.linkT t a b c := rfl
  unfold TDoSaid step6
  rw [e]
  clear e
  by_cases hb : Nt.setBad a b c
  · have e : Nt.linkT t a b c = (t, 1) := by rw [Nt.linkT, if_pos hb]
    rw [e]
    clear e
    unfold Nt.setBad at hb
    have H := Lib.hid h; clear h; have HR := Lib.hid hr; clear hr; have HB := Lib.hid hb; clear hb
    go_enter Tryz.func42, Tryz.ntmps42
    go_wp2_with fail
    (refine still_tail 9 (by kernel_rfl) (by kernel_rfl) ?_; simp only [List.take_succ_cons, List.take_zero, List.drop_succ_cons, List.drop_zero]; (iterate 9 (refine wpStill_step (fun K hK => ?_); go_simp; (with_reducible refine hK _ ?_); clear hK K)); refine wpStill_nil ?_)
    go_wp2_with fail
    refine (MSet_no y.b a b c _ HB.out).mono ?_
    rintro e w' ⟨rfl, rfl⟩
    go_wp2
    go_ret
    exact TnDo.none (H.out.keep0 ((Fr.refl _ _).alloc _).drew) ((Fr.refl _ _).alloc _).drew
  · have e : Nt.linkT t a b c = (Nt.linkOk t a.toNat b.toNat c, 0) := by rw [Nt.linkT, if_neg hb]
    rw [e]
    clear e
    have hb := Classical.not_not.1 hb
    obtain ⟨p0, p1, q0, q1, hne, r0, r1⟩ := hb
    obtain ⟨p, rfl⟩ := Int.eq_ofNat_of_zero_le p0
    obtain ⟨q, rfl⟩ := Int.eq_ofNat_of_zero_le q0
    rw [Int.toNat_natCast, Int.toNat_natCast]
    have hp : p < 6 := by omega
    have hq : q < 6 := by omega
    have hpq : q ≠ p := by omega
    clear hne p0 q0
    have H := Lib.hid h; clear h; have HR := Lib.hid hr; clear hr; have HPQ := Lib.hid hpq; clear hpq
    go_enter Tryz.func42, Tryz.ntmps42
    go_wp2_with fail
    refine wp_name fun w1 hw1 => ?_
    have hfa : Fr NoB w w1 := by rw [hw1]; exact (Fr.refl _ _).alloc _
    have b1 : w1.cell? ⟨w.heap.size, 1, none⟩ = some (.int .i64 p) := by rw [hw1]; simp
    have b2 : w1.cell? ⟨w.heap.size, 2, none⟩ = some (.int .i64 q) := by rw [hw1]; simp
    have b3 : w1.cell? ⟨w.heap.size, 3, none⟩ = some (.int .i64 c) := by rw [hw1]; simp
    have h1 := (H.out.keep0 hfa).drewN 1
    have hbn : ∀ i, FtT y u i → ¬ w.heap.size = i := fun i hi e => by have := H.out.lt hi; omega
    have hfa : Fr NoB w w1.drew := hfa.drew
    clear hw1 H
    generalize w.heap.size = pz at *
    have H := Lib.hid h1; clear h1; have HF := Lib.hid hfa; clear hfa; have HBN := Lib.hid hbn; clear hbn
    (refine still_tail 9 (by kernel_rfl) (by kernel_rfl) ?_; simp only [List.take_succ_cons, List.take_zero, List.drop_succ_cons, List.drop_zero]; (iterate 9 (refine wpStill_step (fun K hK => ?_); go_simp; (with_reducible refine hK _ ?_); clear hK K)); refine wpStill_nil ?_)
    have hbb1 : w1.drew.cell? ⟨pz, 1, none⟩ = some (.int .i64 p) := b1
    have hbb2 : w1.drew.cell? ⟨pz, 2, none⟩ = some (.int .i64 q) := b2
    have hbb3 : w1.drew.cell? ⟨pz, 3, none⟩ = some (.int .i64 c) := b3
    have hT : TnAt w1.drew y u t := H.out
    generalize w1.drew = w2 at *
    clear b1 b2 b3 H
    have H := Lib.hid hT; clear hT
    go_wp2_with fail
    refine (MSet_at y.b p q c (t.C p q) (t.C q p) _ hp hq (fun e => HPQ.out e.symm) r0 r1 (H.out.cM hp hq) (H.out.cM hq hp) (H.out.fz _) (H.out.fz _)).mono ?_
    rintro e w3 ⟨rfl, hw3⟩
    have h3 : TnAt w3 y u { t with C := setC t.C p q c } := by rw [hw3]; exact H.out.setM hp hq c
    have hf3 : Fr (OneB y.b) w2 w3 := by rw [hw3]; exact ((Fr.refl _ _).set1 _ _).set1 _ _
    have hne0 : ¬ pz = y.b := HBN.out y.b (.inl rfl)
    have s1 := cell_fr hf3 hbb1 hne0
    have s2 := cell_fr hf3 hbb2 hne0
    have s3 := cell_fr hf3 hbb3 hne0
    have hf3' : Fr (FtT y u) w w3 := (HF.out.mono (fun _ _ h => h.elim)).trans (hf3.mono (fun i _ h => .inl h))
    clear hw3 H HF hf3 hbb1 hbb2 hbb3 hne0
    have d1 := h3.cN hp
    have hpi : (p : Int) < 6 := by omega
    have hqi : (q : Int) < 6 := by omega
    have H := Lib.hid h3; clear h3; have HF := Lib.hid hf3'; clear hf3'
    go_wp2_with fail
    (refine still_tail 11 (by kernel_rfl) (by kernel_rfl) ?_; simp only [List.take_succ_cons, List.take_zero, List.drop_succ_cons, List.drop_zero]; (iterate 11 (refine wpStill_step (fun K hK => ?_); go_simp; (with_reducible refine hK _ ?_); clear hK K)); refine wpStill_nil ?_)
    go_wp2_with fail
    refine (MLink_any (y.N p) q c (t.N p) _ (HR.out.run p hp).ok (by exact H.out.node p hp)).mono ?_
    rintro e w4 ⟨rfl, hn, hf⟩
    have h4 := TnAt.setN (H.out.drewN 1) hp hn hf
    have hf4 : Fr (FtT y u) w w4 := HF.out.drew.trans (hf.mono (fun i _ h => .inr (.inl ⟨p, hp, h⟩)))
    have hq4 : NAt w4 (y.N q) 151 (t.N q) := by
      have h5 : NAt w4 (y.N q) 151 (Nt.upN t.N p (Nd.linkC (t.N p) q c).1 q) := h4.node q hq
      rw [Nt.upN_other _ _ _ _ HPQ.out] at h5
      exact h5
    have hne1 : ¬ pz = y.N p := HBN.out _ (.inr (.inl ⟨p, hp, rfl⟩))
    have s1 := cell_fr hf s1 hne1
    have s2 := cell_fr hf s2 hne1
    have s3 := cell_fr hf s3 hne1
    clear d1 hn hf H HF hne1
    have d2 := h4.cN hq
    have H := Lib.hid h4; clear h4; have HF := Lib.hid hf4; clear hf4; have HQ := Lib.hid hq4; clear hq4
    go_wp2_with fail
    (refine still_tail 11 (by kernel_rfl) (by kernel_rfl) ?_; simp only [List.take_succ_cons, List.take_zero, List.drop_succ_cons, List.drop_zero]; (iterate 11 (refine wpStill_step (fun K hK => ?_); go_simp; (with_reducible refine hK _ ?_); clear hK K)); refine wpStill_nil ?_)
    go_wp2_with fail
    refine (MLink_any (y.N q) p c (t.N q) _ (HR.out.run q hq).ok (by exact HQ.out)).mono ?_
    rintro e w5 ⟨rfl, hn, hf⟩
    have h5 := TnAt.setN (H.out.drewN 1) hq hn hf
    have hf5 : Fr (FtT y u) w w5 := HF.out.drew.trans (hf.mono (fun i _ h => .inr (.inl ⟨q, hq, h⟩)))
    clear d2 hn hf H HF
    have H := Lib.hid h5; clear h5; have HF := Lib.hid hf5; clear hf5
    go_wp2
    go_ret
    exact TnDo.none H.out HF.out
end Go.Proofs.YteedndapbfihaaaGreat
/- Walks over the reference's town: Do: tick. -/
namespace Go.Proofs.YteedndapbfihaaaGreat
open Go.RowKit Go.Deep

def restL (C : Nat → Nat → Int) (a k : Nat) : List Nat := ((List.range 6).drop k).filter (fun b => decide (0 < C a b))
theorem restL_0 (C : Nat → Nat → Int) (a : Nat) : restL C a 0 = ofL C a 6 := rfl
theorem restL_6 (C : Nat → Nat → Int) (a : Nat) : restL C a 6 = [] := rfl
theorem range_drop {k : Nat} (h : k < 6) : (List.range 6).drop k = k :: (List.range 6).drop (k + 1) := by
  match k, h with
  | 0, _ => rfl
  | 1, _ => rfl
  | 2, _ => rfl
  | 3, _ => rfl
  | 4, _ => rfl
  | 5, _ => rfl
theorem restL_hit {C : Nat → Nat → Int} {a k : Nat} (h : k < 6) (hc : 0 < C a k) : restL C a k = k :: restL C a (k + 1) := by
  unfold restL; rw [range_drop h, List.filter_cons_of_pos (by simpa using hc)]
theorem restL_miss {C : Nat → Nat → Int} {a k : Nat} (h : k < 6) (hc : ¬ 0 < C a k) : restL C a k = restL C a (k + 1) := by
  unfold restL; rw [range_drop h, List.filter_cons_of_neg (by simpa using hc)]
theorem Nt.tellT_C (t : Nt.NT) (a b : Int) : (Nt.tellT t a b).1.C = t.C := by unfold Nt.tellT; split; rfl; split; rfl; split <;> rfl
def TTRel (y : TIds) (u0 : Value) (C : Nat → Nat → Int) (p pz : Nat) (r : Nt.NT × Int) (m : Nat) (w : World) (g : Nat) (i : Value) (wr : World) : Prop :=
  ∃ (k : Nat) (t : Nt.NT) (u : Value), k ≤ 6 ∧ g = 6 - k ∧ i = .int .i64 k ∧ Nt.NOk t m ∧ t.C = C ∧ Nt.tellsT t p (restL C p k) = r ∧ TnAt wr y u t ∧ Fr (FtT y u0) w wr ∧ (∀ g, u.ownBlock = some g → u0.ownBlock = some g ∨ w.heap.size ≤ g) ∧ wr.cell? ⟨pz, 1, none⟩ = some (.int .i64 p) ∧ (∀ i, FtT y u i → ¬ pz = i)
set_option maxRecDepth 100000 in
set_option maxHeartbeats 4000000 in
theorem TDo_tick (y : TIds) (u : Value) (t : Nt.NT) (a b n pl pb : Int) (m : Nat) (w : World) (hr : Nt.NOk t m) (hm : m ≤ 1000) (h : TnAt w y u t) : TDoSaid y u t 2 a b n pl pb w := by
  have e : Nt.doT t 2 a b n = Nt.tickT t a := rfl
  unfold TDoSaid step6
  rw [e]
  clear e
  by_cases ha : Nt.isN a
  · obtain ⟨p, rfl⟩ := Int.eq_ofNat_of_zero_le ha.1
    have hp : p < 6 := by have := ha.2; omega
    have e : Nt.tickT t p = Nt.tellsT (Nt.tickOk t p) p (restL t.C p 0) := by rw [Nt.tickT, if_neg (fun h => h ha), Int.toNat_natCast, restL_0]
    have hok := hr.tickOk hp
    rw [e]
    clear e ha
    have hpi : (p : Int) < 6 := by omega
    have H := Lib.hid h; clear h; have HR := Lib.hid hr; clear hr; have HOK := Lib.hid hok; clear hok
    go_enter Tryz.func42, Tryz.ntmps42
    go_wp2_with fail
    refine (RNode_yes _ _ (by omega) (by omega)).mono ?_; rintro e w' ⟨rfl, rfl⟩
    go_wp2_with fail
    refine wp_name fun w1 hw1 => ?_
    have hfa : Fr NoB w w1 := by rw [hw1]; exact (Fr.refl _ _).alloc _
    have b1 : w1.cell? ⟨w.heap.size, 1, none⟩ = some (.int .i64 p) := by rw [hw1]; simp
    have h1 := H.out.keep0 hfa
    have c1 := h1.cN hp
    have hbn : ∀ i, FtT y u i → ¬ w.heap.size = i := fun i hi e => by have := H.out.lt hi; omega
    clear hw1 H
    generalize w.heap.size = pz at *
    have H := Lib.hid h1; clear h1; have HF := Lib.hid hfa; clear hfa; have HBN := Lib.hid hbn; clear hbn
    (refine still_tail 7 (by kernel_rfl) (by kernel_rfl) ?_; simp only [List.take_succ_cons, List.take_zero, List.drop_succ_cons, List.drop_zero]; (iterate 7 (refine wpStill_step (fun K hK => ?_); go_simp; (with_reducible refine hK _ ?_); clear hK K)); refine wpStill_nil ?_)
    go_wp2_with fail
    refine (MTick_any (y.N p) (t.N p) _ (HR.out.run p hp).ok.me (HR.out.run p hp).own (HR.out.run p hp).lo (by have := (HR.out.run p hp).hi; omega) (by exact H.out.node p hp)).mono ?_
    rintro e w2 ⟨rfl, hn, hf⟩
    have h2 : TnAt w2 y u (Nt.tickOk t p) := TnAt.setN (H.out.drewN 1) hp hn hf
    have hf2 : Fr (FtT y u) w w2 := (HF.out.drew.mono (fun _ _ h => h.elim)).trans (hf.mono (fun i _ h => .inr (.inl ⟨p, hp, h⟩)))
    have hz1 : w.heap.size ≤ w2.heap.size := hf2.size
    have b1 := cell_fr hf b1 (HBN.out _ (.inr (.inl ⟨p, hp, rfl⟩)))
    clear c1 hn hf H HF
    have H := Lib.hid h2; clear h2; have HF := Lib.hid hf2; clear hf2; have HB1 := Lib.hid b1; clear b1
    go_wp2
    go_loopg [6] 6 (fun g i wr => TTRel y u t.C p pz (Nt.tellsT (Nt.tickOk t p) p (restL t.C p 0)) (m + 1) w g i wr)
    case atStart => exact ⟨0, _, u, by omega, by omega, rfl, HOK.out, rfl, rfl, H.out, HF.out, fun g hg => .inl hg, HB1.out, HBN.out⟩
    case round =>
      clear H HF HOK HR HB1 HBN
      obtain ⟨k, s, v, hk, hgk, rfl, hok, hC, hres, h1, hf, hg, b1, hbn⟩ := hrel
      have HGK := Lib.hid hgk; clear hgk
      have HOK := Lib.hid hok; clear hok; have HC := Lib.hid hC; clear hC; have HRES := Lib.hid hres; clear hres; have H := Lib.hid h1; clear h1; have HF := Lib.hid hf; clear hf; have HG := Lib.hid hg; clear hg; have HBN := Lib.hid hbn; clear hbn
      by_cases hk6 : k < 6
      · have hkb : decide ((k : Int) < 6) = true := by simp; omega
        have hki : (k : Int) < 6 := by omega
        have cM := H.out.cM hp hk6
        rw [HC.out] at cM
        by_cases hc : 0 < t.C p k
        · have hcb : decide (0 < t.C p k) = true := by simpa using hc
          have hr2 := HRES.out
          rw [restL_hit hk6 hc, Nt.tellsT] at hr2
          clear hc HRES
          have HR2 := Lib.hid hr2; clear hr2
          go_wp2_with fail
          go_quiet (fail)
          go_wp2_with fail
          have h3 := H.out.drewN nq
          have b1 : (wr.drewN nq).cell? ⟨pz, 1, none⟩ = some (.int .i64 p) := b1
          have hf3 := HF.out.drewN nq
          clear H HF cM
          generalize wr.drewN nq = w3 at *
          have H := Lib.hid h3; clear h3; have HF := Lib.hid hf3; clear hf3
          refine (Ttell_any y v s p k (m + 1) _ HOK.out H.out).mono ?_
          rintro e w4 ⟨v', rfl, h2, hf, hg⟩
          have hok2 := HOK.out.tellT p k
          have hC2 : (Nt.tellT s p k).1.C = t.C := by rw [Nt.tellT_C]; exact HC.out
          have hf2 := HF.out.growT HG.out hf
          have hg2 := grow_trans HG.out hg HF.out.size
          have hpz := World.block_lt_of_cell? w3 _ b1
          have b1 := cell_fr hf b1 (fun e => HBN.out _ e rfl)
          have hbn2 : ∀ i, FtT y v' i → ¬ pz = i := fun i hi => by
            rcases hi with hi | hi | hi
            · exact HBN.out i (.inl hi)
            · exact HBN.out i (.inr (.inl hi))
            · rcases hg i hi with h | h
              · exact HBN.out i (.inr (.inr h))
              · intro e; simp only at hpz; omega
          clear hf hg H HF HG HOK HC HBN hpz
          by_cases hc : (Nt.tellT s p k).2 = 0
          · have hr3 := HR2.out
            rw [if_pos hc] at hr3
            rw [hc]
            clear hc HR2
            have HOK := Lib.hid hok2; clear hok2; have HC := Lib.hid hC2; clear hC2; have HF := Lib.hid hf2; clear hf2; have HG := Lib.hid hg2; clear hg2; have H := Lib.hid h2; clear h2; have HR3 := Lib.hid hr3; clear hr3; have HBN := Lib.hid hbn2; clear hbn2
            go_wp2
            go_roundg (6 - (k + 1))
            case rel => exact ⟨k + 1, _, v', by omega, rfl, by go_num, HOK.out, HC.out, HR3.out, H.out, HF.out, HG.out, b1, HBN.out⟩
            case measure => have := HGK.out; omega
          · have hr3 := HR2.out
            rw [if_neg hc] at hr3
            have hcb2 : ((Nt.tellT s p k).2 != 0) = true := by simp [hc]
            clear hc HR2
            have HOK := Lib.hid hok2; clear hok2; have HC := Lib.hid hC2; clear hC2; have HF := Lib.hid hf2; clear hf2; have HG := Lib.hid hg2; clear hg2; have H := Lib.hid h2; clear h2; have HR3 := Lib.hid hr3; clear hr3; have HBN := Lib.hid hbn2; clear hbn2
            go_wp2
            go_ret
            rw [← HR3.out]
            exact ⟨_, rfl, H.out, HF.out, HG.out⟩
        · have hcb : decide (0 < t.C p k) = false := by simpa using hc
          have hr2 := HRES.out
          rw [restL_miss hk6 hc] at hr2
          clear hc HRES
          have HR2 := Lib.hid hr2; clear hr2
          go_wp2_with fail
          go_quiet (fail)
          go_wp2
          go_roundg (6 - (k + 1))
          case rel => exact ⟨k + 1, s, v, by omega, rfl, by go_num, HOK.out, HC.out, HR2.out, H.out.drewN _, HF.out.drewN _, HG.out, b1, HBN.out⟩
          case measure => have := HGK.out; omega
      · obtain rfl : k = 6 := by omega
        have hr2 := HRES.out
        rw [restL_6, Nt.tellsT] at hr2
        clear HRES
        have HR2 := Lib.hid hr2; clear hr2
        go_wp2
        go_ret
        rw [← HR2.out]
        exact ⟨_, rfl, H.out, HF.out, HG.out⟩
  · have e : Nt.tickT t a = (t, 1) := by rw [Nt.tickT, if_pos ha]
    rw [e]
    clear e
    have H := Lib.hid h; clear h; have HR := Lib.hid hr; clear hr; have HA := Lib.hid ha; clear ha
    go_enter Tryz.func42, Tryz.ntmps42
    go_wp2_with fail
    refine (RNode_no _ _ HA.out).mono ?_; rintro e w' ⟨rfl, rfl⟩
    go_wp2
    go_ret
    exact TnDo.none (H.out.keep0 ((Fr.refl _ _).alloc _)) ((Fr.refl _ _).alloc _)
end Go.Proofs.YteedndapbfihaaaGreat
