/- Walks over handpostref: Mind.look. -/
import Derived.Test.YteedndapbfihaaaGreatB6
import Derived.Test.YteedndapbfihaaaGreatB4
namespace Go.Proofs.YteedndapbfihaaaGreat
open Go.RowKit Go.Deep

theorem RBetter_q (a b c d : Int) (w : World) :
    Calls Tryz.prog 113 #[.int .i64 a, .int .i64 b, .int .i64 c, .int .i64 d] w fun e w' => e = .returned (.bool (Nd.betB a b c d)) ∧ w' = w :=
  (RBetter_any a b c d w).mono fun _ _ h => ⟨h.1, h.2.symm⟩

/-- What was said, in a block of two cells. -/
def SAt (w : World) (p : Nat) (q d : Int) : Prop := w.cell? ⟨p, 0, none⟩ = some (.int .i64 q) ∧ w.cell? ⟨p, 1, none⟩ = some (.int .i64 d)
theorem SAt.keep {S : Nat → Prop} {w w' : World} {p : Nat} {q d : Int} (h : SAt w p q d) (hf : Fr S w w') (hb : ¬ S p) : SAt w' p q d := ⟨cell_fr hf h.1 hb, cell_fr hf h.2 hb⟩

theorem SAt.o3 {w : World} {p r : Nat} {q d : Int} (h : SAt w p q d) (hp : p ≠ r) (u v x : Value) {n : Nat} : SAt (((((w.drewN n).drew).setCell ⟨r, 0, none⟩ u).setCell ⟨r, 1, none⟩ v).setCell ⟨r, 2, none⟩ x) p q d := by
  have e : Fr (OneB r) w (((((w.drewN n).drew).setCell ⟨r, 0, none⟩ u).setCell ⟨r, 1, none⟩ v).setCell ⟨r, 2, none⟩ x) := (((((Fr.refl _ w).drewN n).drew).set1 _ _).set1 _ _).set1 _ _
  exact h.keep e (fun h => hp h)
theorem SAt.o3' {w : World} {p r : Nat} {q d : Int} (h : SAt w p q d) (hp : p ≠ r) (a b c : Nat) (u v x : Value) : SAt ((((w.setCell ⟨r, a, none⟩ u).setCell ⟨r, b, none⟩ v).setCell ⟨r, c, none⟩ x).drew) p q d := by
  have e : Fr (OneB r) w ((((w.setCell ⟨r, a, none⟩ u).setCell ⟨r, b, none⟩ v).setCell ⟨r, c, none⟩ x).drew) := ((((Fr.refl _ w).set1 _ _).set1 _ _).set1 _ _).drew
  exact h.keep e (fun h => hp h)

def LkRel (b : Nat) (s : Nd.NS) (tn p r : Nat) (w : World) (i : Value) (wr : World) : Prop :=
  ∃ m : Nat, m ≤ 6 ∧ i = .int .i64 (5 - (m : Int)) ∧ NAt wr b 151 s ∧ SAt wr p (s.bS tn) (s.bD tn) ∧ WAt wr r (Nd.chooseR s tn m) ∧ Fr NoB w wr

theorem Nd.chooseR_hit (s : Nd.NS) (dst m k : Nat) (hk : 5 - m = k) (h : Nd.may s k dst = true ∧ ((Nd.chooseR s dst m).hop = -1 ∨ Nd.betB (Nd.chooseR s dst m).seq (Nd.chooseR s dst m).dist (s.hS k dst) (s.hD k dst + s.cost k) = false)) : Nd.chooseR s dst (m + 1) = Nd.key s dst k := by
  subst hk; rw [Nd.chooseR, if_pos h]
theorem Nd.chooseR_miss (s : Nd.NS) (dst m k : Nat) (hk : 5 - m = k) (h : ¬ (Nd.may s k dst = true ∧ ((Nd.chooseR s dst m).hop = -1 ∨ Nd.betB (Nd.chooseR s dst m).seq (Nd.chooseR s dst m).dist (s.hS k dst) (s.hD k dst + s.cost k) = false))) : Nd.chooseR s dst (m + 1) = Nd.chooseR s dst m := by
  subst hk; rw [Nd.chooseR, if_neg h]

set_option maxRecDepth 100000 in
set_option maxHeartbeats 4000000 in
theorem look_any (b tn : Nat) (s : Nd.NS) (w : World) (ok : Nd.Ok s) (ht : tn < 6) (hn : NAt w b 151 s) :
    Calls Tryz.prog 96 #[.pointer (some ⟨b, 0, none⟩), .int .i64 tn] w (NilFr b 151 (Nd.pick s tn) w) := by
  have hm := ok.me
  have c0 := hn.me
  by_cases hme : tn = s.me
  · have hb : ((tn : Int) == (s.me : Int)) = true := by simp [hme]
    have hp : Nd.pick s tn = s := by rw [Nd.pick, if_pos hme]
    have HP := Lib.hid hp; clear hp; have HN := Lib.hid hn; clear hn; have HME := Lib.hid hme; clear hme
    go_enter Tryz.func96, Tryz.ntmps96
    go_wp2
    refine bodyPost_end (results_none rfl _ _ _) rfl ?_
    exact ⟨rfl, by rw [HP.out]; exact HN.out, Fr.refl _ _⟩
  · have hb : ((tn : Int) == (s.me : Int)) = false := by simp; omega
    have hp : Nd.pick s tn = Nd.lay s tn (Nd.chooseR s tn 6) := by rw [Nd.pick, if_neg hme, Nd.chooseR_eq]
    have c1 := hn.bS ht
    have c2 := hn.bD ht
    have hl := hn.lt
    have HP := Lib.hid hp; clear hp; have HN := Lib.hid hn; clear hn; have HME := Lib.hid hme; clear hme; have HOk := Lib.hid ok; clear ok
    go_enter Tryz.func96, Tryz.ntmps96
    go_wp2
    refine wp_name fun w1 hw1 => ?_
    have hf1 : Fr NoB w w1 := by rw [hw1]; exact ((Fr.refl _ w).alloc _).alloc _
    have hs1 : SAt w1 w.heap.size (s.bS tn) (s.bD tn) := by rw [hw1]; exact ⟨by simp, by simp⟩
    have hr1 : WAt w1 (w.heap.size + 1) (Nd.none s tn) := by
      rw [hw1]
      have := WAt.new (w.alloc (Obj.cells #[.int .i64 (s.bS tn), .int .i64 (s.bD tn)] 147)) (s.bS tn) 200 (-1)
      simp at this
      exact this
    have hn1 := HN.out.keep hf1 (fun h => h)
    clear hw1 c0 c1 c2 hb
    have HF1 := Lib.hid hf1; clear hf1; have HR1 := Lib.hid hr1; clear hr1; have HN1 := Lib.hid hn1; clear hn1; have HS1 := Lib.hid hs1; clear hs1
    go_loopw [6] (fun i wr => LkRel b s tn w.heap.size (w.heap.size + 1) w i wr) (fun i _ => (intOf i + 1).toNat)
    case atStart => exact ⟨0, by omega, rfl, HN1.out, HS1.out, HR1.out, HF1.out⟩
    case round =>
      clear HF1 HR1 HN1 HS1
      obtain ⟨m, hm6, rfl, hn, hs, hr, hf⟩ := hrel
      have HN1 := Lib.hid hn; clear hn; have HR1 := Lib.hid hr; clear hr; have HF1 := Lib.hid hf; clear hf; have HS1 := Lib.hid hs; clear hs
      by_cases hk6 : m < 6
      · obtain ⟨k, hk⟩ : ∃ k : Nat, 5 - m = k := ⟨_, rfl⟩
        have hkm : (5 : Int) - (m : Int) = (k : Int) := by omega
        have hk6' : k < 6 := by omega
        rw [hkm]
        have kc := HOk.out.cost k hk6'
        have kd := HOk.out.hD k tn hk6' ht
        have g1 := HN1.out.hS hk6' ht
        have g2 := HN1.out.hD hk6' ht
        have hl2 := HN1.out.lt
        have HK := Lib.hid hk; clear hk; have HKM := Lib.hid hkm; clear hkm
        go_wp2
        refine wp_name fun w3 hw3 => ?_
        have b0 : w3.cell? ⟨wr.heap.size, 0, none⟩ = some (.int .i64 (s.hS k tn)) := by rw [hw3]; simp
        have b1 : w3.cell? ⟨wr.heap.size, 1, none⟩ = some (.int .i64 (s.hD k tn)) := by rw [hw3]; simp
        have hf : Fr NoB wr w3 := by rw [hw3]; exact (Fr.refl _ _).alloc _
        have hn3 := HN1.out.keep hf (fun h => h)
        have hr3 := HR1.out.keep hf (fun h => h)
        have hs3 := HS1.out.keep hf (fun h => h)
        have hf3 := HF1.out.trans hf
        have hne : b ≠ w.heap.size + 1 := by omega
        have hnr : w.heap.size ≠ w.heap.size + 1 := by omega
        clear hw3 g1 g2 hl2 hf
        have d0 := hr3.c0
        have d1 := hr3.c1
        have d2 := hr3.c2
        have f0 := hr3.fz 0
        have f1 := hr3.fz 1
        have f2 := hr3.fz 2
        have e0 := hn3.cost hk6'
        have q0 := hs3.1
        have q1 := hs3.2
        have hsum := IntWalk.i64_in (s.hD k tn + s.cost k) (by omega)
        have hki : (k : Int) < 6 := by omega
        have HN3 := Lib.hid hn3; clear hn3; have HR3 := Lib.hid hr3; clear hr3; have HS3 := Lib.hid hs3; clear hs3; have HF3 := Lib.hid hf3; clear hf3; have HNE := Lib.hid hne; clear hne; have HNR := Lib.hid hnr; clear hnr
        by_cases hc : s.cost k = 0
        · have hb : (s.cost k == 0) = true := by simp [hc]
          have hst := Nd.chooseR_miss s tn m k HK.out (fun h => by have := h.1; simp [Nd.may, hc] at this)
          have HST := Lib.hid hst; clear hst; have HC := Lib.hid hc; clear hc
          go_quiet ((go_at_call 113; exact Calls.quiet_of_same (RBetter_q _ _ _ _ _)))
          go_wp2
          go_roundw
          case rel => exact ⟨m + 1, by omega, by have := HKM.out; simp only [Value.int.injEq, true_and]; omega, HN3.out, HS3.out, by rw [HST.out]; exact HR3.out, HF3.out.drewN _⟩
          case measure => have := HKM.out; (simp [intOf] <;> omega)
        · have hb : (s.cost k == 0) = false := by simp [hc]
          have HC := Lib.hid hc; clear hc
          by_cases hd : 200 ≤ s.hD k tn + s.cost k
          · have hst := Nd.chooseR_miss s tn m k HK.out (fun h => by have h1 := h.1; simp only [Nd.may, Bool.and_eq_true, decide_eq_true_eq] at h1; omega)
            have hdb : decide (200 ≤ s.hD k tn + s.cost k) = true := by simpa using hd
            have HST := Lib.hid hst; clear hst; have HD := Lib.hid hd; clear hd
            go_quiet ((go_at_call 113; exact Calls.quiet_of_same (RBetter_q _ _ _ _ _)))
            go_wp2
            go_roundw
            case rel => exact ⟨m + 1, by omega, by have := HKM.out; simp only [Value.int.injEq, true_and]; omega, HN3.out, HS3.out, by rw [HST.out]; exact HR3.out, HF3.out.drewN _⟩
            case measure => have := HKM.out; (simp [intOf] <;> omega)
          · have hdb : decide (200 ≤ s.hD k tn + s.cost k) = false := by simpa using hd
            have hmay : Nd.may s k tn = Nd.betB (s.hS k tn) (s.hD k tn) (s.bS tn) (s.bD tn) := by
              have h1 : 0 < s.cost k := by have := HC.out; omega
              have h2 : s.hD k tn + s.cost k < 200 := by omega
              simp [Nd.may, h1, h2]
            have HM := Lib.hid hmay; clear hmay; have HD := Lib.hid hd; clear hd
            cases hbt : Nd.betB (s.hS k tn) (s.hD k tn) (s.bS tn) (s.bD tn)
            · have hst := Nd.chooseR_miss s tn m k HK.out (fun h => by have h1 := h.1; rw [HM.out, hbt] at h1; cases h1)
              have HST := Lib.hid hst; clear hst
              go_quiet ((go_at_call 113; exact Calls.quiet_of_same (RBetter_q _ _ _ _ _)))
              go_wp2
              go_roundw
              case rel => exact ⟨m + 1, by omega, by have := HKM.out; simp only [Value.int.injEq, true_and]; omega, HN3.out, HS3.out, by rw [HST.out]; exact HR3.out, HF3.out.drewN _⟩
              case measure => have := HKM.out; (simp [intOf] <;> omega)
            · have hmt : Nd.may s k tn = true := by rw [HM.out, hbt]
              have HMT := Lib.hid hmt; clear hmt
              go_quiet ((go_at_call 113; exact Calls.quiet_of_same (RBetter_q _ _ _ _ _)))
              go_wp2
              refine wp_name fun w4 hw4 => ?_
              have hn4 : NAt w4 b 151 s := by rw [hw4]; exact HN3.out
              have hr4 : WAt w4 (w.heap.size + 1) (Nd.chooseR s tn m) := by rw [hw4]; exact HR3.out
              have hs4 : SAt w4 w.heap.size (s.bS tn) (s.bD tn) := by rw [hw4]; exact HS3.out
              have hf4 : Fr NoB w w4 := by rw [hw4]; exact HF3.out.drewN _
              have b0 : w4.cell? ⟨wr.heap.size, 0, none⟩ = some (.int .i64 (s.hS k tn)) := by rw [hw4]; exact b0
              have b1 : w4.cell? ⟨wr.heap.size, 1, none⟩ = some (.int .i64 (s.hD k tn)) := by rw [hw4]; exact b1
              clear hw4 d0 d1 d2 f0 f1 f2 e0 q0 q1
              have d0 := hr4.c0
              have d1 := hr4.c1
              have d2 := hr4.c2
              have f0 := hr4.fz 0
              have f1 := hr4.fz 1
              have f2 := hr4.fz 2
              have e0 := hn4.cost hk6'
              clear HN3 HR3 HS3 HF3
              have HN3 := Lib.hid hn4; clear hn4; have HR3 := Lib.hid hr4; clear hr4; have HS3 := Lib.hid hs4; clear hs4; have HF3 := Lib.hid hf4; clear hf4
              clear hbt hdb hb
              by_cases hx : (Nd.chooseR s tn m).hop = -1
              · have hst := Nd.chooseR_hit s tn m k HK.out ⟨HMT.out, .inl hx⟩
                have hb : ((Nd.chooseR s tn m).hop == -1) = true := by simp [hx]
                have HST := Lib.hid hst; clear hst; have HX := Lib.hid hx; clear hx
                go_quiet ((go_at_call 113; exact Calls.quiet_of_same (RBetter_q _ _ _ _ _)))
                go_wp2
                (refine still_tail 13 (by kernel_rfl) (by kernel_rfl) ?_; simp only [List.take_succ_cons, List.take_zero, List.drop_succ_cons, List.drop_zero]; (iterate 13 (refine wpStill_step (fun K hK => ?_); go_simp; (with_reducible refine hK _ ?_); clear hK K)); refine wpStill_nil ?_)
                go_wp2
                go_roundw
                case rel => exact ⟨m + 1, by omega, by have := HKM.out; simp only [Value.int.injEq, true_and]; omega, ((NAt.other (NAt.other (NAt.other (HN3.out : NAt ((w4.drewN 0).drew) b _ s) HNE.out 0 _) HNE.out 1 _) HNE.out 2 _)), SAt.o3 HS3.out HNR.out _ _ _, by rw [HST.out]; exact WAt.set (HR3.out : WAt ((w4.drewN 0).drew) _ _) _ _ _, (((HF3.out.drewN _).drew.setNew (Nat.le_succ _) 0 _).setNew (Nat.le_succ _) 1 _).setNew (Nat.le_succ _) 2 _⟩
                case measure => have := HKM.out; (simp [intOf] <;> omega)
              · have hb : ((Nd.chooseR s tn m).hop == -1) = false := by simp [hx]
                have HX := Lib.hid hx; clear hx
                cases hbt : Nd.betB (Nd.chooseR s tn m).seq (Nd.chooseR s tn m).dist (s.hS k tn) (s.hD k tn + s.cost k)
                · have hst := Nd.chooseR_hit s tn m k HK.out ⟨HMT.out, .inr hbt⟩
                  have HST := Lib.hid hst; clear hst
                  go_quiet ((go_at_call 113; exact Calls.quiet_of_same (RBetter_q _ _ _ _ _)))
                  go_wp2
                  (refine still_tail 13 (by kernel_rfl) (by kernel_rfl) ?_; simp only [List.take_succ_cons, List.take_zero, List.drop_succ_cons, List.drop_zero]; (iterate 13 (refine wpStill_step (fun K hK => ?_); go_simp; (with_reducible refine hK _ ?_); clear hK K)); refine wpStill_nil ?_)
                  go_wp2
                  go_roundw
                  case rel => exact ⟨m + 1, by omega, by have := HKM.out; simp only [Value.int.injEq, true_and]; omega, ((NAt.other (NAt.other (NAt.other (HN3.out : NAt ((w4.drewN 0).drew) b _ s) HNE.out 0 _) HNE.out 1 _) HNE.out 2 _)), SAt.o3 HS3.out HNR.out _ _ _, by rw [HST.out]; exact WAt.set (HR3.out : WAt ((w4.drewN 0).drew) _ _) _ _ _, (((HF3.out.drewN _).drew.setNew (Nat.le_succ _) 0 _).setNew (Nat.le_succ _) 1 _).setNew (Nat.le_succ _) 2 _⟩
                  case measure => have := HKM.out; (simp [intOf] <;> omega)
                · have hst := Nd.chooseR_miss s tn m k HK.out (by
                    rintro ⟨_, h | h⟩
                    · exact HX.out h
                    · rw [hbt] at h; cases h)
                  have HST := Lib.hid hst; clear hst
                  go_quiet ((go_at_call 113; exact Calls.quiet_of_same (RBetter_q _ _ _ _ _)))
                  go_wp2
                  go_roundw
                  case rel => exact ⟨m + 1, by omega, by have := HKM.out; simp only [Value.int.injEq, true_and]; omega, HN3.out, HS3.out, by rw [HST.out]; exact HR3.out, HF3.out.drewN _⟩
                  case measure => have := HKM.out; (simp [intOf] <;> omega)
      · obtain rfl : m = 6 := by omega
        have hti : (tn : Int) < 6 := by omega
        have hneg : (5 : Int) - ((6 : Nat) : Int) = -1 := by omega
        rw [hneg]
        clear hneg
        have d0 := HR1.out.c0
        have d1 := HR1.out.c1
        have d2 := HR1.out.c2
        have g0 := HN1.out.wS ht
        have g1 := HN1.out.wD ht
        have g2 := HN1.out.wH ht
        have f0 := HN1.out.fz (79 + tn * 3)
        have f1 := HN1.out.fz (79 + tn * 3 + 1)
        have f2 := HN1.out.fz (79 + tn * 3 + 2)
        go_wp2
        (refine still_tail 6 (by kernel_rfl) (by kernel_rfl) ?_; simp only [List.take_succ_cons, List.take_zero, List.drop_succ_cons, List.drop_zero]; (iterate 6 (refine wpStill_step (fun K hK => ?_); go_simp; (with_reducible refine hK _ ?_); clear hK K)); refine wpStill_nil ?_)
        go_upto_region 11 with fail
        have hne : w.heap.size + 1 ≠ b := by omega
        refine wp_name fun w2 hw2 => ?_
        have hn2 : NAt w2 b 151 { s with wS := Nd.up s.wS tn (Nd.chooseR s tn 6).seq, wD := Nd.up s.wD tn (Nd.chooseR s tn 6).dist, wH := Nd.up s.wH tn (Nd.chooseR s tn 6).hop } := by
          rw [hw2]
          exact World.rowIs.drew (HN1.out.setW ht _ _ _)
        have hr2 : WAt w2 (w.heap.size + 1) (Nd.chooseR s tn 6) := by
          rw [hw2]
          exact World.rowIs.drew (((HR1.out.other hne _ _).other hne _ _).other hne _ _)
        have hs2 : SAt w2 w.heap.size (s.bS tn) (s.bD tn) := by
          rw [hw2]
          exact SAt.o3' HS1.out (by omega) _ _ _ _ _ _
        have hf2 : Fr (OneB b) w w2 := by
          rw [hw2]
          exact (((HF1.out.one.set1 _ _).set1 _ _).set1 _ _).drew
        clear hw2 d0 d1 d2 g0 g1 g2 f0 f1 f2 HR1 HN1 HF1 HS1
        have d0 := hr2.c0
        have d1 := hr2.c1
        have d2 := hr2.c2
        have q0 := hs2.1
        have q1 := hs2.2
        have e0 := hn2.bS ht
        have e1 := hn2.bD ht
        have f0 := hn2.fz (97 + tn * 2)
        have f1 := hn2.fz (97 + tn * 2 + 1)
        have HN2 := Lib.hid hn2; clear hn2; have HF2 := Lib.hid hf2; clear hf2
        clear hr2 hs2
        by_cases hx : (Nd.chooseR s tn 6).hop = -1
        · have hb : ((Nd.chooseR s tn 6).hop != -1) = false := by simp [hx]
          have hy := Nd.lay_keep s tn (Nd.chooseR s tn 6) (fun h => h.1 hx)
          have HY := Lib.hid hy; clear hy; have HX := Lib.hid hx; clear hx
          go_wp2
          refine bodyPost_end (results_none rfl _ _ _) rfl ?_
          exact ⟨rfl, by rw [HP.out, HY.out]; exact HN2.out, HF2.out⟩
        · have hb : ((Nd.chooseR s tn 6).hop != -1) = true := by simp [hx]
          have HX := Lib.hid hx; clear hx
          go_wp2_with fail
          refine (RBetter_any _ _ _ _ _).mono ?_; rintro e w' ⟨rfl, rfl⟩
          cases hbt : Nd.betB (Nd.chooseR s tn 6).seq (Nd.chooseR s tn 6).dist (s.bS tn) (s.bD tn)
          · have hy := Nd.lay_keep s tn (Nd.chooseR s tn 6) (fun h => by rw [hbt] at h; cases h.2)
            have HY := Lib.hid hy; clear hy; have HB := Lib.hid hbt; clear hbt
            go_wp2
            refine bodyPost_end (results_none rfl _ _ _) rfl ?_
            exact ⟨rfl, by rw [HP.out, HY.out]; exact HN2.out, HF2.out⟩
          · have hy := Nd.lay_best s tn (Nd.chooseR s tn 6) ⟨HX.out, hbt⟩
            have HY := Lib.hid hy; clear hy; have HB := Lib.hid hbt; clear hbt
            go_wp2
            (refine still_tail 10 (by kernel_rfl) (by kernel_rfl) ?_; simp only [List.take_succ_cons, List.take_zero, List.drop_succ_cons, List.drop_zero]; (iterate 10 (refine wpStill_step (fun K hK => ?_); go_simp; (with_reducible refine hK _ ?_); clear hK K)); refine wpStill_nil ?_)
            go_wp2
            refine bodyPost_end (results_none rfl _ _ _) rfl ?_
            exact ⟨rfl, by rw [HP.out, HY.out]; exact NAt.setB (w := w2.drew) HN2.out ht _ _, (HF2.out.drew.set1 _ _).set1 _ _⟩
end Go.Proofs.YteedndapbfihaaaGreat
/- A node's way to itself. -/
namespace Go.Proofs.YteedndapbfihaaaGreat.Nd

/-- Its way to itself is itself. -/
structure Own (s : NS) : Prop where
  d : s.wD s.me = 0
  h : s.wH s.me = s.me
theorem pick_me (s : NS) (k : Nat) : (pick s k).me = s.me := by unfold pick; split <;> rfl
theorem Own.pick {s : NS} (h : Own s) (k : Nat) : Own (pick s k) := by
  unfold Nd.pick
  split
  · exact h
  · rename_i hk
    have e : s.me ≠ k := fun e => hk e.symm
    exact ⟨by show up s.wD k _ s.me = 0; rw [up_other _ _ _ _ e]; exact h.d, by show up s.wH k _ s.me = s.me; rw [up_other _ _ _ _ e]; exact h.h⟩
theorem Own.all {s : NS} (h : Own s) : ∀ k, Own (all s k)
  | 0 => h
  | k + 1 => (Own.all h k).pick k
theorem Own.link {s : NS} (h : Own s) (who : Nat) (c : Int) : Own (link s who c) := by
  unfold Nd.link
  dsimp only
  split
  · exact Own.all (s := forget { s with cost := up s.cost who c } who) ⟨h.d, h.h⟩ 6
  · exact Own.all (s := { s with cost := up s.cost who c }) ⟨h.d, h.h⟩ 6
theorem Own.hear {s : NS} (h : Own s) (src dst : Nat) (q d : Int) : Own (hear s src dst q d) := Own.pick (s := { s with hS := up2 s.hS src dst q, hD := up2 s.hD src dst d }) ⟨h.d, h.h⟩ dst
theorem Own.tick (s : NS) : Own (tick s) := ⟨by simp [Nd.tick, Nd.own], by simp [Nd.tick, Nd.own]⟩
theorem Own.fresh (me : Nat) : Own (fresh me) := ⟨by simp [Nd.fresh, Nd.own], by simp [Nd.fresh, Nd.own]⟩
theorem Own.linkC {s : NS} (h : Own s) (who c : Int) : Own (linkC s who c).1 := by
  unfold Nd.linkC; split
  · exact h
  · exact h.link _ c
theorem Own.hearC {s : NS} (h : Own s) (f t q d : Int) : Own (hearC s f t q d).1 := by
  unfold Nd.hearC; split
  · exact h
  · split
    · exact h
    · exact h.hear _ _ q d
theorem up_id {f : Nat → Int} {i : Nat} {v : Int} (h : f i = v) : up f i v = f := by
  funext j; unfold up; split
  · rename_i e; rw [e]; exact h.symm
  · rfl
/-- The reference's tick is the same. -/
theorem tick_ref {s : NS} (h : Own s) : { s with wS := up s.wS s.me (s.wS s.me + 1), bS := up s.bS s.me (s.wS s.me + 1), bD := up s.bD s.me 0 } = tick s := by
  have e1 : up s.wD s.me 0 = s.wD := up_id h.d
  have e2 : up s.wH s.me s.me = s.wH := up_id h.h
  simp only [tick, own, up_same, e1, e2]

/-- A mind's first look: its way to itself laid at last. -/
theorem fresh_ref (me : Nat) : { newK me 6 with wS := up (newK me 6).wS me 0, wD := up (newK me 6).wD me 0, wH := up (newK me 6).wH me me, bS := up (newK me 6).bS me 0, bD := up (newK me 6).bD me 0 } = fresh me := by
  have e1 : up (newK me 6).wS me 0 = (newK me 6).wS := up_id rfl
  rw [e1]
  rfl
end Go.Proofs.YteedndapbfihaaaGreat.Nd
