/- Walks over handpostref: Mind.Link, Hear, Tick. -/
import Derived.Test.YtffoilacaffdgaaGreatDoorB2
import Derived.Test.YtffoilacaffdgaaGreatDoorB1
import Derived.Deep.RegionLaw
import Derived.Lib.SliceRun
set_option maxRecDepth 100000
set_option maxHeartbeats 8000000
namespace Go.Proofs.YtffoilacaffdgaaGreatDoor
open Go.RowKit Go.Deep
def FgRelM (b : Nat) (s : Nd.NS) (who : Nat) (w : World) (i : Value) (wr : World) : Prop := ∃ k : Nat, k ≤ 6 ∧ i = .int .i64 k ∧ NAt wr b 119 (Nd.forgetK s who k) ∧ Fr (OneB b) w wr
def AlRelM (b : Nat) (s : Nd.NS) (w : World) (i : Value) (wr : World) : Prop :=
 ∃ k : Nat, k ≤ 6 ∧ i = .int .i64 k ∧ NAt wr b 119 (Nd.all s k) ∧ Fr (OneB b) w wr
theorem MLink_ok (b who : Nat) (c : Int) (s : Nd.NS) (w : World) (ok : Nd.Ok s) (hw : who < 6) (hm : who ≠ s.me) (h0 : 0 ≤ c) (h1 : c ≤ 15) (hn : NAt w b 119 s) :
  Calls Tryz.prog 94 #[.pointer (some ⟨b, 0, none⟩), .int .i64 who, .int .i64 c] w (CodeFr b 119 (Nd.link s who c) 0 w) := by
 have c0 := hn.me
 have c1 := hn.cost hw
 have f1 := hn.fz (1 + who)
 have hb : ((who : Int) == (s.me : Int)) = false := by simp; omega
 have HN := zh hn; clear hn; have HM := zh hm; clear hm
 by_cases hz : c = 0
 ·subst hz;have hl : Nd.link s who 0 = Nd.all (Nd.forget { s with cost := Nd.up s.cost who 0 } who) 6 := rfl
  have HL := zh hl; clear hl;go_enter Tryz.func94, Tryz.ntmps94
  go_wp2_with fail;refine (RNode_yes _ _ (by omega) (by omega)).mono ?_; rintro e w' ⟨rfl, rfl⟩
  go_wp2;go_loopw [7] (fun i wr => FgRelM b { s with cost := Nd.up s.cost who 0 } who w i wr) (fun i _ => 6 - (intOf i).toNat)
  case atStart => exact ⟨0, by omega, rfl, by rw [Nd.forgetK_zero]; exact HN.out.setC hw 0, (Fr.refl _ _).set1 _ _⟩
  case round =>
   obtain ⟨k, hk, rfl, hn, hf⟩ := hrel
   have HN1 := zh hn; clear hn; have HF := zh hf; clear hf;clear c0 c1 f1
   by_cases hk6 : k < 6
   ·have g1 := HN1.out.hS hw hk6
    have g2 := HN1.out.hD hw hk6
    have f1 := HN1.out.fz (7 + who * 12 + k * 2)
    have f2 := HN1.out.fz (7 + who * 12 + k * 2 + 1)
    go_wp2;go_roundw
    case rel => exact ⟨k + 1, by omega, by go_num, by rw [Nd.forgetK_succ]; exact HN1.out.setH hw hk6 0 200, (HF.out.set1 _ _).set1 _ _⟩
    case measure => simp [intOf]; omega
   have hk6b : decide ((k : Int) < 6) = false := by simp; omega
   have hn2 : NAt wr b 119 (Nd.forget { s with cost := Nd.up s.cost who 0 } who) := by rw [Nd.forget, ← (show k = 6 from by omega)]; exact HN1.out
   clear HN1;have HN2 := zh hn2; clear hn2
   go_wp2;obtain ⟨w1, rfl⟩ : ∃ w1 : World, w1 = wr := ⟨_, rfl⟩
   go_loopw [8] (fun i wr => AlRelM b (Nd.forget { s with cost := Nd.up s.cost who 0 } who) w i wr) (fun i _ => 6 - (intOf i).toNat)
   case atStart => exact ⟨0, by omega, rfl, HN2.out, HF.out⟩
   case round =>
    clear HN2 HF hk6b;obtain ⟨k, hk, rfl, hn, hf⟩ := hrel
    have HN := zh hn; clear hn; have HF := zh hf; clear hf;by_cases hk6 : k < 6
    ·go_wp2_with fail;refine (look_any b k _ _ (Nd.Ok.all (Nd.Ok.forget (Nd.Ok.cost' ok who 0 (by omega) (by omega)) who) k) hk6 HN.out).mono ?_
     rintro e w2 ⟨rfl, hn2, hf2⟩
     have hf3 := HF.out.trans hf2
     clear hf2;have HN2 := zh hn2; clear hn2; have HF2 := zh hf3; clear hf3
     go_wp2;go_roundw
     case rel => exact ⟨k + 1, by omega, by go_num, HN2.out, HF2.out⟩
     case measure => simp [intOf]; omega
    obtain rfl : k = 6 := by omega
    go_wp2;go_ret
    exact ⟨rfl, by rw [HL.out]; exact HN.out, HF.out⟩
 have hl : Nd.link s who c = Nd.all { s with cost := Nd.up s.cost who c } 6 := by simp [Nd.link, hz]
 have hzb : (c == 0) = false := by simpa using hz
 have HL := zh hl; clear hl; have HZ := zh hz; clear hz
 go_enter Tryz.func94, Tryz.ntmps94
 go_wp2_with fail
 refine (RNode_yes _ _ (by omega) (by omega)).mono ?_; rintro e w' ⟨rfl, rfl⟩
 go_wp2
 refine wp_loop_rounds 1 ?_
 rw [rounds_succ]
 go_wp2
 go_loopw [8] (fun i wr => AlRelM b { s with cost := Nd.up s.cost who c } w i wr) (fun i _ => 6 - (intOf i).toNat)
 case atStart => exact ⟨0, by omega, rfl, HN.out.setC hw c, (Fr.refl _ _).set1 _ _⟩
 case round =>
  clear c0 c1 f1;obtain ⟨k, hk, rfl, hn, hf⟩ := hrel
  have HN := zh hn; clear hn; have HF := zh hf; clear hf;by_cases hk6 : k < 6
  ·go_wp2_with fail;refine (look_any b k _ _ (Nd.Ok.all (Nd.Ok.cost' ok who c (by omega) (by omega)) k) hk6 HN.out).mono ?_
   rintro e w2 ⟨rfl, hn2, hf2⟩
   have hf3 := HF.out.trans hf2
   clear hf2;have HN2 := zh hn2; clear hn2; have HF2 := zh hf3; clear hf3
   go_wp2;go_roundw
   case rel => exact ⟨k + 1, by omega, by go_num, HN2.out, HF2.out⟩
   case measure => simp [intOf]; omega
  obtain rfl : k = 6 := by omega
  go_wp2;go_ret
  exact ⟨rfl, by rw [HL.out]; exact HN.out, HF.out⟩
theorem MLink_no (b : Nat) (who c : Int) (s : Nd.NS) (w : World) (h : Nd.linkBad s who c) (hn : NAt w b 119 s) :
  Calls Tryz.prog 94 #[.pointer (some ⟨b, 0, none⟩), .int .i64 who, .int .i64 c] w fun e w' => e = .returned (.int .i64 1) ∧ w = w' := by
 have c0 := hn.me
 clear hn
 by_cases hw : 0 ≤ who ∧ who < 6
 ·obtain ⟨hw0, hw1⟩ := hw
  by_cases hm : who = s.me
  ·have hb : (who == (s.me : Int)) = true := by simp [hm]
   clear h hm;go_enter Tryz.func94, Tryz.ntmps94
   go_wp2_with fail;refine (RNode_yes _ _ hw0 hw1).mono ?_; rintro e w' ⟨rfl, rfl⟩
   go_wp2;go_ret
   exact ⟨rfl, rfl⟩
  have hb : (who == (s.me : Int)) = false := by simpa using hm
  by_cases hc : c < 0
  ·clear h hm;go_enter Tryz.func94, Tryz.ntmps94
   go_wp2_with fail;refine (RNode_yes _ _ hw0 hw1).mono ?_; rintro e w' ⟨rfl, rfl⟩
   go_wp2;go_ret
   exact ⟨rfl, rfl⟩
  have hc0 : 0 ≤ c := by omega
  have hc1 : 15 < c := by
   rcases h with h | h | h | h
   ·exact absurd ⟨hw0, hw1⟩ h
   ·exact absurd h hm
   ·exact absurd h hc
   exact h
  clear h hm hc;go_enter Tryz.func94, Tryz.ntmps94
  go_wp2_with fail;refine (RNode_yes _ _ hw0 hw1).mono ?_; rintro e w' ⟨rfl, rfl⟩
  go_wp2;go_ret
  exact ⟨rfl, rfl⟩
 have HW := zh hw; clear hw h
 go_enter Tryz.func94, Tryz.ntmps94
 go_wp2_with fail
 refine (RNode_no _ _ HW.out).mono ?_; rintro e w' ⟨rfl, rfl⟩
 go_wp2
 go_ret
 exact ⟨rfl, rfl⟩
theorem MLink_any (b : Nat) (who c : Int) (s : Nd.NS) (w : World) (ok : Nd.Ok s) (hn : NAt w b 119 s) :
  Calls Tryz.prog 94 #[.pointer (some ⟨b, 0, none⟩), .int .i64 who, .int .i64 c] w (CodeFr b 119 (Nd.linkC s who c).1 (Nd.linkC s who c).2 w) := by
 by_cases h : Nd.linkBad s who c
 ·have e : Nd.linkC s who c = (s, 1) := by rw [Nd.linkC, if_pos h]
  rw [e];refine (MLink_no b who c s w h hn).mono ?_
  rintro e w' ⟨rfl, rfl⟩
  exact ⟨rfl, hn, Fr.refl _ _⟩
 have e : Nd.linkC s who c = (Nd.link s who.toNat c, 0) := by rw [Nd.linkC, if_neg h]
 rw [e]
 simp only [Nd.linkBad] at h
 obtain ⟨x, rfl⟩ := Int.eq_ofNat_of_zero_le (a := who) (by omega)
 rw [Int.toNat_natCast]
 exact MLink_ok b x c s w ok (by omega) (by omega) (by omega) (by omega) hn
theorem RNode_q (n : Int) (w : World) : Calls Tryz.prog 60 #[.int .i64 n] w fun e w' => e = .returned (.bool (isNode n)) ∧ w' = w :=
 (RNode_any n w).mono fun _ _ h => ⟨h.1, h.2.symm⟩
theorem MHear_bad (b : Nat) (f r t q d : Int) (s : Nd.NS) (w : World) (h : Nd.hearBad s f t q d) (hn : NAt w b 119 s) :
  Calls Tryz.prog 97 #[.pointer (some ⟨b, 0, none⟩), news5 f r t q d] w (CodeFr b 119 s 1 w) := by
 have hl := hn.lt
 have H : (isNode f = false) ∨ (isNode f = true ∧ isNode t = false) ∨ (isNode f = true ∧ isNode t = true ∧ (f == (s.me : Int)) = true) ∨ (isNode f = true ∧ isNode t = true ∧ (f == (s.me : Int)) = false ∧ decide (q < 0) = true) ∨ (isNode f = true ∧ isNode t = true ∧ (f == (s.me : Int)) = false ∧ decide (q < 0) = false ∧ decide (d < 0) = true) ∨ (isNode f = true ∧ isNode t = true ∧ (f == (s.me : Int)) = false ∧ decide (q < 0) = false ∧ decide (d < 0) = false ∧ decide (200 < d) = true) := by
  by_cases h1 : 0 ≤ f ∧ f < 6
  ·by_cases h2 : 0 ≤ t ∧ t < 6
   ·by_cases h3 : f = s.me
    ·exact .inr (.inr (.inl ⟨isNode_yes h1, isNode_yes h2, by simpa using h3⟩))
    by_cases h4 : q < 0
    ·exact .inr (.inr (.inr (.inl ⟨isNode_yes h1, isNode_yes h2, by simpa using h3, by simpa using h4⟩)))
    by_cases h5 : d < 0
    ·exact .inr (.inr (.inr (.inr (.inl ⟨isNode_yes h1, isNode_yes h2, by simpa using h3, by simpa using h4, by simpa using h5⟩))))
    exact .inr (.inr (.inr (.inr (.inr ⟨isNode_yes h1, isNode_yes h2, by simpa using h3, by simpa using h4, by simpa using h5, by simp only [Nd.hearBad] at h; simp; omega⟩))))
   exact .inr (.inl ⟨isNode_yes h1, isNode_no h2⟩)
  exact .inl (isNode_no h1)
 have c0 := hn.me
 have HN := zh hn; clear hn
 clear h
 rcases H with h1 | ⟨h1, h2⟩ | ⟨h1, h2, h3⟩ | ⟨h1, h2, h3, h4⟩ | ⟨h1, h2, h3, h4, h5⟩ | ⟨h1, h2, h3, h4, h5, h6⟩
 all_goals
  go_enter Tryz.func97, Tryz.ntmps97
  unfold news5;go_wp2
  refine wp_name fun w1 hw1 => ?_
  have hf1 : Fr NoB w w1 := by rw [hw1]; exact (Fr.refl _ w).alloc _
  have hn1 := HN.out.keep hf1 (fun h => h)
  have b0 : w1.cell? ⟨w.heap.size, 0, none⟩ = some (.int .i64 f) := by rw [hw1]; simp
  have b2 : w1.cell? ⟨w.heap.size, 2, none⟩ = some (.int .i64 t) := by rw [hw1]; simp
  have b3 : w1.cell? ⟨w.heap.size, 3, none⟩ = some (.int .i64 q) := by rw [hw1]; simp
  have b4 : w1.cell? ⟨w.heap.size, 4, none⟩ = some (.int .i64 d) := by rw [hw1]; simp
  clear hw1 c0;have c0 := hn1.me
  have HF := zh hf1; clear hf1; have HN1 := zh hn1; clear hn1;go_quiet ((go_at_call 60; exact Calls.quiet_of_same (RNode_q _ _)))
  go_wp2;go_ret
  exact ⟨rfl, HN1.out, HF.out.one.drewN _⟩
theorem MHear_none (b x y : Nat) (r q d : Int) (s : Nd.NS) (w : World) (ok : Nd.Ok s) (hx : x < 6) (hy : y < 6) (hm : x ≠ s.me) (q0 : 0 ≤ q) (d0 : 0 ≤ d) (d1 : d ≤ 200) (hc : s.cost x = 0) (hn : NAt w b 119 s) :
  Calls Tryz.prog 97 #[.pointer (some ⟨b, 0, none⟩), news5 x r y q d] w (CodeFr b 119 s 6 w) := by
 have hl := hn.lt
 have h1 : isNode x = true := isNode_yes (by omega)
 have h2 : isNode y = true := isNode_yes (by omega)
 have h3 : ((x : Int) == (s.me : Int)) = false := by simp; omega
 have h4 : decide (q < 0) = false := by simpa using q0
 have h5 : decide (d < 0) = false := by simpa using d0
 have h6 : decide (200 < d) = false := by simpa using d1
 have hxi : (x : Int) < 6 := by omega
 have hyi : (y : Int) < 6 := by omega
 have hcb : (s.cost x == 0) = true := by simp [hc]
 clear hc
 have HN := zh hn; clear hn
 go_enter Tryz.func97, Tryz.ntmps97
 unfold news5
 go_wp2
 refine wp_name fun w1 hw1 => ?_
 have hf1 : Fr NoB w w1 := by rw [hw1]; exact (Fr.refl _ w).alloc _
 have hn1 := HN.out.keep hf1 (fun h => h)
 have b0 : w1.cell? ⟨w.heap.size, 0, none⟩ = some (.int .i64 x) := by rw [hw1]; simp
 have b2 : w1.cell? ⟨w.heap.size, 2, none⟩ = some (.int .i64 y) := by rw [hw1]; simp
 have b3 : w1.cell? ⟨w.heap.size, 3, none⟩ = some (.int .i64 q) := by rw [hw1]; simp
 have b4 : w1.cell? ⟨w.heap.size, 4, none⟩ = some (.int .i64 d) := by rw [hw1]; simp
 clear hw1
 have c0 := hn1.me
 have c1 := hn1.cost hx
 have g1 := hn1.hS hx hy
 have g2 := hn1.hD hx hy
 have f1 := hn1.fz (7 + x * 12 + y * 2)
 have f2 := hn1.fz (7 + x * 12 + y * 2 + 1)
 have HF := zh hf1; clear hf1; have HN1 := zh hn1; clear hn1; have HM := zh hm; clear hm; have HOk := zh ok; clear ok
 go_quiet ((go_at_call 60; exact Calls.quiet_of_same (RNode_q _ _)))
 go_wp2
 go_quiet (fail)
 go_wp2
 go_ret
 exact ⟨rfl, HN1.out, (HF.out.one.drewN _).drewN _⟩
theorem MHear_ok (b x y : Nat) (r q d : Int) (s : Nd.NS) (w : World) (ok : Nd.Ok s) (hx : x < 6) (hy : y < 6) (hm : x ≠ s.me) (q0 : 0 ≤ q) (d0 : 0 ≤ d) (d1 : d ≤ 200) (hc : s.cost x ≠ 0) (hn : NAt w b 119 s) :
  Calls Tryz.prog 97 #[.pointer (some ⟨b, 0, none⟩), news5 x r y q d] w (CodeFr b 119 (Nd.hear s x y q d) 0 w) := by
 have hl := hn.lt
 have h1 : isNode x = true := isNode_yes (by omega)
 have h2 : isNode y = true := isNode_yes (by omega)
 have h3 : ((x : Int) == (s.me : Int)) = false := by simp; omega
 have h4 : decide (q < 0) = false := by simpa using q0
 have h5 : decide (d < 0) = false := by simpa using d0
 have h6 : decide (200 < d) = false := by simpa using d1
 have hxi : (x : Int) < 6 := by omega
 have hyi : (y : Int) < 6 := by omega
 have hcb : (s.cost x == 0) = false := by simp [hc]
 clear hc
 have HN := zh hn; clear hn
 go_enter Tryz.func97, Tryz.ntmps97
 unfold news5
 go_wp2
 refine wp_name fun w1 hw1 => ?_
 have hf1 : Fr NoB w w1 := by rw [hw1]; exact (Fr.refl _ w).alloc _
 have hn1 := HN.out.keep hf1 (fun h => h)
 have b0 : w1.cell? ⟨w.heap.size, 0, none⟩ = some (.int .i64 x) := by rw [hw1]; simp
 have b2 : w1.cell? ⟨w.heap.size, 2, none⟩ = some (.int .i64 y) := by rw [hw1]; simp
 have b3 : w1.cell? ⟨w.heap.size, 3, none⟩ = some (.int .i64 q) := by rw [hw1]; simp
 have b4 : w1.cell? ⟨w.heap.size, 4, none⟩ = some (.int .i64 d) := by rw [hw1]; simp
 clear hw1
 have c0 := hn1.me
 have c1 := hn1.cost hx
 have g1 := hn1.hS hx hy
 have g2 := hn1.hD hx hy
 have f1 := hn1.fz (7 + x * 12 + y * 2)
 have f2 := hn1.fz (7 + x * 12 + y * 2 + 1)
 have HF := zh hf1; clear hf1; have HN1 := zh hn1; clear hn1; have HM := zh hm; clear hm; have HOk := zh ok; clear ok
 go_quiet ((go_at_call 60; exact Calls.quiet_of_same (RNode_q _ _)))
 go_wp2
 go_quiet (fail)
 go_wp2
 refine wp_name fun w2 hw2 => ?_
 have hn2 := HN1.out
 have hf2 : Fr (OneB b) w w2 := by rw [hw2]; exact (HF.out.one.drewN _).drewN _
 have hn2 : NAt w2 b 119 s := by rw [hw2]; exact HN1.out
 have b0 : w2.cell? ⟨w.heap.size, 0, none⟩ = some (.int .i64 x) := by rw [hw2]; exact b0
 have b2 : w2.cell? ⟨w.heap.size, 2, none⟩ = some (.int .i64 y) := by rw [hw2]; exact b2
 have b3 : w2.cell? ⟨w.heap.size, 3, none⟩ = some (.int .i64 q) := by rw [hw2]; exact b3
 have b4 : w2.cell? ⟨w.heap.size, 4, none⟩ = some (.int .i64 d) := by rw [hw2]; exact b4
 clear hw2 c0 c1 g1 g2 f1 f2
 have g1 := hn2.hS hx hy
 have g2 := hn2.hD hx hy
 have f1 := hn2.fz (7 + x * 12 + y * 2)
 have f2 := hn2.fz (7 + x * 12 + y * 2 + 1)
 clear HN1 HF
 have HN1 := zh hn2; clear hn2; have HF := zh hf2; clear hf2
 (refine still_tail 14 (by kernel_rfl) (by kernel_rfl) ?_; simp only [List.take_succ_cons, List.take_zero, List.drop_succ_cons, List.drop_zero]; (iterate 14 (refine wpStill_step (fun K hK => ?_); go_simp; (with_reducible refine hK _ ?_); clear hK K)); refine wpStill_nil ?_)
 go_wp2_with fail
 refine (look_any b y _ _ (Nd.Ok.heard HOk.out x y q d q0 d0 d1) hy (World.rowIs.drew (HN1.out.setH hx hy q d))).mono ?_
 rintro e w3 ⟨rfl, hn3, hf3⟩
 have hf4 : Fr (OneB b) w w3 := ((HF.out.set1 _ _).set1 _ _).drew.trans hf3
 clear hf3 b0 b2 b3 b4 g1 g2 f1 f2
 have HN3 := zh hn3; clear hn3; have HF4 := zh hf4; clear hf4
 go_wp2
 go_ret
 exact ⟨rfl, HN3.out, HF4.out⟩
theorem MHear_any (b : Nat) (f r t q d : Int) (s : Nd.NS) (w : World) (ok : Nd.Ok s) (hn : NAt w b 119 s) :
  Calls Tryz.prog 97 #[.pointer (some ⟨b, 0, none⟩), news5 f r t q d] w (CodeFr b 119 (Nd.hearC s f t q d).1 (Nd.hearC s f t q d).2 w) := by
 by_cases h : Nd.hearBad s f t q d
 ·have e : Nd.hearC s f t q d = (s, 1) := by rw [Nd.hearC, if_pos h]
  rw [e];exact MHear_bad b f r t q d s w h hn
 have h2 := h
 simp only [Nd.hearBad] at h2
 obtain ⟨x, rfl⟩ := Int.eq_ofNat_of_zero_le (a := f) (by omega)
 obtain ⟨y, rfl⟩ := Int.eq_ofNat_of_zero_le (a := t) (by omega)
 by_cases hc : s.cost x = 0
 ·have e : Nd.hearC s x y q d = (s, 6) := by rw [Nd.hearC, if_neg h, Int.toNat_natCast, if_pos hc]
  rw [e];exact MHear_none b x y r q d s w ok (by omega) (by omega) (by omega) (by omega) (by omega) (by omega) hc hn
 have e : Nd.hearC s x y q d = (Nd.hear s x y q d, 0) := by rw [Nd.hearC, if_neg h, Int.toNat_natCast, if_neg hc, Int.toNat_natCast]
 rw [e]
 exact MHear_ok b x y r q d s w ok (by omega) (by omega) (by omega) (by omega) (by omega) (by omega) hc hn
theorem MTick_any (b : Nat) (s : Nd.NS) (w : World) (hm : s.me < 6) (ho : Nd.Own s) (h0 : 0 ≤ s.wS s.me) (h1 : s.wS s.me < 1000000) (hn : NAt w b 119 s) :
  Calls Tryz.prog 95 #[.pointer (some ⟨b, 0, none⟩)] w (NilFr b 119 (Nd.tick s) w) := by
 have c0 := hn.me
 have c1 := hn.wS hm
 have f1 := hn.fz (79 + s.me * 3)
 have hmi : (s.me : Int) < 6 := by omega
 have hsum := IntWalk.i64_in (s.wS s.me + 1) (by omega)
 have HN := zh hn; clear hn; have HO := zh ho; clear ho
 go_enter Tryz.func95, Tryz.ntmps95
 go_wp2
 (refine still_tail 15 (by kernel_rfl) (by kernel_rfl) ?_; simp only [List.take_succ_cons, List.take_zero, List.drop_succ_cons, List.drop_zero]; (iterate 15 (refine wpStill_step (fun K hK => ?_); go_simp; (with_reducible refine hK _ ?_); clear hK K)); refine wpStill_nil ?_)
 go_upto_region 1 with fail
 refine wp_name fun w1 hw1 => ?_
 have hn1 : NAt w1 b 119 { s with wS := Nd.up s.wS s.me (s.wS s.me + 1) } := by
  rw [hw1];exact World.rowIs.drew (NAt.set HN.out _ _ (fun j _ => Nd.set_wS s hm (s.wS s.me + 1) j))
 have hf1 : Fr (OneB b) w w1 := by rw [hw1]; exact ((Fr.refl _ w).set1 _ _).drew
 clear hw1 c0 c1 f1 hsum
 have c0 := hn1.me
 have c1 := hn1.wS hm
 simp only [Nd.up_same] at c1
 have c2 := hn1.bS hm
 have c3 := hn1.bD hm
 have f1 := hn1.fz (97 + s.me * 2)
 have f2 := hn1.fz (97 + s.me * 2 + 1)
 have HN1 := zh hn1; clear hn1; have HF1 := zh hf1; clear hf1
 (refine still_tail 19 (by kernel_rfl) (by kernel_rfl) ?_; simp only [List.take_succ_cons, List.take_zero, List.drop_succ_cons, List.drop_zero]; (iterate 19 (refine wpStill_step (fun K hK => ?_); go_simp; (with_reducible refine hK _ ?_); clear hK K)); refine wpStill_nil ?_)
 go_wp2
 refine bodyPost_end (results_none rfl _ _ _) rfl ?_
 exact ⟨rfl, by rw [← Nd.tick_ref HO.out]; exact NAt.setB (w := w1.drew) HN1.out hm (s.wS s.me + 1) 0, (HF1.out.drew.set1 _ _).set1 _ _⟩
theorem zcN : Tryz.zeroCells146 = Array.replicate 109 (.int .i64 0) := by kernel_rfl
theorem newK_zero (me j : Nat) (h0 : 0 < j) : Nd.flat (Nd.newK me 0) j = 0 := by
 unfold Nd.flat Nd.newK
 simp
 omega
theorem zeros109 (w : World) (me : Nat) (t : TypeId) : NAt (w.alloc (.cells ((Array.replicate 109 (.int .i64 0)).setIfInBounds 0 (.int .i64 me)) t)) w.heap.size t (Nd.newK me 0) := by
 have k := World.rowIs_alloc w ((Array.replicate 109 (.int .i64 0)).setIfInBounds 0 (.int .i64 me)) t (I (Nd.flat (Nd.newK me 0))) (by
  intro i hi;have hi' : i < 109 := by simpa using hi
  match i with
  | 0 => rw [Array.getElem?_setIfInBounds]; simp [I, Nd.flat_me, Nd.newK]
  | i + 1 =>
   rw [Array.getElem?_setIfInBounds, if_neg (by omega), Array.getElem?_replicate, if_pos hi', I, newK_zero me (i + 1) (by omega)])
 simp at k
 exact k
def NewNPost (me : Nat) (t : TypeId) (w : World) (e : Ending) (w' : World) : Prop := e = .returned (.pointer (some ⟨w.heap.size, 0, none⟩)) ∧ NAt w' w.heap.size t (Nd.fresh me) ∧ Fr NoB w w'
def NwRel (me : Nat) (t : TypeId) (w : World) (i : Value) (wr : World) : Prop := ∃ k : Nat, k ≤ 6 ∧ i = .int .i64 k ∧ NAt wr w.heap.size t (Nd.newK me k) ∧ Fr NoB w wr
theorem New_yes (me : Nat) (w : World) (h : me < 6) : Calls Tryz.prog 42 #[.int .i64 me] w (NewNPost me 146 w) := by
 go_enter Tryz.func42, Tryz.ntmps42
 go_wp2_with fail
 refine (Node_yes _ _ (by omega) (by omega)).mono ?_; rintro e w' ⟨rfl, rfl⟩
 go_wp2
 refine wp_name fun w1 hw1 => ?_
 have hf1 : Fr NoB w w1 := by rw [hw1]; exact (Fr.refl _ w).alloc _
 have hn1 : NAt w1 w.heap.size 146 (Nd.newK me 0) := by
  rw [hw1, zcN];exact zeros109 w me _
 clear hw1
 have HF1 := zh hf1; clear hf1; have HN1 := zh hn1; clear hn1
 go_loopw [11] (fun i wr => NwRel me 146 w i wr) (fun i _ => 6 - (intOf i).toNat)
 case atStart => exact ⟨0, by omega, rfl, HN1.out, HF1.out⟩
 case round =>
  clear HN1 HF1;obtain ⟨k, hk, rfl, hn, hf⟩ := hrel
  have hs := hf.size
  have HF := zh hf; clear hf; have HS := zh hs; clear hs;by_cases hk6 : k < 6
  ·have g0 := hn.wS hk6
   have g1 := hn.wD hk6
   have g2 := hn.wH hk6
   have e0 := hn.bS hk6
   have e1 := hn.bD hk6
   have f0 := hn.fz (79 + k * 3)
   have f1 := hn.fz (79 + k * 3 + 1)
   have f2 := hn.fz (79 + k * 3 + 2)
   have f3 := hn.fz (97 + k * 2)
   have f4 := hn.fz (97 + k * 2 + 1)
   have HN := zh hn; clear hn;go_wp2_with fail
   refine (forget_any _ k (Nd.newW me k) _ hk6 ((HN.out.setW hk6 0 200 (-1)).setB hk6 0 200)).mono ?_
   rintro e w2 ⟨rfl, hn2, hf2⟩
   have hf3 : Fr NoB w w2 := ((((((HF.out.setNew (Nat.le_refl _) _ _).setNew (Nat.le_refl _) _ _).setNew (Nat.le_refl _) _ _).setNew (Nat.le_refl _) _ _).setNew (Nat.le_refl _) _ _).trans' hf2 (fun i hi h => absurd h (by unfold OneB; omega)))
   clear hf2 g0 g1 g2 e0 e1 f0 f1 f2 f3 f4;have HN2 := zh hn2; clear hn2; have HF2 := zh hf3; clear hf3
   go_wp2;go_roundw
   case rel => exact ⟨k + 1, by omega, by go_num, by rw [Nd.newK_succ]; exact HN2.out, HF2.out⟩
   case measure => simp [intOf]; omega
  obtain rfl : k = 6 := by omega
  have HN := zh hn; clear hn;go_wp2_with fail
  refine (own_any _ (Nd.newK me 6) _ h HN.out).mono ?_
  rintro e w2 ⟨rfl, hn2, hf2⟩
  have hf3 : Fr NoB w w2 := HF.out.trans' hf2 (fun i hi h => absurd h (by unfold OneB; omega))
  clear hf2;have HN2 := zh hn2; clear hn2; have HF2 := zh hf3; clear hf3
  go_wp2;go_ret
  exact ⟨rfl, HN2.out, HF2.out⟩
theorem MWay_any (b : Nat) (k : Int) (s : Nd.NS) (w : World) (hn : NAt w b 119 s) :
  Calls Tryz.prog 61 #[.pointer (some ⟨b, 0, none⟩), .int .i64 k] w (WayFr (Nd.wayAt s k) w) := by
 by_cases h : 0 ≤ k ∧ k < 6
 ·obtain ⟨x, rfl⟩ := Int.eq_ofNat_of_zero_le h.1
  have hx : x < 6 := by omega
  have hw : Nd.wayAt s (x : Int) = Nd.wayOf s x := by rw [Nd.wayAt, if_pos h, Int.toNat_natCast]
  have c0 := hn.wS hx
  have c1 := hn.wD hx
  have c2 := hn.wH hx
  have hl := hn.lt
  clear hn h;have HW := zh hw; clear hw
  go_enter Tryz.func61, Tryz.ntmps61
  go_wp2_with fail;refine (RNode_yes _ _ (by omega) (by omega)).mono ?_; rintro e w' ⟨rfl, rfl⟩
  go_wp2;refine bodyPost_ret (v := way3 (Nd.wayOf s x)) ?_ rfl ⟨by rw [HW.out], (Fr.refl _ _).alloc _⟩
  simp [results, Tryz.results61, go_sem, way3, Nd.wayOf]
 have hw : Nd.wayAt s k = Nd.noWay := by rw [Nd.wayAt, if_neg h]
 clear hn
 have HW := zh hw; clear hw; have H := zh h; clear h
 go_enter Tryz.func61, Tryz.ntmps61
 go_wp2_with fail
 refine (RNode_no _ _ H.out).mono ?_; rintro e w' ⟨rfl, rfl⟩
 go_wp2
 refine bodyPost_ret (v := way3 Nd.noWay) ?_ rfl ⟨by rw [HW.out], (Fr.refl _ _).alloc _⟩
 simp [results, Tryz.results61, go_sem, way3, Nd.noWay]
theorem MTell_any (b : Nat) (who : Int) (s : Nd.NS) (w : World) (hn : NAt w b 119 s) :
  Calls Tryz.prog 129 #[.pointer (some ⟨b, 0, none⟩), .int .i64 who] w (TellPost s who w) := by
 have HN := zh hn; clear hn
 go_enter Tryz.func129, Tryz.ntmps129
 go_wp2
 go_loopw [5, 6] (fun v i wr => TlRel s who w v i wr) (fun _ i _ => 6 - (intOf i).toNat)
 case atStart => exact ⟨0, by omega, rfl, World.ownsRow_nil _ _ _ _, Fr.refl _ _⟩
 case round =>
  obtain ⟨k, hk, rfl, ho, hf⟩ := hrel
  have HO := zh ho; clear ho; have HF := zh hf; clear hf;by_cases hk6 : k < 6
  ·have hkb : decide ((k : Int) < 6) = true := by simp; omega
   have hst := Nd.tellL_succ s who k
   have HST := zh hst; clear hst;go_upto_region 5 with fail
   have hn1 := HN.out.keep HF.out (fun h => h)
   have c0 := hn1.me
   have b0 := hn1.wS hk6
   have b1 := hn1.wD hk6
   have hki : (k : Int) < 6 := by omega
   clear hn1;have hlb : b < wr.heap.size := by have := HN.out.lt; have := HF.out.size; omega
   have key : ∀ (o : Obj) (W : World), Fr (fun i => u5.ownBlock = some i) ((wr.alloc o).drew) W → W.cell? ⟨b, 0, none⟩ = some (.int .i64 s.me) ∧ W.cell? ⟨b, 79 + k * 3, none⟩ = some (.int .i64 (s.wS k)) ∧ W.cell? ⟨b, 79 + k * 3 + 1, none⟩ = some (.int .i64 (s.wD k)) := by
    intro o W h;have hb := HN.out.lt
    have hv := oL HO.out
    have hF : Fr (fun i => u5.ownBlock = some i) wr W := ((Fr.refl _ wr).alloc o).drew.trans h
    have n1 : ¬ u5.ownBlock = some b := fun e => by have := (hv _ e).1; omega
    exact ⟨cell_fr hF c0 n1, cell_fr hF b0 n1, cell_fr hF b1 n1⟩
   have KEY := zh key; clear key
   go_region_held3 (fun W => W.cell? ⟨b, 0, none⟩ = some (.int .i64 s.me) ∧ W.cell? ⟨b, 79 + k * 3, none⟩ = some (.int .i64 (s.wS k)) ∧ W.cell? ⟨b, 79 + k * 3 + 1, none⟩ = some (.int .i64 (s.wD k)))
    (first | exact ⟨c0, b0, b1⟩ | exact KEY.out _ _ h2 | go_keep)
    ((refine step_app (by rfl) (.tmp 11) (.tmp 33) 67 98 5 40 (.agg #[.int .i64 0, .int .i64 0, .int .i64 0, .int .i64 0, .int .i64 0]) (by rfl) Tryz.underlying67 Tryz.info98 rfl (by omega) w.heap.size u5 k _ (by rfl) (World.ownsRow.drew (oA HO.out _)) ⟨wr.heap.size, 0, none⟩ 1 1 [.int .i64 s.me, .int .i64 who, .int .i64 k, .int .i64 (s.wS k), .int .i64 (s.wD k)] (by rfl) (by rfl) (World.news_of_block (cs := #[.int .i64 s.me, .int .i64 who, .int .i64 k, .int .i64 (s.wS k), .int .i64 (s.wD k)]) (t := 98) (fr := (0, 0)) (heap_alloc_new wr _)) (by simp [Value.oneCell']) (by omega) (by omega) (by omega) (by have := HF.out.size; simp; omega) ?_; intro v' w2 h1 h2))
   have r2 : Fr NoB w w2 := ((HF.out.alloc _).drew).ownB (World.ownsRow.drew (oA HO.out _)) (Nat.le_refl _) h2
   clear h2 b0 b1 c0;have H1 := zh h1; clear h1; have R2 := zh r2; clear r2
   go_wp2;go_roundw
   case rel => exact ⟨k + 1, by omega, by go_num, by rw [HST.out]; unfold SlN; rw [List.map_append]; exact H1.out, R2.out⟩
   case measure => simp [intOf]; omega
  obtain rfl : k = 6 := by omega
  go_wp2;go_ret
  exact ⟨_, rfl, HO.out, HF.out⟩
theorem zcM : Tryz.zeroCells119 = Array.replicate 109 (.int .i64 0) := by kernel_rfl
def NmRel (me : Nat) (w : World) (i : Value) (wr : World) : Prop := ∃ k : Nat, k ≤ 6 ∧ i = .int .i64 k ∧ NAt wr w.heap.size 119 (Nd.newK me k) ∧ Fr NoB w wr
def NmRelI (me k : Nat) (w : World) (i : Value) (wr : World) : Prop := ∃ j : Nat, j ≤ 6 ∧ i = .int .i64 j ∧ NAt wr w.heap.size 119 (Nd.forgetK (Nd.newW me k) k j) ∧ Fr NoB w wr
theorem NewMind_any (me : Nat) (w : World) (h : me < 6) : Calls Tryz.prog 23 #[.int .i64 me] w (NewNPost me 119 w) := by
 go_enter Tryz.func23, Tryz.ntmps23
 go_wp2
 refine wp_name fun w1 hw1 => ?_
 have hf1 : Fr NoB w w1 := by rw [hw1]; exact (Fr.refl _ w).alloc _
 have hn1 : NAt w1 w.heap.size 119 (Nd.newK me 0) := by
  rw [hw1, zcM];exact zeros109 w me _
 clear hw1
 have HF1 := zh hf1; clear hf1; have HN1 := zh hn1; clear hn1
 go_loopw [4] (fun i wr => NmRel me w i wr) (fun i _ => 6 - (intOf i).toNat)
 case atStart => exact ⟨0, by omega, rfl, HN1.out, HF1.out⟩
 case round =>
  clear HN1 HF1;obtain ⟨k, hk, rfl, hn, hf⟩ := hrel
  have hs := hf.size
  have HF := zh hf; clear hf; have HS := zh hs; clear hs;by_cases hk6 : k < 6
  ·have hkb : decide ((k : Int) < 6) = true := by simp; omega
   have g0 := hn.wS hk6
   have g1 := hn.wD hk6
   have g2 := hn.wH hk6
   have e0 := hn.bS hk6
   have e1 := hn.bD hk6
   have f0 := hn.fz (79 + k * 3)
   have f1 := hn.fz (79 + k * 3 + 1)
   have f2 := hn.fz (79 + k * 3 + 2)
   have f3 := hn.fz (97 + k * 2)
   have f4 := hn.fz (97 + k * 2 + 1)
   have HN := zh hn; clear hn;go_wp2
   refine wp_name fun w2 hw2 => ?_
   have hn2 : NAt w2 w.heap.size 119 (Nd.newW me k) := by rw [hw2]; exact (HN.out.setW hk6 0 200 (-1)).setB hk6 0 200
   have hf2 : Fr NoB w w2 := by rw [hw2]; exact ((((HF.out.setNew (Nat.le_refl _) _ _).setNew (Nat.le_refl _) _ _).setNew (Nat.le_refl _) _ _).setNew (Nat.le_refl _) _ _).setNew (Nat.le_refl _) _ _
   clear hw2 g0 g1 g2 e0 e1 f0 f1 f2 f3 f4 HN HF;have HN := zh hn2; clear hn2; have HF := zh hf2; clear hf2
   go_loopw [5] (fun i wr => NmRelI me k w i wr) (fun i _ => 6 - (intOf i).toNat)
   case atStart => exact ⟨0, by omega, rfl, by rw [Nd.forgetK_zero]; exact HN.out, HF.out⟩
   case round =>
    clear HN HF;obtain ⟨j, hj, rfl, hn, hf⟩ := hrel
    have HN := zh hn; clear hn; have HF := zh hf; clear hf;by_cases hj6 : j < 6
    ·have c1 := HN.out.hS hk6 hj6
     have c2 := HN.out.hD hk6 hj6
     have f1 := HN.out.fz (7 + k * 12 + j * 2)
     have f2 := HN.out.fz (7 + k * 12 + j * 2 + 1)
     go_wp2;go_roundw
     case rel => exact ⟨j + 1, by omega, by go_num, by rw [Nd.forgetK_succ]; exact HN.out.setH hk6 hj6 0 200, (HF.out.setNew (Nat.le_refl _) _ _).setNew (Nat.le_refl _) _ _⟩
     case measure => simp [intOf]; omega
    obtain rfl : j = 6 := by omega
    go_wp2;go_roundw
    case rel => exact ⟨k + 1, by omega, by go_num, by rw [Nd.newK_succ]; exact HN.out, HF.out⟩
    case measure => simp [intOf]; omega
  obtain rfl : k = 6 := by omega
  have g0 := hn.wS h
  have g1 := hn.wD h
  have g2 := hn.wH h
  have e0 := hn.bS h
  have e1 := hn.bD h
  have f0 := hn.fz (79 + me * 3)
  have f1 := hn.fz (79 + me * 3 + 1)
  have f2 := hn.fz (79 + me * 3 + 2)
  have f3 := hn.fz (97 + me * 2)
  have f4 := hn.fz (97 + me * 2 + 1)
  have HN := zh hn; clear hn;go_wp2
  go_ret
  exact ⟨rfl, by rw [← Nd.fresh_ref]; exact (HN.out.setW h 0 0 me).setB h 0 0, ((((HF.out.setNew (Nat.le_refl _) _ _).setNew (Nat.le_refl _) _ _).setNew (Nat.le_refl _) _ _).setNew (Nat.le_refl _) _ _).setNew (Nat.le_refl _) _ _⟩
end Go.Proofs.YtffoilacaffdgaaGreatDoor
namespace Go.Proofs.YtffoilacaffdgaaGreatDoor.Nd
theorem pick_wSme (s : NS) (k : Nat) : (pick s k).wS s.me = s.wS s.me := by
 unfold Nd.pick; split
 ·rfl
 rename_i hk
 exact up_other _ _ _ _ (fun e => hk e.symm)
theorem all_me (s : NS) : ∀ k, (all s k).me = s.me
 | 0 => rfl
 | k + 1 => by rw [Nd.all, pick_me, all_me s k]
theorem all_wSme (s : NS) : ∀ k, (all s k).wS s.me = s.wS s.me
 | 0 => rfl
 | k + 1 => by
  have := pick_wSme (all s k) k
  rw [all_me] at this;rw [Nd.all, this, all_wSme s k]
theorem link_me (s : NS) (who : Nat) (c : Int) : (link s who c).me = s.me := by
 unfold Nd.link; dsimp only; split <;> rw [all_me] <;> rfl
theorem link_wSme (s : NS) (who : Nat) (c : Int) : (link s who c).wS s.me = s.wS s.me := by
 unfold Nd.link; dsimp only; split
 ·exact all_wSme (forget { s with cost := up s.cost who c } who) 6
 exact all_wSme { s with cost := up s.cost who c } 6
theorem hear_me (s : NS) (f t : Nat) (q d : Int) : (hear s f t q d).me = s.me := pick_me _ _
theorem hear_wSme (s : NS) (f t : Nat) (q d : Int) : (hear s f t q d).wS s.me = s.wS s.me := pick_wSme { s with hS := up2 s.hS f t q, hD := up2 s.hD f t d } t
theorem linkC_me (s : NS) (who c : Int) : (linkC s who c).1.me = s.me := by unfold linkC; split; rfl; exact link_me _ _ _
theorem hearC_me (s : NS) (f t q d : Int) : (hearC s f t q d).1.me = s.me := by
 unfold hearC; split
 ·rfl
 split
 ·rfl
 exact hear_me _ _ _ _ _
theorem linkC_wSme (s : NS) (who c : Int) : (linkC s who c).1.wS s.me = s.wS s.me := by unfold linkC; split; rfl; exact link_wSme _ _ _
theorem hearC_wSme (s : NS) (f t q d : Int) : (hearC s f t q d).1.wS s.me = s.wS s.me := by
 unfold hearC; split
 ·rfl
 split
 ·rfl
 exact hear_wSme _ _ _ _ _
theorem tick_me (s : NS) : (tick s).me = s.me := rfl
theorem tick_wSme (s : NS) : (tick s).wS s.me = s.wS s.me + 1 := by simp [tick, own]
structure Run (s : NS) (n : Nat) : Prop where
 ok : Ok s
 own : Own s
 lo : 0 ≤ s.wS s.me
 hi : s.wS s.me ≤ n
theorem Run.mono {s : NS} {n m : Nat} (h : Run s n) (hm : n ≤ m) : Run s m := ⟨h.ok, h.own, h.lo, by have := h.hi; omega⟩
theorem Run.linkC {s : NS} {n : Nat} (h : Run s n) (who c : Int) : Run (linkC s who c).1 n := ⟨h.ok.linkC who c, h.own.linkC who c, by rw [linkC_me, linkC_wSme]; exact h.lo, by rw [linkC_me, linkC_wSme]; exact h.hi⟩
theorem Run.hearC {s : NS} {n : Nat} (h : Run s n) (f t q d : Int) : Run (hearC s f t q d).1 n := ⟨h.ok.hearC f t q d, h.own.hearC f t q d, by rw [hearC_me, hearC_wSme]; exact h.lo, by rw [hearC_me, hearC_wSme]; exact h.hi⟩
theorem Run.tick {s : NS} {n : Nat} (h : Run s n) : Run (tick s) (n + 1) := ⟨h.ok.tick, Own.tick s, by rw [tick_me, tick_wSme]; have := h.lo; omega, by rw [tick_me, tick_wSme]; have := h.hi; omega⟩
theorem Run.fresh {me : Nat} (h : me < 6) : Run (fresh me) 0 := ⟨Ok.fresh h, Own.fresh me, by simp [Nd.fresh, Nd.own, newK], by simp [Nd.fresh, Nd.own, newK]⟩
end Go.Proofs.YtffoilacaffdgaaGreatDoor.Nd
namespace Go.Proofs.YtffoilacaffdgaaGreatDoor
open Go.RowKit Go.Deep
theorem fieldHop (a b c : Int) (w : World) : (Instr.field 95 (.agg #[.int .i64 a, .int .i64 b, .int .i64 c]) 2).run Tryz.prog w = .ok (.int .i64 c) w := by kernel_rfl
end Go.Proofs.YtffoilacaffdgaaGreatDoor
namespace Go.Proofs.YtffoilacaffdgaaGreatDoor.Nd
structure Wy (s : NS) : Prop where
 bS : ∀ k, k < 6 → 0 ≤ s.bS k
 wS : ∀ k, k < 6 → 0 ≤ s.wS k
 lo : ∀ k, k < 6 → 0 ≤ s.wD k
 hi : ∀ k, k < 6 → s.wD k ≤ 200
 drop : ∀ k, k < 6 → s.wH k = -1 → s.wD k = 200
theorem choose_cases (s : NS) (dst : Nat) : choose s dst 6 = none s dst ∨ ∃ t, t < 6 ∧ may s t dst = true ∧ choose s dst 6 = key s dst t := by
 rcases choose_spec s dst 6 with ⟨h1, _⟩ | ⟨t, ht, h1⟩
 ·exact .inl h1
 exact .inr ⟨t, ht.lt, ht.may, h1⟩
theorem Wy.pick {s : NS} (ok : Ok s) (h : Wy s) {dst : Nat} (hd : dst < 6) : Wy (pick s dst) := by
 unfold Nd.pick
 split
 ·exact h
 have key2 : (0 ≤ (choose s dst 6).seq ∧ 0 ≤ (choose s dst 6).dist ∧ (choose s dst 6).dist ≤ 200 ∧ ((choose s dst 6).hop = -1 → (choose s dst 6).dist = 200)) := by
  rcases choose_cases s dst with e | ⟨t, ht, hm, e⟩
  ·rw [e]; exact ⟨h.bS dst hd, by simp [none], by simp [none], fun _ => rfl⟩
  rw [e];have h1 := ok.hS t dst ht hd
  have h2 := ok.hD t dst ht hd
  have h3 := ok.cost t ht
  simp only [may, Bool.and_eq_true, decide_eq_true_eq] at hm
  exact ⟨h1, by simp only [key]; omega, by simp only [key]; omega, fun hh => by simp only [key] at hh; omega⟩
 generalize choose s dst 6 = w at *
 obtain ⟨a, b, c, d⟩ := key2
 refine ⟨fun k hk => ?_, fun k hk => ?_, fun k hk => ?_, fun k hk => ?_, fun k hk => ?_⟩
 ·have := h.bS k hk
  simp only [lay]; split
  ·unfold up; split <;> omega
  exact this
 ·have := h.wS k hk
  simp only [lay, up]; split <;> omega
 ·have := h.lo k hk
  simp only [lay, up]; split <;> omega
 ·have := h.hi k hk
  simp only [lay, up]; split <;> omega
 have := h.drop k hk
 simp only [lay, up]; split
 ·exact d
 exact this
theorem Wy.all {s : NS} (ok : Ok s) (h : Wy s) : ∀ k, k ≤ 6 → Wy (all s k)
 | 0, _ => h
 | k + 1, hk => Wy.pick (ok.all k) (Wy.all ok h k (by omega)) (by omega)
theorem Wy.same {s s' : NS} (h : Wy s) (e1 : s'.bS = s.bS) (e2 : s'.wS = s.wS) (e3 : s'.wD = s.wD) (e4 : s'.wH = s.wH) : Wy s' :=
 ⟨by rw [e1]; exact h.bS, by rw [e2]; exact h.wS, by rw [e3]; exact h.lo, by rw [e3]; exact h.hi, by rw [e3, e4]; exact h.drop⟩
theorem Wy.link {s : NS} (ok : Ok s) (h : Wy s) (who : Nat) (c : Int) (h0 : 0 ≤ c) (h1 : c ≤ 15) : Wy (link s who c) := by
 unfold Nd.link
 dsimp only
 split
 ·exact Wy.all (Ok.forget (Ok.cost' ok who c h0 h1) who) (h.same rfl rfl rfl rfl) 6 (by omega)
 exact Wy.all (Ok.cost' ok who c h0 h1) (h.same rfl rfl rfl rfl) 6 (by omega)
theorem Wy.linkC {s : NS} (ok : Ok s) (h : Wy s) (who c : Int) : Wy (linkC s who c).1 := by
 unfold Nd.linkC; split
 ·exact h
 rename_i hb
 simp only [linkBad] at hb
 exact Wy.link ok h _ c (by omega) (by omega)
theorem Wy.hearC {s : NS} (ok : Ok s) (h : Wy s) (f t q d : Int) : Wy (hearC s f t q d).1 := by
 unfold Nd.hearC; split
 ·exact h
 rename_i hb
 simp only [hearBad] at hb
 split
 ·exact h
 exact Wy.pick (ok.heard _ _ q d (by omega) (by omega) (by omega)) (h.same rfl rfl rfl rfl) (by omega)
theorem Wy.tick {s : NS} (h : Wy s) (hw : 0 ≤ s.wS s.me) : Wy (tick s) := by
 refine ⟨fun k hk => ?_, fun k hk => ?_, fun k hk => ?_, fun k hk => ?_, fun k hk => ?_⟩
 ·have := h.bS k hk
  simp only [Nd.tick, own, up, if_true]; split <;> omega
 ·have := h.wS k hk
  simp only [Nd.tick, own, up]; split <;> omega
 ·have := h.lo k hk
  simp only [Nd.tick, own, up]; split <;> omega
 ·have := h.hi k hk
  simp only [Nd.tick, own, up]; split <;> omega
 have := h.drop k hk
 simp only [Nd.tick, own, up]; split
 ·intro hh; omega
 exact this
theorem Wy.fresh (me : Nat) : Wy (fresh me) := by
 refine ⟨fun k hk => ?_, fun k hk => ?_, fun k hk => ?_, fun k hk => ?_, fun k hk => ?_⟩
 ·simp only [Nd.fresh, own, newK, up]; split <;> omega
 ·simp only [Nd.fresh, own, newK]; omega
 ·simp only [Nd.fresh, own, newK, up, hk, if_true]; split <;> omega
 ·simp only [Nd.fresh, own, newK, up, hk, if_true]; split <;> omega
 simp only [Nd.fresh, own, newK, up, hk, if_true]; split
 ·intro hh; omega
 intro _; rfl
structure WayOk (s : NS) (k : Nat) : Prop where
 via : s.wH k ≠ -1 → ∃ f : Nat, f < 6 ∧ s.wH k = (f : Int) ∧ 0 < s.cost f ∧ s.wS k = s.hS f k ∧ s.wD k = s.hD f k + s.cost f ∧ s.hD f k + s.cost f < 200 ∧ betB (s.hS f k) (s.hD f k) (s.bS k) (s.bD k) = true ∧ betB (s.wS k) (s.wD k) (s.bS k) (s.bD k) = false
theorem pick_wayOk {s : NS} (k : Nat) (hm : k ≠ s.me) : WayOk (pick s k) k := by
 constructor
 intro h
 rw [Nd.pick, if_neg hm] at *
 rcases choose_cases s k with e | ⟨t, ht, hmay, e⟩
 ·rw [e] at h;exact absurd (by simp only [lay, up_same]; rfl) h
 rw [e] at *
 have hmay' := hmay
 simp only [may, Bool.and_eq_true, decide_eq_true_eq] at hmay
 obtain ⟨⟨h1, h2⟩, h3⟩ := hmay
 refine ⟨t, ht, by simp only [lay, key, up_same], h1, by simp only [lay, key, up_same], by simp only [lay, key, up_same], h2, ?_, ?_⟩
 ·by_cases hb : (key s k t).hop ≠ -1 ∧ betB (key s k t).seq (key s k t).dist (s.bS k) (s.bD k) = true
  ·simp only [lay, if_pos hb, up_same]
   rw [betB_iff];exact .inr ⟨rfl, by show s.hD t k < s.hD t k + s.cost t; omega⟩
  simp only [lay, if_neg hb]
  exact h3
 by_cases hb : (key s k t).hop ≠ -1 ∧ betB (key s k t).seq (key s k t).dist (s.bS k) (s.bD k) = true
 ·simp only [lay, if_pos hb, up_same]
  rw [betB_no]; omega
 simp only [lay, if_neg hb, up_same]
 cases hc : betB (key s k t).seq (key s k t).dist (s.bS k) (s.bD k)
 ·rfl
 exact absurd ⟨by simp only [key]; omega, hc⟩ hb
theorem pick_other {s : NS} {j k : Nat} (h : WayOk s j) (hj : j ≠ k) : WayOk (pick s k) j := by
 unfold Nd.pick
 split
 ·exact h
 constructor
 have hb1 : (lay s k (choose s k 6)).bS j = s.bS j := by simp only [lay]; split <;> simp [up, hj]
 have hb2 : (lay s k (choose s k 6)).bD j = s.bD j := by simp only [lay]; split <;> simp [up, hj]
 have h1 : (lay s k (choose s k 6)).wH j = s.wH j := up_other _ _ _ _ hj
 have h2 : (lay s k (choose s k 6)).wS j = s.wS j := up_other _ _ _ _ hj
 have h3 : (lay s k (choose s k 6)).wD j = s.wD j := up_other _ _ _ _ hj
 rw [hb1, hb2, h1, h2, h3]
 exact h.via
theorem all_wayOk (s : NS) : ∀ n j, j < n → j ≠ s.me → WayOk (all s n) j
 | 0, _, hj, _ => by omega
 | n + 1, j, hj, hm => by
  rw [Nd.all];by_cases e : j = n
  ·subst e; exact pick_wayOk j (by rw [all_me]; exact hm)
  exact pick_other (all_wayOk s n j (by omega) hm) e
structure Bst (s : NS) : Prop where
 way : ∀ k, k < 6 → k ≠ s.me → WayOk s k
 meS : s.bS s.me = s.wS s.me
 meD : s.bD s.me = 0
theorem pick_bme (s : NS) (k : Nat) : (pick s k).bS s.me = s.bS s.me ∧ (pick s k).bD s.me = s.bD s.me := by
 unfold Nd.pick; split
 ·exact ⟨rfl, rfl⟩
 rename_i hk
 have hne : s.me ≠ k := fun e => hk e.symm
 simp only [lay]; constructor <;> split <;> simp [up, hne]
theorem all_bme (s : NS) : ∀ n, (all s n).bS s.me = s.bS s.me ∧ (all s n).bD s.me = s.bD s.me
 | 0 => ⟨rfl, rfl⟩
 | n + 1 => by
  have h := pick_bme (all s n) n
  rw [all_me] at h;rw [Nd.all, h.1, h.2]
  exact all_bme s n
theorem Bst.all {s : NS} (h1 : s.bS s.me = s.wS s.me) (h2 : s.bD s.me = 0) : Bst (all s 6) :=
 ⟨fun k hk hm => all_wayOk s 6 k hk (by rw [all_me] at hm; exact hm), by rw [all_me, (all_bme s 6).1, all_wSme]; exact h1, by rw [all_me, (all_bme s 6).2]; exact h2⟩
theorem Bst.linkC {s : NS} (h : Bst s) (who c : Int) : Bst (linkC s who c).1 := by
 unfold Nd.linkC; split
 ·exact h
 show Bst (link s who.toNat c)
 unfold Nd.link; dsimp only; split
 ·exact Bst.all (s := forget { s with cost := up s.cost who.toNat c } who.toNat) h.meS h.meD
 exact Bst.all (s := { s with cost := up s.cost who.toNat c }) h.meS h.meD
theorem Bst.hearC {s : NS} (h : Bst s) (f t q d : Int) : Bst (hearC s f t q d).1 := by
 unfold Nd.hearC; split
 ·exact h
 split
 ·exact h
 show Bst (pick { s with hS := up2 s.hS f.toNat t.toNat q, hD := up2 s.hD f.toNat t.toNat d } t.toNat)
 generalize f.toNat = x
 generalize t.toNat = y
 have hme : (pick { s with hS := up2 s.hS x y q, hD := up2 s.hD x y d } y).me = s.me := pick_me _ _
 refine ⟨fun k hk hm => ?_, ?_, ?_⟩
 ·rw [hme] at hm;by_cases e : k = y
  ·subst e; exact pick_wayOk k hm
  refine pick_other ⟨?_⟩ e
  intro hh;obtain ⟨g, a1, a2, a3, a4, a5, a6, a7, a8⟩ := (h.way k hk hm).via hh
  have e1 : up2 s.hS x y q g k = s.hS g k := by simp [up2, e]
  have e2 : up2 s.hD x y d g k = s.hD g k := by simp [up2, e]
  exact ⟨g, a1, a2, a3, by show _ = up2 s.hS x y q g k; rw [e1]; exact a4, by show _ = up2 s.hD x y d g k + _; rw [e2]; exact a5, by show up2 s.hD x y d g k + _ < _; rw [e2]; exact a6, by show betB (up2 s.hS x y q g k) (up2 s.hD x y d g k) _ _ = _; rw [e1, e2]; exact a7, a8⟩
 ·rw [hme];have h1 := (pick_bme { s with hS := up2 s.hS x y q, hD := up2 s.hD x y d } y).1
  have h2 := pick_wSme { s with hS := up2 s.hS x y q, hD := up2 s.hD x y d } y
  exact h1.trans (h.meS.trans h2.symm)
 rw [hme]
 exact (pick_bme { s with hS := up2 s.hS x y q, hD := up2 s.hD x y d } y).2.trans h.meD
theorem Bst.tick {s : NS} (h : Bst s) : Bst (tick s) := by
 refine ⟨fun k hk hm => ⟨?_⟩, by simp [Nd.tick, own], by simp [Nd.tick, own]⟩
 have hm' : k ≠ s.me := hm
 have e1 : (Nd.tick s).wH k = s.wH k := by simp [Nd.tick, own, up, hm']
 have e2 : (Nd.tick s).wS k = s.wS k := by simp [Nd.tick, own, up, hm']
 have e3 : (Nd.tick s).wD k = s.wD k := by simp [Nd.tick, own, up, hm']
 have e4 : (Nd.tick s).bS k = s.bS k := by simp [Nd.tick, own, up, hm']
 have e5 : (Nd.tick s).bD k = s.bD k := by simp [Nd.tick, own, up, hm']
 rw [e1, e2, e3, e4, e5]
 exact (h.way k hk hm').via
theorem Bst.fresh {me : Nat} (_h : me < 6) : Bst (fresh me) := by
 refine ⟨fun k hk hm => ⟨fun hh => ?_⟩, by simp [Nd.fresh, own], by simp [Nd.fresh, own]⟩
 have hm' : k ≠ me := hm
 exact absurd (by simp [Nd.fresh, own, newK, up, hm', hk]) hh
def NW (s s' : NS) (k : Nat) : Prop := betB (s.bS k) (s.bD k) (s'.bS k) (s'.bD k) = false
theorem NW.refl (s : NS) (k : Nat) : NW s s k := by unfold NW; rw [betB_no]; omega
theorem NW.trans {a b c : NS} {k : Nat} (h1 : NW a b k) (h2 : NW b c k) : NW a c k := by
 unfold NW at *; rw [betB_no] at *; omega
theorem NW.same {s s' : NS} {k : Nat} (e1 : s'.bS k = s.bS k) (e2 : s'.bD k = s.bD k) : NW s s' k := by unfold NW; rw [e1, e2, betB_no]; omega
theorem NW.pick (s : NS) (j k : Nat) : NW s (pick s j) k := by
 unfold Nd.pick; split
 ·exact NW.refl _ _
 by_cases hb : (choose s j 6).hop ≠ -1 ∧ betB (choose s j 6).seq (choose s j 6).dist (s.bS j) (s.bD j) = true
 ·unfold NW;simp only [lay, if_pos hb]
  by_cases e : k = j
  ·subst e;rw [up_same, up_same]
   have := hb.2
   rw [betB_iff] at this;rw [betB_no]; omega
  rw [up_other _ _ _ _ e, up_other _ _ _ _ e, betB_no]; omega
 unfold NW
 simp only [lay, if_neg hb]
 rw [betB_no]; omega
theorem NW.all (s : NS) (k : Nat) : ∀ n, NW s (all s n) k
 | 0 => NW.refl _ _
 | n + 1 => (NW.all s k n).trans (NW.pick _ _ _)
theorem NW.linkC (s : NS) (who c : Int) (k : Nat) : NW s (linkC s who c).1 k := by
 unfold Nd.linkC; split
 ·exact NW.refl _ _
 show NW s (link s who.toNat c) k
 unfold Nd.link; dsimp only; split
 ·exact (NW.same (s' := forget { s with cost := up s.cost who.toNat c } who.toNat) rfl rfl).trans (NW.all _ k 6)
 exact (NW.same (s' := { s with cost := up s.cost who.toNat c }) rfl rfl).trans (NW.all _ k 6)
theorem NW.hearC (s : NS) (f t q d : Int) (k : Nat) : NW s (hearC s f t q d).1 k := by
 unfold Nd.hearC; split
 ·exact NW.refl _ _
 split
 ·exact NW.refl _ _
 exact (NW.same (s' := { s with hS := up2 s.hS f.toNat t.toNat q, hD := up2 s.hD f.toNat t.toNat d }) rfl rfl).trans (NW.pick _ _ _)
theorem NW.tick {s : NS} (h : Bst s) (k : Nat) : NW s (tick s) k := by
 by_cases e : k = s.me
 ·subst e;unfold NW
  have h1 := h.meS
  have h2 := h.meD
  have e4 : (Nd.tick s).bS s.me = s.wS s.me + 1 := by simp [Nd.tick, own]
  have e5 : (Nd.tick s).bD s.me = 0 := by simp [Nd.tick, own]
  rw [e4, e5, h1, h2, betB_no]; omega
 exact NW.same (by simp [Nd.tick, own, up, e]) (by simp [Nd.tick, own, up, e])
def Said (s : NS) (sS sD : Nat → Nat → Int) : Prop := ∀ f k, f < 6 → k < 6 → s.hD f k < 200 → sS f k = s.hS f k ∧ sD f k = s.hD f k
theorem all_heard (s : NS) : ∀ n, (all s n).hS = s.hS ∧ (all s n).hD = s.hD ∧ (all s n).cost = s.cost
 | 0 => ⟨rfl, rfl, rfl⟩
 | n + 1 => by
  rw [Nd.all];obtain ⟨h1, h2, h3⟩ := all_heard s n
  unfold Nd.pick; split
  ·exact ⟨h1, h2, h3⟩
  exact ⟨h1, h2, h3⟩
theorem linkC_cost_ok {s : NS} {who c : Int} (h : (linkC s who c).2 = 0) : (0 ≤ who ∧ who < 6) ∧ (linkC s who c).1.cost = up s.cost who.toNat c := by
 unfold Nd.linkC at *
 split at h
 ·simp at h
 rename_i hb
 rw [if_neg hb]
 simp only [linkBad] at hb
 refine ⟨by omega, ?_⟩
 show (link s who.toNat c).cost = _
 unfold Nd.link; dsimp only; split <;> rw [(all_heard _ 6).2.2] <;> rfl
theorem pick_heard (s : NS) (k : Nat) : (pick s k).hS = s.hS ∧ (pick s k).hD = s.hD ∧ (pick s k).cost = s.cost := by
 unfold Nd.pick; split <;> exact ⟨rfl, rfl, rfl⟩
theorem hearC_cost (s : NS) (f t q d : Int) : (hearC s f t q d).1.cost = s.cost := by
 unfold Nd.hearC; split
 ·rfl
 split
 ·rfl
 exact (pick_heard _ _).2.2
structure Asked (s : NS) (sS sD : Nat → Nat → Int) (k : Nat) : Prop where
 drop : s.wH k = -1 → s.wD k = 200
 noBetter : s.wH k ≠ -1 → betB (s.wS k) (s.wD k) (s.bS k) (s.bD k) = false
 via : s.wH k ≠ -1 → k ≠ s.me → ∃ f : Nat, f < 6 ∧ s.wH k = (f : Int) ∧ 0 < s.cost f ∧ s.cost f ≤ 15 ∧ s.wS k = sS f k ∧ s.wD k = sD f k + s.cost f ∧ 0 ≤ sD f k ∧ sD f k ≤ 200 ∧ betB (sS f k) (sD f k) (s.bS k) (s.bD k) = true
theorem asked {s : NS} {sS sD : Nat → Nat → Int} (ok : Ok s) (wy : Wy s) (own : Own s) (b : Bst s) (sd : Said s sS sD) {k : Nat} (hk : k < 6) : Asked s sS sD k := by
 refine ⟨wy.drop k hk, fun hh => ?_, fun hh hm => ?_⟩
 ·by_cases e : k = s.me
  ·subst e;rw [b.meS, b.meD, own.d, betB_no]; omega
  obtain ⟨f, _, _, _, _, _, _, _, a8⟩ := (b.way k hk e).via hh
  exact a8
 obtain ⟨f, a1, a2, a3, a4, a5, a6, a7, _⟩ := (b.way k hk hm).via hh
 have h1 := ok.cost f a1
 have h2 := ok.hD f k a1 hk
 obtain ⟨s1, s2⟩ := sd f k a1 hk (by omega)
 exact ⟨f, a1, a2, a3, h1.2, by rw [s1]; exact a4, by rw [s2]; exact a5, by rw [s2]; exact h2.1, by rw [s2]; exact h2.2, by rw [s1, s2]; exact a7⟩
end Go.Proofs.YtffoilacaffdgaaGreatDoor.Nd
namespace Go.Proofs.YtffoilacaffdgaaGreatDoor.Nt
open Nd
structure Nw where
 a : Int
 g : Int
 t : Int
 q : Int
 d : Int
structure NT where
 N : Nat → NS
 C : Nat → Nat → Int
 news : List Nw
def upN (f : Nat → NS) (i : Nat) (s : NS) : Nat → NS := fun j => if j = i then s else f j
theorem upN_same (f : Nat → NS) (i : Nat) (s : NS) : upN f i s i = s := by simp [upN]
theorem upN_other (f : Nat → NS) (i j : Nat) (s : NS) (h : j ≠ i) : upN f i s j = f j := by simp [upN, h]
def begun : NT := ⟨fun k => fresh k, fun _ _ => 0, []⟩
def tellW (s : NS) (who : Int) (k : Nat) : List Nw := (List.range k).map fun (t : Nat) => ⟨s.me, who, t, s.wS t, s.wD t⟩
theorem tellW_len (s : NS) (who : Int) (k : Nat) : (tellW s who k).length = k := by simp [tellW]
def setBad (a b c : Int) : Prop := ¬ (0 ≤ a ∧ a < 6 ∧ 0 ≤ b ∧ b < 6 ∧ a ≠ b ∧ 0 ≤ c ∧ c ≤ 15)
instance (a b c : Int) : Decidable (setBad a b c) := by unfold setBad; infer_instance
def linkOk (t : NT) (a b : Nat) (c : Int) : NT := ⟨upN (upN t.N a (Nd.linkC (t.N a) b c).1) b (Nd.linkC (t.N b) a c).1, setC t.C a b c, t.news⟩
def linkT (t : NT) (a b c : Int) : NT × Int := if setBad a b c then (t, 1) else (linkOk t a.toNat b.toNat c, 0)
def isN (n : Int) : Prop := 0 ≤ n ∧ n < 6
instance (n : Int) : Decidable (isN n) := by unfold isN; infer_instance
def tellT (t : NT) (a b : Int) : NT × Int :=
 if ¬ (isN a ∧ isN b) then (t, 1) else if t.C a.toNat b.toNat = 0 then (t, 6) else if 40 < t.news.length + 6 then (t, 9) else ({ t with news := t.news ++ tellW (t.N a.toNat) b 6 }, 0)
def tellsT (t : NT) (a : Int) : List Nat → NT × Int
 | [] => (t, 0)
 | b :: l => if (tellT t a b).2 = 0 then tellsT (tellT t a b).1 a l else tellT t a b
def tickOk (t : NT) (a : Nat) : NT := { t with N := upN t.N a (Nd.tick (t.N a)) }
def tickT (t : NT) (a : Int) : NT × Int := if ¬ isN a then (t, 1) else tellsT (tickOk t a.toNat) a (ofL t.C a.toNat 6)
def out (t : NT) (n : Int) : Prop := n < 0 ∨ (t.news.length : Int) ≤ n
instance (t : NT) (n : Int) : Decidable (out t n) := by unfold out; infer_instance
def lost (t : NT) (k : Nat) : NT := { t with news := t.news.take k ++ t.news.drop (k + 1) }
def loseT (t : NT) (n : Int) : NT × Int := if out t n then (t, 6) else (lost t n.toNat, 0)
def heard (t : NT) (x : Nw) : NT × Int := ({ t with N := upN t.N x.g.toNat (Nd.hearC (t.N x.g.toNat) x.a x.t x.q x.d).1 }, (Nd.hearC (t.N x.g.toNat) x.a x.t x.q x.d).2)
def nwAt (t : NT) (k : Nat) : Nw := t.news.getD k ⟨0, 0, 0, 0, 0⟩
def hearT (t : NT) (n : Int) : NT × Int := if out t n then (t, 6) else heard (lost t n.toNat) (nwAt t n.toNat)
def dblT (t : NT) (n : Int) : NT × Int := if out t n then (t, 6) else if t.news.length = 40 then (t, 9) else ({ t with news := t.news ++ [nwAt t n.toNat] }, 0)
def doT (t : NT) (k a b n : Int) : NT × Int :=
 if k = 1 then linkT t a b n else if k = 2 then tickT t a else if k = 3 then tellT t a b else if k = 4 then hearT t n else if k = 5 then loseT t n else if k = 6 then dblT t n else (t, 8)
structure NOk (t : NT) (n : Nat) : Prop where
 me : ∀ k, k < 6 → (t.N k).me = k
 run : ∀ k, k < 6 → Run (t.N k) n
 cost : Lk.CostOK t.C
 g : ∀ x ∈ t.news, isN x.g
 len : t.news.length ≤ 40
theorem NOk.begun : NOk begun 0 := ⟨fun _ _ => rfl, fun _ hk => Run.fresh hk, CostOK.zero, fun _ h => (by cases h), by simp [Nt.begun]⟩
theorem NOk.mono {t : NT} {n m : Nat} (h : NOk t n) (hm : n ≤ m) : NOk t m := ⟨h.me, fun k hk => (h.run k hk).mono hm, h.cost, h.g, h.len⟩
theorem NOk.upd {t : NT} {n : Nat} (h : NOk t n) {k : Nat} {s : NS} (hm : s.me = k) (hs : Run s n) : NOk { t with N := upN t.N k s } n where
 me j hj := by
  show (upN t.N k s j).me = j
  by_cases e : j = k
  ·subst e; rw [upN_same]; exact hm
  rw [upN_other _ _ _ _ e]; exact h.me j hj
 run j hj := by
  show Run (upN t.N k s j) n
  by_cases e : j = k
  ·subst e; rw [upN_same]; exact hs
  rw [upN_other _ _ _ _ e]; exact h.run j hj
 cost := h.cost
 g := h.g
 len := h.len
theorem NOk.linkOk {t : NT} {n : Nat} (h : NOk t n) {a b : Nat} {c : Int} (ha : a < 6) (hb : b < 6) (hab : a ≠ b) (h0 : 0 ≤ c) (h1 : c ≤ 15) : NOk (linkOk t a b c) n := by
 have k1 := h.upd (k := a) (s := (Nd.linkC (t.N a) b c).1) (by rw [linkC_me]; exact h.me a ha) ((h.run a ha).linkC b c)
 have k2 := k1.upd (k := b) (s := (Nd.linkC (t.N b) a c).1) (by rw [linkC_me]; exact h.me b hb) ((h.run b hb).linkC a c)
 exact ⟨k2.me, k2.run, CostOK.set h.cost hab h0 h1, h.g, h.len⟩
theorem NOk.tellT {t : NT} {n : Nat} (h : NOk t n) (a b : Int) : NOk (tellT t a b).1 n := by
 unfold Nt.tellT; split
 ·exact h
 rename_i hn
 have hn : isN a ∧ isN b := Classical.not_not.1 hn
 split
 ·exact h
 split
 ·exact h
 rename_i hl
 refine ⟨h.me, h.run, h.cost, fun x hx => ?_, by show (t.news ++ tellW _ b 6).length ≤ 40; rw [List.length_append, tellW_len]; omega⟩
 rcases List.mem_append.1 hx with hx | hx
 ·exact h.g x hx
 simp only [tellW, List.mem_map] at hx
 obtain ⟨k, _, rfl⟩ := hx
 exact hn.2
theorem NOk.tickOk {t : NT} {n : Nat} (h : NOk t n) {a : Nat} (ha : a < 6) : NOk (tickOk t a) (n + 1) :=
 (h.mono (Nat.le_succ n)).upd (by rw [tick_me]; exact h.me a ha) (h.run a ha).tick
theorem NOk.lost {t : NT} {n : Nat} (h : NOk t n) (k : Nat) : NOk (lost t k) n :=
 ⟨h.me, h.run, h.cost, fun x hx => by
  rcases List.mem_append.1 hx with hx | hx
  ·exact h.g x (List.mem_of_mem_take hx)
  ·exact h.g x (List.mem_of_mem_drop hx), by
  have := h.len
  show (t.news.take k ++ t.news.drop (k + 1)).length ≤ 40
  rw [List.length_append, List.length_take, List.length_drop]; omega⟩
theorem nwAt_mem {t : NT} {k : Nat} (h : k < t.news.length) : nwAt t k ∈ t.news := by
 unfold nwAt; rw [List.getD_eq_getElem?_getD, List.getElem?_eq_getElem h]; exact List.getElem_mem h
theorem out_no {t : NT} {n : Int} (h : ¬ out t n) : n.toNat < t.news.length := by unfold out at h; omega
theorem NOk.heard {t : NT} {n : Nat} (h : NOk t n) {x : Nw} (hx : isN x.g) : NOk (heard t x).1 n := by
 unfold isN at hx
 have hk : x.g.toNat < 6 := by omega
 exact h.upd (by rw [hearC_me]; exact h.me _ hk) ((h.run _ hk).hearC _ _ _ _)
theorem NOk.dblT {t : NT} {n : Nat} (h : NOk t n) (k : Int) : NOk (dblT t k).1 n := by
 unfold Nt.dblT; split
 ·exact h
 rename_i ho
 split
 ·exact h
 refine ⟨h.me, h.run, h.cost, fun x hx => ?_, by have := h.len; show (t.news ++ [nwAt t k.toNat]).length ≤ 40; rw [List.length_append]; simp; omega⟩
 rcases List.mem_append.1 hx with hx | hx
 ·exact h.g x hx
 rw [List.mem_singleton.1 hx]; exact h.g _ (nwAt_mem (out_no ho))
def runT (X : Nat → Int) : Nat → NT
 | 0 => begun
 | k + 1 => (doT (runT X k) (X (k * 6)) (X (k * 6 + 1)) (X (k * 6 + 2)) (X (k * 6 + 3))).1
end Go.Proofs.YtffoilacaffdgaaGreatDoor.Nt
namespace Go.Proofs.YtffoilacaffdgaaGreatDoor
open Go.RowKit Go.Deep
theorem rows_apart {w : World} {b b' : Nat} {t t' : TypeId} {n n' : Nat} {f f' : Nat → Value} (h : w.rowIs b t n f) (k : w.rowIs b' t' n' f') (ht : t ≠ t') : b ≠ b' := by
 rintro rfl
 obtain ⟨c, h1, _⟩ := h
 obtain ⟨d, k1, _⟩ := k
 rw [h1] at k1
 simp only [Option.some.injEq, Obj.cells.injEq] at k1
 exact ht k1.2.1
theorem row_own_apart {w : World} {b base : Nat} {t e : TypeId} {n size m : Nat} {f : Nat → Value} {v : Value} {xs : List Value} (h : w.rowIs b t n f) (k : w.ownsRow base e size v m xs) (ht : t ≠ e) : ¬ v.ownBlock = some b := by
 intro hb
 obtain ⟨c, h1, _⟩ := h
 rcases k.2 with ⟨rfl, _⟩ | ⟨g, cap, cur, rfl, _, k1, _⟩
 ·cases hb
 cases hb
 rw [h1] at k1
 simp only [Option.some.injEq, Obj.cells.injEq] at k1
 exact ht k1.2.1
def nwI (l : List Nt.Nw) : List Int := l.flatMap fun x => [x.a, x.g, x.t, x.q, x.d]
theorem nwI_len : ∀ l : List Nt.Nw, (nwI l).length = l.length * 5
 | [] => rfl
 | _ :: l => by
  have := nwI_len l
  simp only [nwI, List.flatMap_cons, List.length_append, List.length_cons, List.length_nil] at *
  omega
theorem nwI_app (l m : List Nt.Nw) : nwI (l ++ m) = nwI l ++ nwI m := by simp [nwI]
theorem nwI_take : ∀ (l : List Nt.Nw) (i : Nat), (nwI l).take (i * 5) = nwI (l.take i)
 | [], i => by simp [nwI]
 | x :: l, 0 => by simp [nwI]
 | x :: l, i + 1 => by
  have := nwI_take l i
  rw [show (i + 1) * 5 = 5 + i * 5 from by omega];simp only [nwI, List.flatMap_cons, List.take_succ_cons] at *
  rw [← this, List.take_append, List.take_of_length_le (by simp)];simp
theorem nwI_drop : ∀ (l : List Nt.Nw) (i : Nat), (nwI l).drop (i * 5) = nwI (l.drop i)
 | [], i => by simp [nwI]
 | x :: l, 0 => by simp [nwI]
 | x :: l, i + 1 => by
  have := nwI_drop l i
  rw [show (i + 1) * 5 = 5 + i * 5 from by omega];simp only [nwI, List.flatMap_cons, List.drop_succ_cons] at *
  rw [← this, List.drop_append, List.drop_of_length_le (by simp)];simp
theorem nwI_tell (s : Nd.NS) (who : Int) (k : Nat) : Nd.tellL s who k = nwI (Nt.tellW s who k) := by
 simp [Nd.tellL, Nt.tellW, nwI, List.flatMap_map]
def nwGet (l : List Nt.Nw) (k : Nat) : Nt.Nw := l.getD k ⟨0, 0, 0, 0, 0⟩
theorem nwI_at : ∀ (l : List Nt.Nw) (k : Nat), k < l.length → (nwI l).getD (k * 5) 0 = (nwGet l k).a ∧ (nwI l).getD (k * 5 + 1) 0 = (nwGet l k).g ∧ (nwI l).getD (k * 5 + 2) 0 = (nwGet l k).t ∧ (nwI l).getD (k * 5 + 3) 0 = (nwGet l k).q ∧ (nwI l).getD (k * 5 + 4) 0 = (nwGet l k).d
 | [], k, h => by simp at h
 | x :: l, 0, _ => ⟨rfl, rfl, rfl, rfl, rfl⟩
 | x :: l, k + 1, h => by
  have := nwI_at l k (by simpa using h)
  rw [show (k + 1) * 5 = k * 5 + 5 from by omega];exact this
theorem news_rd {w : World} {base : Nat} {v : Value} {n : Nat} {xs : List Int} (h : SlN w base v n xs) (j : Nat) (u : Value) (g : Nat) (hg : v.ownBlock = some g) (hu : (xs.map (Value.int .i64))[j]? = some u) : w.cell? ((⟨g, 0, none⟩ : Addr).add j) = some u := World.ownsRow.cells h hg j u hu
structure Ids where
 b : Nat
 L : Nat
 N : Nat → Nat
def netF (x : Ids) (v : Value) (i : Nat) : Value := if i = 0 then .pointer (some ⟨x.L, 0, none⟩) else if i < 7 then .pointer (some ⟨x.N (i - 1), 0, none⟩) else v
def Ft (x : Ids) (v : Value) (i : Nat) : Prop := i = x.b ∨ i = x.L ∨ (∃ k, k < 6 ∧ i = x.N k) ∨ v.ownBlock = some i
structure NtAt (w : World) (x : Ids) (v : Value) (t : Nt.NT) : Prop where
 net : w.rowIs x.b 109 8 (netF x v)
 links : CAt w x.L 140 t.C
 node : ∀ k, k < 6 → NAt w (x.N k) 146 (t.N k)
 news : SlN w 0 v t.news.length (nwI t.news)
 inj : ∀ j k, j < 6 → k < 6 → x.N j = x.N k → j = k
section
variable {w : World} {x : Ids} {v : Value} {t : Nt.NT} (h : NtAt w x v t)
include h
theorem NtAt.c0 : w.cell? ⟨x.b, 0, none⟩ = some (.pointer (some ⟨x.L, 0, none⟩)) := rC h.net (i := 0) (by omega)
theorem NtAt.cN {k : Nat} (hk : k < 6) : w.cell? ⟨x.b, 1 + k, none⟩ = some (.pointer (some ⟨x.N k, 0, none⟩)) := by
 have := rC h.net (i := 1 + k) (by omega)
 rw [netF, if_neg (by omega), if_pos (by omega), show 1 + k - 1 = k from by omega] at this
 exact this
theorem NtAt.c7 : w.cell? ⟨x.b, 7, none⟩ = some v := rC h.net (i := 7) (by omega)
theorem NtAt.bL : x.b ≠ x.L := rows_apart h.net h.links (by decide)
theorem NtAt.bN {k : Nat} (hk : k < 6) : x.b ≠ x.N k := rows_apart h.net (h.node k hk) (by decide)
theorem NtAt.LN {k : Nat} (hk : k < 6) : x.L ≠ x.N k := rows_apart h.links (h.node k hk) (by decide)
theorem NtAt.bv : ¬ v.ownBlock = some x.b := row_own_apart h.net h.news (by decide)
theorem NtAt.Lv : ¬ v.ownBlock = some x.L := row_own_apart h.links h.news (by decide)
theorem NtAt.Nv {k : Nat} (hk : k < 6) : ¬ v.ownBlock = some (x.N k) := row_own_apart (h.node k hk) h.news (by decide)
theorem NtAt.lt {i : Nat} (hi : Ft x v i) : i < w.heap.size := by
 rcases hi with rfl | rfl | ⟨k, hk, rfl⟩ | hi
 ·exact World.rowIs.lt h.net
 ·exact World.rowIs.lt h.links
 ·exact (h.node k hk).lt
 exact (oL h.news i hi).2
theorem NtAt.keep {S : Nat → Prop} {w' : World} (hf : Fr S w w') (hS : ∀ i, Ft x v i → ¬ S i) : NtAt w' x v t :=
 ⟨hf.row h.net (hS _ (.inl rfl)), hf.row h.links (hS _ (.inr (.inl rfl))), fun k hk => (h.node k hk).keep hf (hS _ (.inr (.inr (.inl ⟨k, hk, rfl⟩)))), own_keep h.news hf (fun g hg => hS g (.inr (.inr (.inr hg)))), h.inj⟩
theorem NtAt.keep0 {w' : World} (hf : Fr NoB w w') : NtAt w' x v t := h.keep hf (fun _ _ h => h)
theorem NtAt.setN {k : Nat} (hk : k < 6) {w' : World} {s : Nd.NS} (hs : NAt w' (x.N k) 146 s) (hf : Fr (OneB (x.N k)) w w') : NtAt w' x v { t with N := Nt.upN t.N k s } where
 net := hf.row h.net (fun e => h.bN hk e)
 links := hf.row h.links (fun e => h.LN hk e)
 node j hj := by
  show NAt w' (x.N j) _ (Nt.upN t.N k s j)
  by_cases e : j = k
  ·subst e; rw [Nt.upN_same]; exact hs
  rw [Nt.upN_other _ _ _ _ e]; exact (h.node j hj).keep hf (fun e' => e (h.inj j k hj hk e'))
 news := own_keep h.news hf (fun g hg e => by cases e; exact h.Nv hk hg)
 inj := h.inj
theorem NtAt.setL {w' : World} {C : Nat → Nat → Int} (hs : CAt w' x.L 140 C) (hf : Fr (OneB x.L) w w') : NtAt w' x v { t with C := C } where
 net := hf.row h.net (fun e => h.bL e)
 links := hs
 node j hj := (h.node j hj).keep hf (fun e => h.LN hj e.symm)
 news := own_keep h.news hf (fun g hg e => by cases e; exact h.Lv hg)
 inj := h.inj
theorem NtAt.setV {w' : World} {v' : Value} {l : List Nt.Nw} (hv : SlN w' 0 v' l.length (nwI l)) (hf : Fr (fun i => v.ownBlock = some i) w w') : NtAt (w'.setCell ⟨x.b, 7, none⟩ v') x v' { t with news := l } := by
 have hnet := hf.row h.net h.bv
 have hl := hf.row h.links h.Lv
 have hb : ¬ v'.ownBlock = some x.b := row_own_apart hnet hv (by decide)
 have hfs : Fr (OneB x.b) w' (w'.setCell ⟨x.b, 7, none⟩ v') := (Fr.refl _ _).set1 _ _
 refine ⟨(World.rowIs.set hnet 7 v').congr (fun i hi => ?_), hfs.row hl (fun e => h.bL e.symm), fun k hk => ((h.node k hk).keep hf (h.Nv hk)).keep hfs (fun e => h.bN hk e.symm), own_keep hv hfs (fun g hg e => by cases e; exact hb hg), h.inj⟩
 unfold netF
 by_cases e : i = 7
 ·subst e; simp
 rw [if_neg e]
 by_cases e0 : i = 0
 ·rw [if_pos e0, if_pos e0]
 rw [if_neg e0, if_neg e0, if_pos (by omega), if_pos (by omega)]
end
theorem NtAt.drewN {w : World} {x : Ids} {v : Value} {t : Nt.NT} (h : NtAt w x v t) (n : Nat) : NtAt (w.drewN n) x v t := ⟨h.net, h.links, h.node, h.news, h.inj⟩
def NtDo (x : Ids) (v : Value) (t : Nt.NT) (c : Int) (w : World) (e : Ending) (w' : World) : Prop :=
 ∃ v', e = .returned (.int .i64 c) ∧ NtAt w' x v' t ∧ Fr (Ft x v) w w' ∧ ∀ g, v'.ownBlock = some g → v.ownBlock = some g ∨ w.heap.size ≤ g
theorem Sl.at {w : World} {base : Nat} {al : Option Addr} {n c : Nat} {xs : List Int} (h : Sl w base (.slice al n c) xs) {k : Nat} (hk : k < xs.length) : ∃ g, al = some ⟨g, 0, none⟩ ∧ w.cell? ⟨g, k, none⟩ = some (.int .i64 (xs.getD k 0)) := by
 rcases h.shape with ⟨_, rfl⟩ | ⟨g, cap, e, _, _, hc⟩
 ·simp at hk
 cases e
 exact ⟨g, rfl, hc k hk⟩
def IdxPost (xs : List Int) (y : Int) (w : World) (e : Ending) (w' : World) : Prop := ∃ r : Int, e = .returned (.int .i64 r) ∧ (0 ≤ r ↔ y ∈ xs) ∧ w = w'
def IdxRel (xs : List Int) (y : Int) (w : World) (i : Value) (wr : World) : Prop := ∃ k : Nat, k ≤ xs.length ∧ i = .int .i64 k ∧ (∀ j, j < k → xs.getD j 0 ≠ y) ∧ wr = w
theorem Index_any (base : Nat) (v : Value) (xs : List Int) (y : Int) (w : World) (hl : xs.length ≤ 1000000) (h : Sl w base v xs) :
  Calls Tryz.prog 152 #[v, .int .i64 y] w (IdxPost xs y w) := by
 obtain ⟨al, c, rfl, j⟩ := ownsRow_rd h
 clear j
 have H := zh h; clear h
 go_enter Tryz.func152, Tryz.ntmps152
 go_wp2
 go_loopw [8] (fun i wr => IdxRel xs y w i wr) (fun i _ => xs.length - (intOf i).toNat)
 case atStart => exact ⟨0, by omega, rfl, fun j h => by omega, rfl⟩
 case round =>
  obtain ⟨k, hk, rfl, hne, rfl⟩ := hrel
  have HNE := zh hne; clear hne;by_cases hkn : k < xs.length
  ·obtain ⟨g, rfl, cg⟩ := Sl.at H.out hkn
   have hmem : xs.getD k 0 ∈ xs := by simp [hkn]
   generalize hz : xs.getD k 0 = z at *;by_cases he : y = z
   ·have heb : (y == z) = true := by simp [he]
    have hm : y ∈ xs := by rw [he]; exact hmem
    clear hmem hz he;have HM := zh hm; clear hm
    go_wp2;go_ret
    exact ⟨k, rfl, ⟨fun _ => HM.out, fun _ => by omega⟩, rfl⟩
   have heb : (y == z) = false := by simpa using he
   have hne : ∀ j, j < k + 1 → xs.getD j 0 ≠ y := fun j hj => by
    by_cases e : j = k
    ·rw [e, hz]; exact fun h => he h.symm
    exact HNE.out j (by omega)
   clear hmem hz he HNE;have HNE := zh hne; clear hne
   go_wp2;go_roundw
   case rel => exact ⟨k + 1, by omega, by go_num, HNE.out, rfl⟩
   case measure => simp [intOf]; omega
  have hm : ¬ y ∈ xs := fun hm => by
   obtain ⟨j, hj, e⟩ := List.mem_iff_getElem.1 hm
   exact HNE.out j (by omega) (by simp [hj, e])
  clear HNE;have HM := zh hm; clear hm
  go_wp2;go_ret
  exact ⟨-1, rfl, ⟨fun h => by omega, fun h => absurd h HM.out⟩, rfl⟩
theorem Contains_any (base : Nat) (v : Value) (xs : List Int) (y : Int) (w : World) (hl : xs.length ≤ 1000000) (h : Sl w base v xs) :
  Calls Tryz.prog 119 #[v, .int .i64 y] w fun e w' => e = .returned (.bool (decide (y ∈ xs))) ∧ w = w' := by
 have H := zh h; clear h
 go_enter Tryz.func119, Tryz.ntmps119
 go_wp2_with fail
 refine (Index_any base v xs y _ hl H.out).mono ?_
 rintro e w1 ⟨r, rfl, hr, rfl⟩
 have hd : decide (0 ≤ r) = decide (y ∈ xs) := decide_eq_decide.2 hr
 have HD := zh hd; clear hd
 clear hr
 go_wp2
 go_ret
 exact ⟨ret_bool HD.out, rfl⟩
theorem NtDo.none {x : Ids} {v : Value} {t : Nt.NT} {c : Int} {w w' : World} (h : NtAt w' x v t) (hf : Fr (Ft x v) w w') : NtDo x v t c w (.returned (.int .i64 c)) w' := ⟨v, rfl, h, hf, fun _ hg => .inl hg⟩
theorem NtAt.own_off {w : World} {x : Ids} {v u : Value} {t : Nt.NT} {base n size : Nat} {e : TypeId} {xs : List Value} (h : NtAt w x v t) (k : w.ownsRow base e size u n xs) (e1 : 109 ≠ e) (e2 : 140 ≠ e) (e3 : 146 ≠ e) (e4 : 98 ≠ e) : ∀ g, u.ownBlock = some g → ¬ Ft x v g := by
 intro g hg hf
 rcases hf with rfl | rfl | ⟨j, hj, rfl⟩ | hf
 ·exact row_own_apart h.net k e1 hg
 ·exact row_own_apart h.links k e2 hg
 ·exact row_own_apart (h.node j hj) k e3 hg
 exact own_apart h.news k e4 g hf hg
theorem Nlink_any (x : Ids) (v : Value) (t : Nt.NT) (a b c : Int) (m : Nat) (w : World) (hr : Nt.NOk t m) (h : NtAt w x v t) :
  Calls Tryz.prog 134 #[.pointer (some ⟨x.b, 0, none⟩), .int .i64 a, .int .i64 b, .int .i64 c] w (NtDo x v (Nt.linkT t a b c).1 (Nt.linkT t a b c).2 w) := by
 have c0 := h.c0
 have H := zh h; clear h; have HR := zh hr; clear hr
 by_cases hb : Nt.setBad a b c
 ·have e : Nt.linkT t a b c = (t, 1) := by rw [Nt.linkT, if_pos hb]
  rw [e];clear e
  unfold Nt.setBad at hb;have HB := zh hb; clear hb
  go_enter Tryz.func134, Tryz.ntmps134
  go_wp2_with fail;refine (Set_no x.L a b c _ HB.out).mono ?_
  rintro e w' ⟨rfl, rfl⟩
  go_wp2;go_ret
  exact NtDo.none H.out (Fr.refl _ _)
 have e : Nt.linkT t a b c = (Nt.linkOk t a.toNat b.toNat c, 0) := by rw [Nt.linkT, if_neg hb]
 rw [e]
 clear e
 have hb := Classical.not_not.1 hb
 obtain ⟨p0, p1, q0, q1, hne, r0, r1⟩ := hb
 obtain ⟨p, rfl⟩ := Int.eq_ofNat_of_zero_le p0
 obtain ⟨q, rfl⟩ := Int.eq_ofNat_of_zero_le q0
 rw [Int.toNat_natCast, Int.toNat_natCast]
 have hp : p < 6 := by omega
 have hq : q < 6 := by omega
 have hpq : q ≠ p := by omega
 clear hne p0 q0
 have HPQ := zh hpq; clear hpq
 go_enter Tryz.func134, Tryz.ntmps134
 go_wp2_with fail
 refine (Set_ok x.L p q c t.C _ hp hq (fun e => HPQ.out e.symm) r0 r1 H.out.links).mono ?_
 rintro e w1 ⟨rfl, hc, hf⟩
 have h1 := H.out.setL hc hf
 have hf1 : Fr (Ft x v) w w1 := hf.mono (fun i _ h => .inr (.inl h))
 clear c0 hc hf H
 have c1 := h1.cN hp
 have c2 := h1.cN hq
 have H := zh h1; clear h1; have HF := zh hf1; clear hf1
 go_wp2_with fail
 refine (Link_any (x.N p) q c (t.N p) _ (HR.out.run p hp).ok (H.out.node p hp)).mono ?_
 rintro e w2 ⟨rfl, hn, hf⟩
 have h2 := H.out.setN hp hn hf
 have hf2 : Fr (Ft x v) w w2 := HF.out.trans (hf.mono (fun i _ h => .inr (.inr (.inl ⟨p, hp, h⟩))))
 have hq2 : NAt w2 (x.N q) 146 (t.N q) := by
  have h3 : NAt w2 (x.N q) 146 (Nt.upN t.N p (Nd.linkC (t.N p) q c).1 q) := h2.node q hq
  rw [Nt.upN_other _ _ _ _ HPQ.out] at h3;exact h3
 clear c1 c2 hn hf H HF
 have c2 := h2.cN hq
 have H := zh h2; clear h2; have HF := zh hf2; clear hf2; have HQ := zh hq2; clear hq2
 go_wp2_with fail
 refine (Link_any (x.N q) p c (t.N q) _ (HR.out.run q hq).ok HQ.out).mono ?_
 rintro e w3 ⟨rfl, hn, hf⟩
 have h3 := H.out.setN hq hn hf
 have hf3 : Fr (Ft x v) w w3 := HF.out.trans (hf.mono (fun i _ h => .inr (.inr (.inl ⟨q, hq, h⟩))))
 clear c2 hn hf H HF
 have H := zh h3; clear h3; have HF := zh hf3; clear hf3
 go_wp2
 go_ret
 exact NtDo.none H.out HF.out
theorem Ntell_any (x : Ids) (v : Value) (t : Nt.NT) (a b : Int) (m : Nat) (w : World) (hr : Nt.NOk t m) (h : NtAt w x v t) :
  Calls Tryz.prog 136 #[.pointer (some ⟨x.b, 0, none⟩), .int .i64 a, .int .i64 b] w (NtDo x v (Nt.tellT t a b).1 (Nt.tellT t a b).2 w) := by
 by_cases ha : Nt.isN a
 ·by_cases hb : Nt.isN b
  ·obtain ⟨p, rfl⟩ := Int.eq_ofNat_of_zero_le ha.1
   obtain ⟨q, rfl⟩ := Int.eq_ofNat_of_zero_le hb.1
   have hp : p < 6 := by have := ha.2; omega
   have hq : q < 6 := by have := hb.2; omega
   have hab : ¬ ¬ (Nt.isN p ∧ Nt.isN q) := fun h => h ⟨ha, hb⟩
   clear ha hb;have c0 := h.c0
   have H := zh h; clear h; have HR := zh hr; clear hr;by_cases hz : t.C p q = 0
   ·have e : Nt.tellT t p q = (t, 6) := by rw [Nt.tellT, if_neg hab, Int.toNat_natCast, Int.toNat_natCast, if_pos hz]
    rw [e];have hzb : (t.C p q == 0) = true := by simp [hz]
    clear e hab hz;go_enter Tryz.func136, Tryz.ntmps136
    go_wp2_with (first | (go_at_call 66; refine (Node_yes _ _ (by omega) (by omega)).mono ?_; rintro e w' ⟨rfl, rfl⟩) | (go_at_call 121; refine (Cost_yes _ _ _ t.C _ hp hq H.out.links).mono ?_; rintro e w' ⟨rfl, rfl⟩))
    go_ret
    exact NtDo.none H.out (Fr.refl _ _)
   have hzb : (t.C p q == 0) = false := by simpa using hz
   obtain ⟨av, cv, rfl, _, _, _, hncv, hcv, _⟩ := ownsRow_rd H.out.news
   clear hncv hcv;have c1 := H.out.cN hp
   have hl40 := HR.out.len
   have hsum := IntWalk.i64_in ((t.news.length : Int) + 6) (by omega)
   by_cases hl : 40 < t.news.length + 6
   ·have e : Nt.tellT t p q = (t, 9) := by rw [Nt.tellT, if_neg hab, Int.toNat_natCast, Int.toNat_natCast, if_neg hz, if_pos hl]
    rw [e];clear e hab hz
    have hlb : decide ((40 : Int) < (t.news.length : Int) + 6) = true := by simp; omega
    have HL40 := zh hl40; clear hl40;clear hl
    go_enter Tryz.func136, Tryz.ntmps136
    go_wp2_with (first | (go_at_call 66; refine (Node_yes _ _ (by omega) (by omega)).mono ?_; rintro e w' ⟨rfl, rfl⟩) | (go_at_call 121; refine (Cost_yes _ _ _ t.C _ hp hq H.out.links).mono ?_; rintro e w' ⟨rfl, rfl⟩))
    refine (Tell_any (x.N p) q (t.N p) _ (H.out.node p hp)).mono ?_
    rintro e w1 ⟨v1, rfl, hv1, hf⟩
    have h1 := H.out.keep0 hf
    obtain ⟨a1, cap1, rfl, _⟩ := ownsRow_rd hv1
    have c7 := h1.c7
    have hf1 : Fr (Ft x (.slice av t.news.length cv)) w w1 := hf.mono (fun _ _ h => h.elim)
    clear c0 c1 hv1 hf H;have H := zh h1; clear h1; have HF := zh hf1; clear hf1
    go_wp2;go_ret
    exact NtDo.none H.out HF.out
   have e : Nt.tellT t p q = ({ t with news := t.news ++ Nt.tellW (t.N p) q 6 }, 0) := by rw [Nt.tellT, if_neg hab, Int.toNat_natCast, Int.toNat_natCast, if_neg hz, if_neg hl]
   rw [e];clear e hab hz
   have hlb : decide ((40 : Int) < (t.news.length : Int) + 6) = false := by simp; omega
   have HL40 := zh hl40; clear hl40;clear hl
   go_enter Tryz.func136, Tryz.ntmps136
   go_wp2_with (first | (go_at_call 66; refine (Node_yes _ _ (by omega) (by omega)).mono ?_; rintro e w' ⟨rfl, rfl⟩) | (go_at_call 121; refine (Cost_yes _ _ _ t.C _ hp hq H.out.links).mono ?_; rintro e w' ⟨rfl, rfl⟩))
   refine (Tell_any (x.N p) q (t.N p) _ (H.out.node p hp)).mono ?_
   rintro e w1 ⟨v1, rfl, hv1, hf⟩
   have h1 := H.out.keep0 hf
   have hz1 := hf.size
   have hg1 : ∃ g1 c1, v1 = .slice (some ⟨g1, 0, none⟩) 6 c1 := by
    rcases hv1.2 with ⟨_, h0⟩ | ⟨g, cap, cur, h2, _⟩
    ·omega
    exact ⟨g, cap, h2⟩
   obtain ⟨g1, cap1, rfl⟩ := hg1
   have c7 := h1.c7
   have hf1 : Fr (Ft x (.slice av t.news.length cv)) w w1 := hf.mono (fun _ _ h => h.elim)
   clear c0 c1 hf H;have H := zh h1; clear h1; have HF := zh hf1; clear hf1; have HV1 := zh hv1; clear hv1; have HZ1 := zh hz1; clear hz1
   go_wp2_with (at_builtin; go_loud (refine app_lies (by rfl) (.tmp 45) (.tmp 46) 67 98 5 40 (.agg #[.int .i64 0, .int .i64 0, .int .i64 0, .int .i64 0, .int .i64 0]) (by rfl) Tryz.underlying67 Tryz.info98 rfl (by omega) 0 (.slice av t.news.length cv) t.news.length _ (by rfl) H.out.news ⟨g1, 0, none⟩ 6 cap1 ((Nd.tellL (t.N p) q 6).map (Value.int .i64)) (by rfl) (by rw [List.length_map, Nd.tellL_len]) (fun j u hu => news_rd HV1.out j u g1 rfl hu) (by intro u hu; obtain ⟨y, _, rfl⟩ := List.mem_map.1 hu; rfl) (by omega) (by have := HL40.out; omega) (by omega) (by omega) ?_))
   intro g cap w2 h2 hf hlie
   have hv2 : SlN w2 0 (.slice (some ⟨g, 0, none⟩) (t.news ++ Nt.tellW (t.N p) q 6).length cap) (t.news ++ Nt.tellW (t.N p) q 6).length (nwI (t.news ++ Nt.tellW (t.N p) q 6)) := by
    rw [nwI_app, ← nwI_tell, List.length_append, Nt.tellW_len];unfold SlN
    rw [List.map_append];exact h2
   have h3 := H.out.setV hv2 hf
   have q7 := cell_fr hf c7 H.out.bv
   have qf : w2.frozen? ⟨x.b, 7, none⟩ = false := rF (hf.row H.out.net H.out.bv) 7
   have hf3 : Fr (Ft x (.slice av t.news.length cv)) w (w2.setCell ⟨x.b, 7, none⟩ (.slice (some ⟨g, 0, none⟩) (t.news ++ Nt.tellW (t.N p) q 6).length cap)) :=
    (HF.out.trans (hf.mono (fun _ _ h => .inr (.inr (.inr h))))).setCell (p := ⟨x.b, 7, none⟩) (.inl (.inl rfl)) _
   have hll : t.news.length + 6 = (t.news ++ Nt.tellW (t.N p) q 6).length := by rw [List.length_append, Nt.tellW_len]
   have hlie' : ∀ g', (Value.slice (some ⟨g, 0, none⟩) (t.news ++ Nt.tellW (t.N p) q 6).length cap).ownBlock = some g' → (Value.slice av t.news.length cv).ownBlock = some g' ∨ w.heap.size ≤ g' := by
    intro g' hg';simp only [Value.ownBlock, Option.some.injEq] at hg'
    subst hg'
    rcases hlie with h | h
    ·exact .inl h
    exact .inr (by have := HZ1.out; omega)
   rw [hll];generalize (t.news ++ Nt.tellW (t.N p) q 6).length = ln at *
   clear c7 h2 hv2 hf hlie hll H HF HV1;have H := zh h3; clear h3; have HF := zh hf3; clear hf3; have HLI := zh hlie'; clear hlie'
   go_wp2;go_ret
   exact ⟨_, rfl, H.out, HF.out, HLI.out⟩
  have e : Nt.tellT t a b = (t, 1) := by rw [Nt.tellT, if_pos (fun h => hb h.2)]
  rw [e];clear e
  have H := zh h; clear h; have HR := zh hr; clear hr; have HB := zh hb; clear hb;obtain ⟨a0, a1⟩ := ha
  go_enter Tryz.func136, Tryz.ntmps136
  go_wp2_with fail;refine (Node_yes _ _ a0 a1).mono ?_; rintro e w' ⟨rfl, rfl⟩
  go_wp2_with fail;refine (Node_no _ _ HB.out).mono ?_; rintro e w' ⟨rfl, rfl⟩
  go_wp2;go_ret
  exact NtDo.none H.out (Fr.refl _ _)
 have e : Nt.tellT t a b = (t, 1) := by rw [Nt.tellT, if_pos (fun h => ha h.1)]
 rw [e]
 clear e
 have H := zh h; clear h; have HR := zh hr; clear hr; have HA := zh ha; clear ha
 go_enter Tryz.func136, Tryz.ntmps136
 go_wp2_with fail
 refine (Node_no _ _ HA.out).mono ?_; rintro e w' ⟨rfl, rfl⟩
 go_wp2
 go_ret
 exact NtDo.none H.out (Fr.refl _ _)
def TickRel (x : Ids) (v0 : Value) (a : Int) (bs : List Nat) (r : Nt.NT × Int) (m : Nat) (lv : Value) (w : World) (base : Nat) (i : Value) (wr : World) : Prop :=
 ∃ (j : Nat) (t : Nt.NT) (v : Value), j ≤ bs.length ∧ i = .int .i64 j ∧ Nt.NOk t m ∧ Nt.tellsT t a (bs.drop j) = r ∧ NtAt wr x v t ∧ Fr (Ft x v0) w wr ∧ (∀ g, v.ownBlock = some g → v0.ownBlock = some g ∨ w.heap.size ≤ g) ∧ Sl wr base lv (ints bs)
theorem Ft.grow {x : Ids} {v v0 : Value} {n i : Nat} (h : ∀ g, v.ownBlock = some g → v0.ownBlock = some g ∨ n ≤ g) (hi : Ft x v i) : Ft x v0 i ∨ n ≤ i := by
 rcases hi with hi | hi | hi | hi
 ·exact .inl (.inl hi)
 ·exact .inl (.inr (.inl hi))
 ·exact .inl (.inr (.inr (.inl hi)))
 rcases h i hi with h | h
 ·exact .inl (.inr (.inr (.inr h)))
 exact .inr h
theorem Fr.grow {x : Ids} {v v0 : Value} {w wr w' : World} (h1 : Fr (Ft x v0) w wr) (h : ∀ g, v.ownBlock = some g → v0.ownBlock = some g ∨ w.heap.size ≤ g) (h2 : Fr (Ft x v) wr w') : Fr (Ft x v0) w w' :=
 h1.trans' h2 (fun i hi h' => by rcases Ft.grow h h' with h | h; exact h; omega)
theorem grow_trans {v v' v0 : Value} {n m : Nat} (h : ∀ g, v.ownBlock = some g → v0.ownBlock = some g ∨ n ≤ g) (k : ∀ g, v'.ownBlock = some g → v.ownBlock = some g ∨ m ≤ g) (hm : n ≤ m) : ∀ g, v'.ownBlock = some g → v0.ownBlock = some g ∨ n ≤ g := by
 intro g hg
 rcases k g hg with hg | hg
 ·exact h g hg
 exact .inr (by omega)
theorem Ntick_any (x : Ids) (v : Value) (t : Nt.NT) (a : Int) (m : Nat) (w : World) (hr : Nt.NOk t m) (hm : m ≤ 1000) (h : NtAt w x v t) :
  Calls Tryz.prog 135 #[.pointer (some ⟨x.b, 0, none⟩), .int .i64 a] w (NtDo x v (Nt.tickT t a).1 (Nt.tickT t a).2 w) := by
 by_cases ha : Nt.isN a
 ·obtain ⟨p, rfl⟩ := Int.eq_ofNat_of_zero_le ha.1
  have hp : p < 6 := by have := ha.2; omega
  have e : Nt.tickT t p = Nt.tellsT (Nt.tickOk t p) p (ofL t.C p 6) := by rw [Nt.tickT, if_neg (fun h => h ha), Int.toNat_natCast]
  have hok := hr.tickOk hp
  rw [e];clear e ha
  have c1 := h.cN hp
  have H := zh h; clear h; have HR := zh hr; clear hr; have HOK := zh hok; clear hok;go_enter Tryz.func135, Tryz.ntmps135
  go_wp2_with fail;refine (Node_yes _ _ (by omega) (by omega)).mono ?_; rintro e w' ⟨rfl, rfl⟩
  go_wp2_with fail;refine (Tick_any (x.N p) (t.N p) _ (HR.out.run p hp).ok.me (HR.out.run p hp).lo (by have := (HR.out.run p hp).hi; omega) (H.out.node p hp)).mono ?_
  rintro e w1 ⟨rfl, hn, hf⟩
  have h1 : NtAt w1 x v (Nt.tickOk t p) := H.out.setN hp hn hf
  have hf1 : Fr (Ft x v) w w1 := hf.mono (fun i _ h => .inr (.inr (.inl ⟨p, hp, h⟩)))
  clear c1 hn hf H;have c0 := h1.c0
  have H := zh h1; clear h1; have HF := zh hf1; clear hf1;go_wp2_with fail
  refine (Of_yes x.L p t.C _ hp H.out.links).mono ?_
  rintro e w2 ⟨lv, rfl, hl, hf⟩
  have h2 := H.out.keep0 hf
  have hf2 : Fr (Ft x v) w w2 := HF.out.trans (hf.mono (fun _ _ h => h.elim))
  have hb6 := ofL_le t.C p 6
  generalize ofL t.C p 6 = bs at *;obtain ⟨al, cl, rfl, _⟩ := ownsRow_rd hl
  have hll : (ints bs).length = bs.length := by simp [ints]
  rw [hll];clear c0 hf H HF
  have H := zh h2; clear h2; have HF := zh hf2; clear hf2; have HL := zh hl; clear hl; have HLL := zh hll; clear hll;go_wp2
  go_loopw [25] (fun i wr => TickRel x v p bs (Nt.tellsT (Nt.tickOk t p) p bs) (m + 1) (.slice al bs.length cl) w w1.heap.size i wr) (fun i _ => bs.length - (intOf i).toNat)
  case atStart => exact ⟨0, _, _, by omega, rfl, HOK.out, rfl, H.out, HF.out, fun g hg => .inl hg, by have := HL.out; rw [HLL.out] at this; exact this⟩
  case round =>
   clear H HF HL HOK HR;obtain ⟨j, s, u, hj, rfl, hok, hres, h1, hf, hg, hl⟩ := hrel
   have HOK := zh hok; clear hok; have HRES := zh hres; clear hres; have H := zh h1; clear h1; have HF := zh hf; clear hf; have HG := zh hg; clear hg; have HL := zh hl; clear hl;by_cases hjn : j < bs.length
   ·obtain ⟨g, rfl, cg⟩ := Sl.at HL.out (k := j) (by rw [HLL.out]; exact hjn)
    have hb : (ints bs).getD j 0 = (bs[j] : Nat) := by simp [ints, hjn]
    rw [hb] at cg;have hd : bs.drop j = bs[j] :: bs.drop (j + 1) := List.drop_eq_getElem_cons hjn
    have hr2 := HRES.out
    rw [hd, Nt.tellsT] at hr2;generalize bs[j] = b at *
    clear hb hd;have HR2 := zh hr2; clear hr2
    go_wp2_with fail;refine (Ntell_any x u s p b (m + 1) _ HOK.out H.out).mono ?_
    rintro e w3 ⟨v', rfl, h2, hf, hg⟩
    have hok2 := HOK.out.tellT p b
    have hf2 := HF.out.grow HG.out hf
    have hg2 := grow_trans HG.out hg HF.out.size
    have hl2 : Sl w3 w1.heap.size (.slice (some ⟨g, 0, none⟩) bs.length cl) (ints bs) := own_keep HL.out hf (H.out.own_off HL.out (by decide) (by decide) (by decide) (by decide))
    clear cg hf hg H HF HG HL HOK;by_cases hc : (Nt.tellT s p b).2 = 0
    ·have hr3 := HR2.out
     rw [if_pos hc] at hr3;rw [hc]
     clear hc HR2;have HOK := zh hok2; clear hok2; have HF := zh hf2; clear hf2; have HG := zh hg2; clear hg2; have HL := zh hl2; clear hl2; have H := zh h2; clear h2; have HR3 := zh hr3; clear hr3
     go_wp2;go_roundw
     case rel => exact ⟨j + 1, _, _, by omega, by go_num, HOK.out, HR3.out, H.out, HF.out, HG.out, HL.out⟩
     case measure => simp [intOf]; omega
    have hr3 := HR2.out
    rw [if_neg hc] at hr3;have hcb : ((Nt.tellT s p b).2 != 0) = true := by simp [hc]
    clear hc HR2;have HOK := zh hok2; clear hok2; have HF := zh hf2; clear hf2; have HG := zh hg2; clear hg2; have HL := zh hl2; clear hl2; have H := zh h2; clear h2; have HR3 := zh hr3; clear hr3
    go_wp2;go_ret
    rw [← HR3.out];exact ⟨_, rfl, H.out, HF.out, HG.out⟩
   have hr2 := HRES.out
   rw [List.drop_of_length_le (by omega), Nt.tellsT] at hr2;clear HRES
   have HR2 := zh hr2; clear hr2;go_wp2
   go_ret
   rw [← HR2.out];exact ⟨_, rfl, H.out, HF.out, HG.out⟩
 have e : Nt.tickT t a = (t, 1) := by rw [Nt.tickT, if_pos ha]
 rw [e]
 clear e
 have H := zh h; clear h; have HR := zh hr; clear hr; have HA := zh ha; clear ha
 go_enter Tryz.func135, Tryz.ntmps135
 go_wp2_with fail
 refine (Node_no _ _ HA.out).mono ?_; rintro e w' ⟨rfl, rfl⟩
 go_wp2
 go_ret
 exact NtDo.none H.out (Fr.refl _ _)
theorem run_clear_news (w : World) (ty : TypeId) (b o c : Nat) (hc : ∀ j, j < 5 → (w.cell? ⟨b, o + j, none⟩).isSome = true) (hf : ∀ j, j < 5 → w.frozen? ⟨b, o + j, none⟩ = false) :
  (Builtin.clear_ #[67] ty #[.slice (some ⟨b, o, none⟩) 1 c]).run Tryz.prog w = .ok (.tuple #[]) (w.setCells b o [.int .i64 0, .int .i64 0, .int .i64 0, .int .i64 0, .int .i64 0]) := by
 have hv : ∀ w, (zeroValue 98).run Tryz.prog w = .ok (.agg #[.int .i64 0, .int .i64 0, .int .i64 0, .int .i64 0, .int .i64 0]) w := by intro w; kernel_rfl
 have hst := run_storeCells_cells (P := Tryz.prog) b o [.int .i64 0, .int .i64 0, .int .i64 0, .int .i64 0, .int .i64 0] 0 w (by simpa using hc) (by simpa using hf) (by intro v hv'; simp at hv'; subst hv'; rfl)
 simp only [Nat.add_zero] at hst
 have hzc : (Builtin.zeroCells (Value.agg #[.int .i64 0, .int .i64 0, .int .i64 0, .int .i64 0, .int .i64 0]).cells 1).toList = [.int .i64 0, .int .i64 0, .int .i64 0, .int .i64 0, .int .i64 0] := by kernel_rfl
 have hst' : Sem.run Tryz.prog (storeCells ⟨b, o, none⟩ [.int .i64 0, .int .i64 0, .int .i64 0, .int .i64 0, .int .i64 0]) w = .ok () (w.setCells b o [.int .i64 0, .int .i64 0, .int .i64 0, .int .i64 0, .int .i64 0]) := hst
 simp [Builtin.clear_, run_underlying Tryz.underlying67, hv, hzc]
 rw [hst']
 rfl
def DelPost (g cap n : Nat) (xs : List Int) (i : Nat) (w : World) (e : Ending) (w' : World) : Prop :=
 e = .returned (.slice (some ⟨g, 0, none⟩) (n - 1) cap) ∧ SlN w' 0 (.slice (some ⟨g, 0, none⟩) (n - 1) cap) (n - 1) (xs.take (i * 5) ++ xs.drop ((i + 1) * 5)) ∧ Fr (OneB g) w w'
theorem Delete_any (g cap n i : Nat) (xs : List Int) (w : World) (hi : i < n) (hn : n ≤ 1000) (h : SlN w 0 (.slice (some ⟨g, 0, none⟩) n cap) n xs) :
  Calls Tryz.prog 168 #[.slice (some ⟨g, 0, none⟩) n cap, .int .i64 i, .int .i64 (i + 1 : Nat)] w (DelPost g cap n xs i w) := by
 obtain ⟨hnc, hcm, _, f, hrow, hx⟩ := own_row h
 have hlen := h.1
 have hcm' : cap ≤ 9223372036854775807 := by unfold maxLen at hcm; omega
 clear h hcm
 obtain ⟨m, hm⟩ : ∃ m, m = n - (i + 1) := ⟨_, rfl⟩
 obtain ⟨news, hnews⟩ : ∃ news, news = (xs.map (Value.int .i64)).drop ((i + 1) * 5) := ⟨_, rfl⟩
 have hnl : news.length = m * 5 := by rw [hnews, List.length_drop, hlen]; omega
 have hget : ∀ t, t < m * 5 → news[t]? = some (f ((i + 1) * 5 + t)) := by
  intro t ht;rw [hnews, List.getElem?_drop, hx _ (by omega)]
 have h1c : ∀ u ∈ news, u.oneCell' = true := by
  intro u hu;rw [hnews] at hu
  obtain ⟨y, _, rfl⟩ := List.mem_map.1 (List.mem_of_mem_drop hu)
  rfl
 obtain ⟨A, hA, hsrc⟩ : ∃ A : Addr, (if cap = i + 1 then some (⟨g, 0, none⟩ : Addr) else some ⟨g, (i + 1) * 5, none⟩) = some A ∧ Hid (∀ t u, news[t]? = some u → w.drew.cell? (A.add t) = some u) := by
  by_cases hci : cap = i + 1
  ·refine ⟨⟨g, 0, none⟩, by simp [hci], fun t u hu => ?_⟩
   have h0 : news.length = 0 := by rw [hnl]; omega
   rw [List.length_eq_zero_iff.1 h0] at hu;simp at hu
  refine ⟨⟨g, (i + 1) * 5, none⟩, by simp [hci], fun t u hu => ?_⟩
  have ht : t < m * 5 := by
   have := (List.getElem?_eq_some_iff.1 hu).1
   rwa [hnl] at this
  rw [hget t ht] at hu;have := rC (World.rowIs.drew hrow) (i := (i + 1) * 5 + t) (by omega)
  rw [Option.some.inj hu] at this;have ea : (⟨g, (i + 1) * 5, none⟩ : Addr).add t = ⟨g, (i + 1) * 5 + t, none⟩ := by unfold Addr.add; split <;> simp_all
  rw [ea]; exact this
 have hspare : Hid (∀ j, j < news.length → (w.drew.cell? ⟨g, 0 + i * 5 + j, none⟩).isSome = true ∧ w.drew.frozen? ⟨g, 0 + i * 5 + j, none⟩ = false) := by
  intro j hj;rw [hnl] at hj
  have := rC (World.rowIs.drew hrow) (i := 0 + i * 5 + j) (by omega)
  exact ⟨by rw [this]; rfl, rF (World.rowIs.drew hrow) _⟩
 obtain ⟨W1, hW1⟩ : ∃ W1, W1 = w.drew.setCells g (0 + i * 5) news := ⟨_, rfl⟩
 have hrow1 := rowIs_setCells news (0 + i * 5) _ _ (World.rowIs.drew hrow)
 rw [← hW1] at hrow1
 have hf1 : Fr (OneB g) w W1 := by rw [hW1]; exact Fr.setCells (S := OneB g) (show OneB g g from rfl) _ _ (Fr.refl _ _).drew
 have hcl : ∀ ty, (Builtin.clear_ #[67] ty #[.slice (some ⟨g, (i + m) * 5, none⟩) (n - (i + m)) (cap - (i + m))]).run Tryz.prog W1 = .ok (.tuple #[]) (W1.setCells g ((i + m) * 5) [.int .i64 0, .int .i64 0, .int .i64 0, .int .i64 0, .int .i64 0]) := by
  intro ty;rw [show n - (i + m) = 1 from by omega]
  exact run_clear_news W1 ty g _ _ (fun j hj => by rw [rC hrow1 (i := (i + m) * 5 + j) (by omega)]; rfl) (fun j hj => rF hrow1 _)
 have hrow2 := rowIs_setCells [.int .i64 0, .int .i64 0, .int .i64 0, .int .i64 0, .int .i64 0] ((i + m) * 5) _ _ hrow1
 have hf2 : Fr (OneB g) w (W1.setCells g ((i + m) * 5) [.int .i64 0, .int .i64 0, .int .i64 0, .int .i64 0, .int .i64 0]) := Fr.setCells (S := OneB g) (show OneB g g from rfl) _ _ hf1
 have hfin : SlN (W1.setCells g ((i + m) * 5) [.int .i64 0, .int .i64 0, .int .i64 0, .int .i64 0, .int .i64 0]) 0 (.slice (some ⟨g, 0, none⟩) (n - 1) cap) (n - 1) (xs.take (i * 5) ++ xs.drop ((i + 1) * 5)) := by
  have hxl : xs.length = n * 5 := by simpa using hlen
  refine row_own hrow2 (Nat.zero_le _) (by omega) (by unfold maxLen; omega) (by rw [List.length_map, List.length_append, List.length_take, List.length_drop]; omega) (fun k hk => ?_)
  rw [if_neg (by omega)];by_cases hki : k < i * 5
  ·rw [if_neg (by omega), List.map_append, List.getElem?_append_left (by simp; omega), List.map_take, List.getElem?_take, if_pos hki, hx k (by omega)]
  rw [if_pos (by omega), List.map_append, List.getElem?_append_right (by simp; omega), List.map_drop, ← hnews, List.length_map, List.length_take, Nat.min_eq_left (by omega), hget _ (by omega)]
  have := hget (k - (0 + i * 5)) (by omega)
  rw [List.getD_eq_getElem?_getD, this, show (i + 1) * 5 + (k - i * 5) = (i + 1) * 5 + (k - (0 + i * 5)) from by omega];rfl
 have hW : Hid (W1 = w.drew.setCells g (0 + i * 5) news) := hW1
 have hic : i ≤ cap := by omega
 have hjc : i + 1 ≤ cap := by omega
 have him : i + m = n - 1 := by omega
 obtain ⟨i0, hi0, hz0, hz1, hz2⟩ := info_parts Tryz.info98
 have HI0 := zh hi0; clear hi0
 have HNL := zh hnl; have HSP := hspare
 have H1C := zh h1c; clear h1c; have HFIN := zh hfin; clear hfin; have HF2 := zh hf2; clear hf2; have HIM := zh him; clear him
 clear hW1 hrow1 hrow2 hget hnews hnl hx hrow hlen hspare hf1
 have hj1 : (i : Int) + 1 ≤ (n : Int) := by omega
 have hj0 : (0 : Int) ≤ (i : Int) + 1 := by omega
 subst hm
 go_enter Tryz.func168, Tryz.ntmps168
 go_wp2_with fail
 go_region_law (refine step_append_room rfl (.tmp 22) (.tmp 25) 67 rfl 98 i0 5 Tryz.underlying67 HI0.out hz1 g 0 i cap (by simp [Act.eval, Act.put]) A (n - (i + 1)) (cap - (i + 1)) news (by simp [Act.eval, Act.put]) HNL.out hsrc.out H1C.out (by omega) HSP.out ?_; rw [← hW.out])
 go_wp2
 go_ret
 exact ⟨by rw [HIM.out]; rfl, HFIN.out, HF2.out⟩
theorem news_cells {w : World} {base : Nat} {av : Option Addr} {n cv : Nat} {l : List Nt.Nw} (h : SlN w base (.slice av n cv) n (nwI l)) {k : Nat} (hk : k < l.length) :
  ∃ g, av = some ⟨g, 0, none⟩ ∧ w.cell? ⟨g, k * 5, none⟩ = some (.int .i64 (nwGet l k).a) ∧ w.cell? ⟨g, k * 5 + 1, none⟩ = some (.int .i64 (nwGet l k).g) ∧ w.cell? ⟨g, k * 5 + 2, none⟩ = some (.int .i64 (nwGet l k).t) ∧ w.cell? ⟨g, k * 5 + 3, none⟩ = some (.int .i64 (nwGet l k).q) ∧ w.cell? ⟨g, k * 5 + 4, none⟩ = some (.int .i64 (nwGet l k).d) := by
 obtain ⟨a, cap, he, hr, _, _, _, _, hp⟩ := ownsRow_rd h
 cases he
 have hl := h.1
 rw [List.length_map, nwI_len] at hl
 obtain ⟨e0, e1, e2, e3, e4⟩ := nwI_at l k hk
 obtain ⟨b, o, rfl, c0⟩ := hr (k * 5) (by omega)
 have ho := hp _ rfl
 simp only [Addr.mk.injEq] at ho
 obtain ⟨_, rfl, _⟩ := ho
 obtain ⟨b1, o1, x1, c1⟩ := hr (k * 5 + 1) (by omega)
 obtain ⟨b2, o2, x2, c2⟩ := hr (k * 5 + 2) (by omega)
 obtain ⟨b3, o3, x3, c3⟩ := hr (k * 5 + 3) (by omega)
 obtain ⟨b4, o4, x4, c4⟩ := hr (k * 5 + 4) (by omega)
 cases x1; cases x2; cases x3; cases x4
 rw [Nat.zero_add] at c0 c1 c2 c3 c4
 dsimp only at c0 c1 c2 c3 c4
 rw [e0] at c0
 rw [e1] at c1
 rw [e2] at c2
 rw [e3] at c3
 rw [e4] at c4
 exact ⟨b, rfl, c0, c1, c2, c3, c4⟩
def nw5 (x : Nt.Nw) : Value := .agg #[.int .i64 x.a, .int .i64 x.g, .int .i64 x.t, .int .i64 x.q, .int .i64 x.d]
def TakeNo (w : World) (e : Ending) (w' : World) : Prop := e = .returned (.tuple #[nw5 ⟨0, 0, 0, 0, 0⟩, .int .i64 6]) ∧ Fr NoB w w'
def TakeYes (x : Ids) (v : Value) (t : Nt.NT) (k : Nat) (w : World) (e : Ending) (w' : World) : Prop :=
 ∃ v', e = .returned (.tuple #[nw5 (Nt.nwAt t k), .int .i64 0]) ∧ NtAt w' x v' (Nt.lost t k) ∧ Fr (Ft x v) w w' ∧ ∀ g, v'.ownBlock = some g → v.ownBlock = some g
theorem take_no (x : Ids) (v : Value) (t : Nt.NT) (k : Int) (w : World) (ho : Nt.out t k) (h : NtAt w x v t) :
  Calls Tryz.prog 137 #[.pointer (some ⟨x.b, 0, none⟩), .int .i64 k] w (TakeNo w) := by
 have c7 := h.c7
 have hbl := h.lt (.inl rfl)
 obtain ⟨av, cv, rfl, j⟩ := ownsRow_rd h.news
 clear h j
 by_cases h0 : k < 0
 ·clear ho;go_enter Tryz.func137, Tryz.ntmps137
  go_wp2;refine bodyPost_ret (v := .tuple #[nw5 ⟨0, 0, 0, 0, 0⟩, .int .i64 6]) ?_ rfl ⟨rfl, (Fr.refl _ _).alloc _⟩
  simp [results, Tryz.results137, go_sem, nw5]
 have h1 : (t.news.length : Int) ≤ k := by unfold Nt.out at ho; omega
 clear ho
 go_enter Tryz.func137, Tryz.ntmps137
 go_wp2
 refine bodyPost_ret (v := .tuple #[nw5 ⟨0, 0, 0, 0, 0⟩, .int .i64 6]) ?_ rfl ⟨rfl, (Fr.refl _ _).alloc _⟩
 simp [results, Tryz.results137, go_sem, nw5]
theorem take_yes (x : Ids) (v : Value) (t : Nt.NT) (k : Nat) (w : World) (hk : k < t.news.length) (hl : t.news.length ≤ 40) (h : NtAt w x v t) :
  Calls Tryz.prog 137 #[.pointer (some ⟨x.b, 0, none⟩), .int .i64 k] w (TakeYes x v t k w) := by
 have c7 := h.c7
 have hbl := h.lt (.inl rfl)
 obtain ⟨av, cv, rfl, j⟩ := ownsRow_rd h.news
 clear j
 obtain ⟨g, rfl, d0, d1, d2, d3, d4⟩ := news_cells h.news hk
 have hki : (k : Int) < (t.news.length : Int) := by omega
 have hnw : nwGet t.news k = Nt.nwAt t k := rfl
 rw [hnw] at d0 d1 d2 d3 d4
 have hob : (Value.slice (some ⟨g, 0, none⟩) t.news.length cv).ownBlock = some g := rfl
 have hgl := h.lt (.inr (.inr (.inr hob)))
 have hsum := IntWalk.i64_in ((k : Int) + 1) (by omega)
 have H := zh h; clear h; have HL := zh hl; clear hl
 clear hnw hob
 go_enter Tryz.func137, Tryz.ntmps137
 go_upto_region 4 with fail
 refine wp_name fun w1 hw1 => ?_
 have hf : Fr NoB w w1 := by rw [hw1]; exact ((Fr.refl _ _).alloc _).alloc _
 have hr0 : w1.rowIs w.heap.size 98 5 (fun _ => .int .i64 0) := by rw [hw1]; exact World.rowIs.alloc (rowIs_new w 5 (.int .i64 0) 98) _
 have b0 : w1.cell? ⟨w.heap.size + 1, 0, none⟩ = some (.int .i64 (Nt.nwAt t k).a) := by rw [hw1]; simp
 have b1 : w1.cell? ⟨w.heap.size + 1, 1, none⟩ = some (.int .i64 (Nt.nwAt t k).g) := by rw [hw1]; simp
 have b2 : w1.cell? ⟨w.heap.size + 1, 2, none⟩ = some (.int .i64 (Nt.nwAt t k).t) := by rw [hw1]; simp
 have b3 : w1.cell? ⟨w.heap.size + 1, 3, none⟩ = some (.int .i64 (Nt.nwAt t k).q) := by rw [hw1]; simp
 have b4 : w1.cell? ⟨w.heap.size + 1, 4, none⟩ = some (.int .i64 (Nt.nwAt t k).d) := by rw [hw1]; simp
 have h1 := H.out.keep0 hf
 have c7 := h1.c7
 have hpp : ∀ i, Ft x (.slice (some ⟨g, 0, none⟩) t.news.length cv) i → i < w.heap.size := fun i hi => H.out.lt hi
 clear hw1 H d0 d1 d2 d3 d4 hgl
 generalize hp0 : w.heap.size = p0 at *
 generalize hp1 : p0 + 1 = p1 at *
 have hp01 : p0 < p1 := by omega
 have hzz : w.heap.size ≤ p0 := by omega
 have hzz1 : w.heap.size ≤ p1 := by omega
 clear hp0 hp1
 have H := zh h1; clear h1; have HF := zh hf; clear hf; have HR0 := zh hr0; clear hr0; have HPP := zh hpp; clear hpp; have HP01 := zh hp01; clear hp01; have HZZ := zh hzz; clear hzz
 go_wp2_with fail
 refine (Delete_any g cv t.news.length k (nwI t.news) _ hk (by have := HL.out; omega) H.out.news).mono ?_
 rintro e w2 ⟨rfl, hn, hf⟩
 have hob : (Value.slice (some ⟨g, 0, none⟩) t.news.length cv).ownBlock = some g := rfl
 have hgp := HPP.out g (.inr (.inr (.inr hob)))
 have hp01 := HP01.out
 have hbp := HPP.out x.b (.inl rfl)
 have hfv : Fr (fun i => (Value.slice (some ⟨g, 0, none⟩) t.news.length cv).ownBlock = some i) w1 w2 := hf.mono (fun i _ h => by unfold OneB at h; subst h; rfl)
 have hlen : (t.news.take k ++ t.news.drop (k + 1)).length = t.news.length - 1 := by rw [List.length_append, List.length_take, List.length_drop]; omega
 have hn' : SlN w2 0 (.slice (some ⟨g, 0, none⟩) (t.news.length - 1) cv) (t.news.take k ++ t.news.drop (k + 1)).length (nwI (t.news.take k ++ t.news.drop (k + 1))) := by
  rw [hlen, nwI_app, ← nwI_take, ← nwI_drop]; exact hn
 have h2 : NtAt (w2.setCell ⟨x.b, 7, none⟩ (.slice (some ⟨g, 0, none⟩) (t.news.length - 1) cv)) x (.slice (some ⟨g, 0, none⟩) (t.news.length - 1) cv) (Nt.lost t k) := H.out.setV hn' hfv
 have hff : Fr (Ft x (.slice (some ⟨g, 0, none⟩) t.news.length cv)) w (w2.setCell ⟨x.b, 7, none⟩ (.slice (some ⟨g, 0, none⟩) (t.news.length - 1) cv)) :=
  (HF.out.mono (fun _ _ h => h.elim)).trans ((hfv.mono (fun _ _ h => .inr (.inr (.inr h)))).setCell (p := ⟨x.b, 7, none⟩) (.inl (.inl rfl)) _)
 have hfs : Fr (OneB x.b) w2 (w2.setCell ⟨x.b, 7, none⟩ (.slice (some ⟨g, 0, none⟩) (t.news.length - 1) cv)) := (Fr.refl _ _).set1 _ _
 have q7 := cell_fr hf c7 (fun e : x.b = g => H.out.bv (by rw [e]; rfl))
 have qf : w2.frozen? ⟨x.b, 7, none⟩ = false := rF (hfv.row H.out.net H.out.bv) 7
 have k0 := cell_fr hfs (cell_fr hf b0 (fun e : p1 = g => by omega)) (fun e : p1 = x.b => by omega)
 have k1 := cell_fr hfs (cell_fr hf b1 (fun e : p1 = g => by omega)) (fun e : p1 = x.b => by omega)
 have k2 := cell_fr hfs (cell_fr hf b2 (fun e : p1 = g => by omega)) (fun e : p1 = x.b => by omega)
 have k3 := cell_fr hfs (cell_fr hf b3 (fun e : p1 = g => by omega)) (fun e : p1 = x.b => by omega)
 have k4 := cell_fr hfs (cell_fr hf b4 (fun e : p1 = g => by omega)) (fun e : p1 = x.b => by omega)
 have hr := hfs.row (hf.row HR0.out (fun e : p0 = g => by omega)) (fun e : p0 = x.b => by omega)
 have hpo : ∀ i, Ft x (.slice (some ⟨g, 0, none⟩) (t.news.length - 1) cv) i → i ≠ p0 := by
  intro i hi e;subst e
  have hlt : i < i := by
   rcases hi with hi | hi | hi | hi
   ·exact HPP.out i (.inl hi)
   ·exact HPP.out i (.inr (.inl hi))
   ·exact HPP.out i (.inr (.inr (.inl hi)))
   exact HPP.out i (.inr (.inr (.inr hi)))
  omega
 clear hn hf hfv hlen hn' hfs c7 b0 b1 b2 b3 b4 H HF HR0 HPP hob hgp hbp hp01
 have H := zh h2; clear h2; have HF := zh hff; clear hff; have HR := zh hr; clear hr; have HPO := zh hpo; clear hpo
 go_upto_region 5 with fail
 refine wp_name fun w3 hw3 => ?_
 rw [← hw3] at k0 k1 k2 k3 k4
 have h3 := H.out
 rw [← hw3] at h3
 have hf3 := HF.out
 rw [← hw3] at hf3
 have hr3 := HR.out
 rw [← hw3] at hr3
 have z0 := rC hr3 (i := 0) (by omega)
 have z1 := rC hr3 (i := 1) (by omega)
 have z2 := rC hr3 (i := 2) (by omega)
 have z3 := rC hr3 (i := 3) (by omega)
 have z4 := rC hr3 (i := 4) (by omega)
 have y0 := rF hr3 0
 have y1 := rF hr3 1
 have y2 := rF hr3 2
 have y3 := rF hr3 3
 have y4 := rF hr3 4
 clear H HF HR hw3 q7 qf
 have H := zh h3; clear h3; have HF := zh hf3; clear hf3; have HR3 := zh hr3; clear hr3
 go_wp2
 refine bodyPost_ret (v := .tuple #[nw5 (Nt.nwAt t k), .int .i64 0]) ?_ rfl ⟨_, rfl, H.out.keep (S := OneB p0) (((((Fr.refl _ _).set1 _ _).set1 _ _).set1 _ _).set1 _ _ |>.set1 _ _) HPO.out, (HF.out.setNew HZZ.out _ _).setNew HZZ.out _ _ |>.setNew HZZ.out _ _ |>.setNew HZZ.out _ _ |>.setNew HZZ.out _ _, fun g' hg' => hg'⟩
 have hR := World.rowIs.set (World.rowIs.set (World.rowIs.set (World.rowIs.set (World.rowIs.set HR3.out 0 (.int .i64 (Nt.nwAt t k).a)) 1 (.int .i64 (Nt.nwAt t k).g)) 2 (.int .i64 (Nt.nwAt t k).t)) 3 (.int .i64 (Nt.nwAt t k).q)) 4 (.int .i64 (Nt.nwAt t k).d)
 have s0 := rC hR (i := 0) (by omega)
 have s1 := rC hR (i := 1) (by omega)
 have s2 := rC hR (i := 2) (by omega)
 have s3 := rC hR (i := 3) (by omega)
 have s4 := rC hR (i := 4) (by omega)
 clear hR
 generalize ((((w3.setCell ⟨p0, 0, none⟩ (.int .i64 (Nt.nwAt t k).a)).setCell ⟨p0, 1, none⟩ (.int .i64 (Nt.nwAt t k).g)).setCell ⟨p0, 2, none⟩ (.int .i64 (Nt.nwAt t k).t)).setCell ⟨p0, 3, none⟩ (.int .i64 (Nt.nwAt t k).q)).setCell ⟨p0, 4, none⟩ (.int .i64 (Nt.nwAt t k).d) = W5 at *
 simp at s0 s1 s2 s3 s4
 simp [results, Tryz.results137, go_sem, nw5, s0, s1, s2, s3, s4]
end Go.Proofs.YtffoilacaffdgaaGreatDoor
