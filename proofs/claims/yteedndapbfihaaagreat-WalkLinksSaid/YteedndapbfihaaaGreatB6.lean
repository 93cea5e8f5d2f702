/- Walks over package node: Link, Hear, Tick, Way, Best, New. -/
import Derived.Test.YteedndapbfihaaaGreatB5
import Derived.Test.YteedndapbfihaaaGreatB3
import Derived.StillTailTactics
import Derived.Deep.AppendLies
import Derived.Deep.RegionHeld3
import Derived.Deep.MidRow
namespace Go.Proofs.YteedndapbfihaaaGreat
open Go.RowKit Go.Deep

def CodeFr (b : Nat) (t : TypeId) (s : Nd.NS) (c : Int) (w : World) (e : Ending) (w' : World) : Prop := e = .returned (.int .i64 c) ∧ NAt w' b t s ∧ Fr (OneB b) w w'

set_option maxRecDepth 100000 in
set_option maxHeartbeats 1000000 in
theorem Link_ok (b who : Nat) (c : Int) (s : Nd.NS) (w : World) (ok : Nd.Ok s) (hw : who < 6) (hm : who ≠ s.me) (h0 : 0 ≤ c) (h1 : c ≤ 15) (hn : NAt w b 136 s) :
    Calls Tryz.prog 107 #[.pointer (some ⟨b, 0, none⟩), .int .i64 who, .int .i64 c] w (CodeFr b 136 (Nd.link s who c) 0 w) := by
  have c0 := hn.me
  have c1 := hn.cost hw
  have f1 := hn.fz (1 + who)
  have hb : ((who : Int) == (s.me : Int)) = false := by simp; omega
  have HN := Lib.hid hn; clear hn; have HM := Lib.hid hm; clear hm
  by_cases hz : c = 0
  · subst hz
    have hl : Nd.link s who 0 = Nd.all (Nd.forget { s with cost := Nd.up s.cost who 0 } who) 6 := rfl
    have HL := Lib.hid hl; clear hl
    go_enter Tryz.func107, Tryz.ntmps107
    go_wp2_with fail
    refine (Node_yes _ _ (by omega) (by omega)).mono ?_; rintro e w' ⟨rfl, rfl⟩
    go_wp2_with fail
    refine (forget_any b who { s with cost := Nd.up s.cost who 0 } _ hw (HN.out.setC hw 0)).mono ?_
    rintro e w2 ⟨rfl, hn2, hf2⟩
    have hf3 : Fr (OneB b) w w2 := ((Fr.refl _ w).set1 _ _).trans hf2
    clear hf2 c0 c1 f1
    have HN2 := Lib.hid hn2; clear hn2; have HF2 := Lib.hid hf3; clear hf3
    go_wp2_with fail
    refine (all_any b _ _ (Nd.Ok.forget (Nd.Ok.cost' ok who 0 (by omega) (by omega)) who) HN2.out).mono ?_
    rintro e w3 ⟨rfl, hn3, hf3⟩
    have hf4 := HF2.out.trans hf3
    clear hf3
    have HN3 := Lib.hid hn3; clear hn3; have HF3 := Lib.hid hf4; clear hf4
    go_wp2
    go_ret
    exact ⟨rfl, by rw [HL.out]; exact HN3.out, HF3.out⟩
  · have hl : Nd.link s who c = Nd.all { s with cost := Nd.up s.cost who c } 6 := by simp [Nd.link, hz]
    have hzb : (c == 0) = false := by simpa using hz
    have HL := Lib.hid hl; clear hl; have HZ := Lib.hid hz; clear hz
    go_enter Tryz.func107, Tryz.ntmps107
    go_wp2_with fail
    refine (Node_yes _ _ (by omega) (by omega)).mono ?_; rintro e w' ⟨rfl, rfl⟩
    go_wp2_with fail
    refine (all_any b _ _ (Nd.Ok.cost' ok who c (by omega) (by omega)) (HN.out.setC hw c)).mono ?_
    rintro e w3 ⟨rfl, hn3, hf3⟩
    have hf4 : Fr (OneB b) w w3 := ((Fr.refl _ w).set1 _ _).trans hf3
    clear hf3 c0 c1 f1
    have HN3 := Lib.hid hn3; clear hn3; have HF3 := Lib.hid hf4; clear hf4
    go_wp2
    go_ret
    exact ⟨rfl, by rw [HL.out]; exact HN3.out, HF3.out⟩

set_option maxRecDepth 100000 in
set_option maxHeartbeats 1000000 in
theorem Link_no (b : Nat) (who c : Int) (s : Nd.NS) (w : World) (h : Nd.linkBad s who c) (hn : NAt w b 136 s) :
    Calls Tryz.prog 107 #[.pointer (some ⟨b, 0, none⟩), .int .i64 who, .int .i64 c] w fun e w' => e = .returned (.int .i64 1) ∧ w = w' := by
  have c0 := hn.me
  clear hn
  by_cases hw : 0 ≤ who ∧ who < 6
  · obtain ⟨hw0, hw1⟩ := hw
    by_cases hm : who = s.me
    · have hb : (who == (s.me : Int)) = true := by simp [hm]
      clear h hm
      go_enter Tryz.func107, Tryz.ntmps107
      go_wp2_with fail
      refine (Node_yes _ _ hw0 hw1).mono ?_; rintro e w' ⟨rfl, rfl⟩
      go_wp2
      go_ret
      exact ⟨rfl, rfl⟩
    · have hb : (who == (s.me : Int)) = false := by simpa using hm
      by_cases hc : c < 0
      · clear h hm
        go_enter Tryz.func107, Tryz.ntmps107
        go_wp2_with fail
        refine (Node_yes _ _ hw0 hw1).mono ?_; rintro e w' ⟨rfl, rfl⟩
        go_wp2
        go_ret
        exact ⟨rfl, rfl⟩
      · have hc0 : 0 ≤ c := by omega
        have hc1 : 15 < c := by
          rcases h with h | h | h | h
          · exact absurd ⟨hw0, hw1⟩ h
          · exact absurd h hm
          · exact absurd h hc
          · exact h
        clear h hm hc
        go_enter Tryz.func107, Tryz.ntmps107
        go_wp2_with fail
        refine (Node_yes _ _ hw0 hw1).mono ?_; rintro e w' ⟨rfl, rfl⟩
        go_wp2
        go_ret
        exact ⟨rfl, rfl⟩
  · have HW := Lib.hid hw; clear hw h
    go_enter Tryz.func107, Tryz.ntmps107
    go_wp2_with fail
    refine (Node_no _ _ HW.out).mono ?_; rintro e w' ⟨rfl, rfl⟩
    go_wp2
    go_ret
    exact ⟨rfl, rfl⟩

theorem Link_any (b : Nat) (who c : Int) (s : Nd.NS) (w : World) (ok : Nd.Ok s) (hn : NAt w b 136 s) :
    Calls Tryz.prog 107 #[.pointer (some ⟨b, 0, none⟩), .int .i64 who, .int .i64 c] w (CodeFr b 136 (Nd.linkC s who c).1 (Nd.linkC s who c).2 w) := by
  by_cases h : Nd.linkBad s who c
  · have e : Nd.linkC s who c = (s, 1) := by rw [Nd.linkC, if_pos h]
    rw [e]
    refine (Link_no b who c s w h hn).mono ?_
    rintro e w' ⟨rfl, rfl⟩
    exact ⟨rfl, hn, Fr.refl _ _⟩
  · have e : Nd.linkC s who c = (Nd.link s who.toNat c, 0) := by rw [Nd.linkC, if_neg h]
    rw [e]
    simp only [Nd.linkBad] at h
    obtain ⟨x, rfl⟩ := Int.eq_ofNat_of_zero_le (a := who) (by omega)
    rw [Int.toNat_natCast]
    exact Link_ok b x c s w ok (by omega) (by omega) (by omega) (by omega) hn

set_option maxRecDepth 100000 in
set_option maxHeartbeats 1000000 in
theorem Tick_any (b : Nat) (s : Nd.NS) (w : World) (hm : s.me < 6) (h0 : 0 ≤ s.wS s.me) (h1 : s.wS s.me < 1000000) (hn : NAt w b 136 s) :
    Calls Tryz.prog 61 #[.pointer (some ⟨b, 0, none⟩)] w (NilFr b 136 (Nd.tick s) w) := by
  have c0 := hn.me
  have c1 := hn.wS hm
  have f1 := hn.fz (79 + s.me * 3)
  have hmi : (s.me : Int) < 6 := by omega
  have hsum := IntWalk.i64_in (s.wS s.me + 1) (by omega)
  have HN := Lib.hid hn; clear hn
  go_enter Tryz.func61, Tryz.ntmps61
  go_wp2
  (refine still_tail 15 (by kernel_rfl) (by kernel_rfl) ?_; simp only [List.take_succ_cons, List.take_zero, List.drop_succ_cons, List.drop_zero]; (iterate 15 (refine wpStill_step (fun K hK => ?_); go_simp; (with_reducible refine hK _ ?_); clear hK K)); refine wpStill_nil ?_)
  go_wp2_with fail
  refine (own_any b { s with wS := Nd.up s.wS s.me (s.wS s.me + 1) } _ hm (World.rowIs.drew (NAt.set HN.out _ _ (fun j _ => Nd.set_wS s hm (s.wS s.me + 1) j)))).mono ?_
  rintro e w2 ⟨rfl, hn2, hf2⟩
  have hf3 : Fr (OneB b) w w2 := ((Fr.refl _ w).set1 _ _).drew.trans hf2
  clear hf2 c0 c1 f1
  have HN2 := Lib.hid hn2; clear hn2; have HF2 := Lib.hid hf3; clear hf3
  go_wp2
  refine bodyPost_end (results_none rfl _ _ _) rfl ?_
  exact ⟨rfl, HN2.out, HF2.out⟩

def way3 (x : Nd.Way) : Value := .agg #[.int .i64 x.seq, .int .i64 x.dist, .int .i64 x.hop]
def WayFr (x : Nd.Way) (w : World) (e : Ending) (w' : World) : Prop := e = .returned (way3 x) ∧ Fr NoB w w'

set_option maxHeartbeats 1000000 in
theorem Way_any (b : Nat) (k : Int) (s : Nd.NS) (w : World) (hn : NAt w b 136 s) :
    Calls Tryz.prog 52 #[.pointer (some ⟨b, 0, none⟩), .int .i64 k] w (WayFr (Nd.wayAt s k) w) := by
  by_cases h : 0 ≤ k ∧ k < 6
  · obtain ⟨x, rfl⟩ := Int.eq_ofNat_of_zero_le h.1
    have hx : x < 6 := by omega
    have hw : Nd.wayAt s (x : Int) = Nd.wayOf s x := by rw [Nd.wayAt, if_pos h, Int.toNat_natCast]
    have c0 := hn.wS hx
    have c1 := hn.wD hx
    have c2 := hn.wH hx
    have hl := hn.lt
    clear hn h
    have HW := Lib.hid hw; clear hw
    go_enter Tryz.func52, Tryz.ntmps52
    go_wp2_with fail
    refine (Node_yes _ _ (by omega) (by omega)).mono ?_; rintro e w' ⟨rfl, rfl⟩
    go_wp2
    refine bodyPost_ret (v := way3 (Nd.wayOf s x)) ?_ rfl ⟨by rw [HW.out], (Fr.refl _ _).alloc _⟩
    simp [results, Tryz.results52, go_sem, way3, Nd.wayOf]
  · have hw : Nd.wayAt s k = Nd.noWay := by rw [Nd.wayAt, if_neg h]
    clear hn
    have HW := Lib.hid hw; clear hw; have H := Lib.hid h; clear h
    go_enter Tryz.func52, Tryz.ntmps52
    go_wp2_with fail
    refine (Node_no _ _ H.out).mono ?_; rintro e w' ⟨rfl, rfl⟩
    go_wp2
    refine bodyPost_ret (v := way3 Nd.noWay) ?_ rfl ⟨by rw [HW.out], (Fr.refl _ _).alloc _⟩
    simp [results, Tryz.results52, go_sem, way3, Nd.noWay]

end Go.Proofs.YteedndapbfihaaaGreat
/- Walks over package node: Hear, New. -/
namespace Go.Proofs.YteedndapbfihaaaGreat
open Go.RowKit Go.Deep

def news5 (f r t q d : Int) : Value := .agg #[.int .i64 f, .int .i64 r, .int .i64 t, .int .i64 q, .int .i64 d]
theorem Node_q (n : Int) (w : World) : Calls Tryz.prog 43 #[.int .i64 n] w fun e w' => e = .returned (.bool (isNode n)) ∧ w' = w :=
  (Node_any n w).mono fun _ _ h => ⟨h.1, h.2.symm⟩
theorem isNode_yes {n : Int} (h : 0 ≤ n ∧ n < 6) : isNode n = true := by simp [isNode, h]
theorem isNode_no {n : Int} (h : ¬ (0 ≤ n ∧ n < 6)) : isNode n = false := by simp only [isNode, h, decide_false]

set_option maxRecDepth 100000 in
set_option maxHeartbeats 2000000 in
theorem Hear_bad (b : Nat) (f r t q d : Int) (s : Nd.NS) (w : World) (h : Nd.hearBad s f t q d) (hn : NAt w b 136 s) :
    Calls Tryz.prog 64 #[.pointer (some ⟨b, 0, none⟩), news5 f r t q d] w (CodeFr b 136 s 1 w) := by
  have hl := hn.lt
  have H : (isNode f = false) ∨ (isNode f = true ∧ isNode t = false) ∨ (isNode f = true ∧ isNode t = true ∧ (f == (s.me : Int)) = true) ∨ (isNode f = true ∧ isNode t = true ∧ (f == (s.me : Int)) = false ∧ decide (q < 0) = true) ∨ (isNode f = true ∧ isNode t = true ∧ (f == (s.me : Int)) = false ∧ decide (q < 0) = false ∧ decide (d < 0) = true) ∨ (isNode f = true ∧ isNode t = true ∧ (f == (s.me : Int)) = false ∧ decide (q < 0) = false ∧ decide (d < 0) = false ∧ decide (200 < d) = true) := by
    by_cases h1 : 0 ≤ f ∧ f < 6
    · by_cases h2 : 0 ≤ t ∧ t < 6
      · by_cases h3 : f = s.me
        · exact .inr (.inr (.inl ⟨isNode_yes h1, isNode_yes h2, by simpa using h3⟩))
        · by_cases h4 : q < 0
          · exact .inr (.inr (.inr (.inl ⟨isNode_yes h1, isNode_yes h2, by simpa using h3, by simpa using h4⟩)))
          · by_cases h5 : d < 0
            · exact .inr (.inr (.inr (.inr (.inl ⟨isNode_yes h1, isNode_yes h2, by simpa using h3, by simpa using h4, by simpa using h5⟩))))
            · exact .inr (.inr (.inr (.inr (.inr ⟨isNode_yes h1, isNode_yes h2, by simpa using h3, by simpa using h4, by simpa using h5, by simp only [Nd.hearBad] at h; simp; omega⟩))))
      · exact .inr (.inl ⟨isNode_yes h1, isNode_no h2⟩)
    · exact .inl (isNode_no h1)
  have c0 := hn.me
  have HN := Lib.hid hn; clear hn
  clear h
  rcases H with h1 | ⟨h1, h2⟩ | ⟨h1, h2, h3⟩ | ⟨h1, h2, h3, h4⟩ | ⟨h1, h2, h3, h4, h5⟩ | ⟨h1, h2, h3, h4, h5, h6⟩
  all_goals
    go_enter Tryz.func64, Tryz.ntmps64
    unfold news5
    go_wp2
    refine wp_name fun w1 hw1 => ?_
    have hf1 : Fr NoB w w1 := by rw [hw1]; exact (Fr.refl _ w).alloc _
    have hn1 := HN.out.keep hf1 (fun h => h)
    have b0 : w1.cell? ⟨w.heap.size, 0, none⟩ = some (.int .i64 f) := by rw [hw1]; simp
    have b2 : w1.cell? ⟨w.heap.size, 2, none⟩ = some (.int .i64 t) := by rw [hw1]; simp
    have b3 : w1.cell? ⟨w.heap.size, 3, none⟩ = some (.int .i64 q) := by rw [hw1]; simp
    have b4 : w1.cell? ⟨w.heap.size, 4, none⟩ = some (.int .i64 d) := by rw [hw1]; simp
    clear hw1 c0
    have c0 := hn1.me
    have HF := Lib.hid hf1; clear hf1; have HN1 := Lib.hid hn1; clear hn1
    go_quiet ((go_at_call 43; exact Calls.quiet_of_same (Node_q _ _)))
    go_wp2
    go_ret
    exact ⟨rfl, HN1.out, HF.out.one.drewN _⟩

set_option maxRecDepth 100000 in
set_option maxHeartbeats 2000000 in
theorem Hear_none (b x y : Nat) (r q d : Int) (s : Nd.NS) (w : World) (ok : Nd.Ok s) (hx : x < 6) (hy : y < 6) (hm : x ≠ s.me) (q0 : 0 ≤ q) (d0 : 0 ≤ d) (d1 : d ≤ 200) (hc : s.cost x = 0) (hn : NAt w b 136 s) :
    Calls Tryz.prog 64 #[.pointer (some ⟨b, 0, none⟩), news5 x r y q d] w (CodeFr b 136 s 6 w) := by
  have hl := hn.lt
  have h1 : isNode x = true := isNode_yes (by omega)
  have h2 : isNode y = true := isNode_yes (by omega)
  have h3 : ((x : Int) == (s.me : Int)) = false := by simp; omega
  have h4 : decide (q < 0) = false := by simpa using q0
  have h5 : decide (d < 0) = false := by simpa using d0
  have h6 : decide (200 < d) = false := by simpa using d1
  have hxi : (x : Int) < 6 := by omega
  have hyi : (y : Int) < 6 := by omega
  have hcb : (s.cost x == 0) = true := by simp [hc]
  clear hc
  have HN := Lib.hid hn; clear hn
  go_enter Tryz.func64, Tryz.ntmps64
  unfold news5
  go_wp2
  refine wp_name fun w1 hw1 => ?_
  have hf1 : Fr NoB w w1 := by rw [hw1]; exact (Fr.refl _ w).alloc _
  have hn1 := HN.out.keep hf1 (fun h => h)
  have b0 : w1.cell? ⟨w.heap.size, 0, none⟩ = some (.int .i64 x) := by rw [hw1]; simp
  have b2 : w1.cell? ⟨w.heap.size, 2, none⟩ = some (.int .i64 y) := by rw [hw1]; simp
  have b3 : w1.cell? ⟨w.heap.size, 3, none⟩ = some (.int .i64 q) := by rw [hw1]; simp
  have b4 : w1.cell? ⟨w.heap.size, 4, none⟩ = some (.int .i64 d) := by rw [hw1]; simp
  clear hw1
  have c0 := hn1.me
  have c1 := hn1.cost hx
  have g1 := hn1.hS hx hy
  have g2 := hn1.hD hx hy
  have f1 := hn1.fz (7 + x * 12 + y * 2)
  have f2 := hn1.fz (7 + x * 12 + y * 2 + 1)
  have HF := Lib.hid hf1; clear hf1; have HN1 := Lib.hid hn1; clear hn1; have HM := Lib.hid hm; clear hm; have HOk := Lib.hid ok; clear ok
  go_quiet ((go_at_call 43; exact Calls.quiet_of_same (Node_q _ _)))
  go_wp2
  go_quiet (fail)
  go_wp2
  go_ret
  exact ⟨rfl, HN1.out, (HF.out.one.drewN _).drewN _⟩

set_option maxRecDepth 100000 in
set_option maxHeartbeats 2000000 in
theorem Hear_ok (b x y : Nat) (r q d : Int) (s : Nd.NS) (w : World) (ok : Nd.Ok s) (hx : x < 6) (hy : y < 6) (hm : x ≠ s.me) (q0 : 0 ≤ q) (d0 : 0 ≤ d) (d1 : d ≤ 200) (hc : s.cost x ≠ 0) (hn : NAt w b 136 s) :
    Calls Tryz.prog 64 #[.pointer (some ⟨b, 0, none⟩), news5 x r y q d] w (CodeFr b 136 (Nd.hear s x y q d) 0 w) := by
  have hl := hn.lt
  have h1 : isNode x = true := isNode_yes (by omega)
  have h2 : isNode y = true := isNode_yes (by omega)
  have h3 : ((x : Int) == (s.me : Int)) = false := by simp; omega
  have h4 : decide (q < 0) = false := by simpa using q0
  have h5 : decide (d < 0) = false := by simpa using d0
  have h6 : decide (200 < d) = false := by simpa using d1
  have hxi : (x : Int) < 6 := by omega
  have hyi : (y : Int) < 6 := by omega
  have hcb : (s.cost x == 0) = false := by simp [hc]
  clear hc
  have HN := Lib.hid hn; clear hn
  go_enter Tryz.func64, Tryz.ntmps64
  unfold news5
  go_wp2
  refine wp_name fun w1 hw1 => ?_
  have hf1 : Fr NoB w w1 := by rw [hw1]; exact (Fr.refl _ w).alloc _
  have hn1 := HN.out.keep hf1 (fun h => h)
  have b0 : w1.cell? ⟨w.heap.size, 0, none⟩ = some (.int .i64 x) := by rw [hw1]; simp
  have b2 : w1.cell? ⟨w.heap.size, 2, none⟩ = some (.int .i64 y) := by rw [hw1]; simp
  have b3 : w1.cell? ⟨w.heap.size, 3, none⟩ = some (.int .i64 q) := by rw [hw1]; simp
  have b4 : w1.cell? ⟨w.heap.size, 4, none⟩ = some (.int .i64 d) := by rw [hw1]; simp
  clear hw1
  have c0 := hn1.me
  have c1 := hn1.cost hx
  have g1 := hn1.hS hx hy
  have g2 := hn1.hD hx hy
  have f1 := hn1.fz (7 + x * 12 + y * 2)
  have f2 := hn1.fz (7 + x * 12 + y * 2 + 1)
  have HF := Lib.hid hf1; clear hf1; have HN1 := Lib.hid hn1; clear hn1; have HM := Lib.hid hm; clear hm; have HOk := Lib.hid ok; clear ok
  go_quiet ((go_at_call 43; exact Calls.quiet_of_same (Node_q _ _)))
  go_wp2
  go_quiet (fail)
  go_wp2
  refine wp_name fun w2 hw2 => ?_
  have hn2 := HN1.out
  have hf2 : Fr (OneB b) w w2 := by rw [hw2]; exact (HF.out.one.drewN _).drewN _
  have hn2 : NAt w2 b 136 s := by rw [hw2]; exact HN1.out
  have b0 : w2.cell? ⟨w.heap.size, 0, none⟩ = some (.int .i64 x) := by rw [hw2]; exact b0
  have b2 : w2.cell? ⟨w.heap.size, 2, none⟩ = some (.int .i64 y) := by rw [hw2]; exact b2
  have b3 : w2.cell? ⟨w.heap.size, 3, none⟩ = some (.int .i64 q) := by rw [hw2]; exact b3
  have b4 : w2.cell? ⟨w.heap.size, 4, none⟩ = some (.int .i64 d) := by rw [hw2]; exact b4
  clear hw2 c0 c1 g1 g2 f1 f2
  have g1 := hn2.hS hx hy
  have g2 := hn2.hD hx hy
  have f1 := hn2.fz (7 + x * 12 + y * 2)
  have f2 := hn2.fz (7 + x * 12 + y * 2 + 1)
  clear HN1 HF
  have HN1 := Lib.hid hn2; clear hn2; have HF := Lib.hid hf2; clear hf2
  (refine still_tail 14 (by kernel_rfl) (by kernel_rfl) ?_; simp only [List.take_succ_cons, List.take_zero, List.drop_succ_cons, List.drop_zero]; (iterate 14 (refine wpStill_step (fun K hK => ?_); go_simp; (with_reducible refine hK _ ?_); clear hK K)); refine wpStill_nil ?_)
  go_wp2_with fail
  refine (pick_any b y _ _ (Nd.Ok.heard HOk.out x y q d q0 d0 d1) hy (World.rowIs.drew (HN1.out.setH hx hy q d))).mono ?_
  rintro e w3 ⟨rfl, hn3, hf3⟩
  have hf4 : Fr (OneB b) w w3 := ((HF.out.set1 _ _).set1 _ _).drew.trans hf3
  clear hf3 b0 b2 b3 b4 g1 g2 f1 f2
  have HN3 := Lib.hid hn3; clear hn3; have HF4 := Lib.hid hf4; clear hf4
  go_wp2
  go_ret
  exact ⟨rfl, HN3.out, HF4.out⟩

theorem Hear_any (b : Nat) (f r t q d : Int) (s : Nd.NS) (w : World) (ok : Nd.Ok s) (hn : NAt w b 136 s) :
    Calls Tryz.prog 64 #[.pointer (some ⟨b, 0, none⟩), news5 f r t q d] w (CodeFr b 136 (Nd.hearC s f t q d).1 (Nd.hearC s f t q d).2 w) := by
  by_cases h : Nd.hearBad s f t q d
  · have e : Nd.hearC s f t q d = (s, 1) := by rw [Nd.hearC, if_pos h]
    rw [e]
    exact Hear_bad b f r t q d s w h hn
  · have h2 := h
    simp only [Nd.hearBad] at h2
    obtain ⟨x, rfl⟩ := Int.eq_ofNat_of_zero_le (a := f) (by omega)
    obtain ⟨y, rfl⟩ := Int.eq_ofNat_of_zero_le (a := t) (by omega)
    by_cases hc : s.cost x = 0
    · have e : Nd.hearC s x y q d = (s, 6) := by rw [Nd.hearC, if_neg h, Int.toNat_natCast, if_pos hc]
      rw [e]
      exact Hear_none b x y r q d s w ok (by omega) (by omega) (by omega) (by omega) (by omega) (by omega) hc hn
    · have e : Nd.hearC s x y q d = (Nd.hear s x y q d, 0) := by rw [Nd.hearC, if_neg h, Int.toNat_natCast, if_neg hc, Int.toNat_natCast]
      rw [e]
      exact Hear_ok b x y r q d s w ok (by omega) (by omega) (by omega) (by omega) (by omega) (by omega) hc hn
end Go.Proofs.YteedndapbfihaaaGreat
/- append at a step of a region that draws its order. -/
namespace Go.Proofs.YteedndapbfihaaaGreat
open Go.RowKit Go.Deep

/-- 'append(s, x..)' at a step of a region that draws its order. -/
theorem step_app {P : Program} {ops : Array Oper} {o : Oper} {a : Act} {w : World} {K : Act → World → Prop} {Q : Exit → Act → World → Prop} {E : Prop} (hgd : o.guard = none) (s x : Operand) (t e : TypeId) (size bytes : Nat) (z : Value)
    (ho : o.op = .call { callee := .builtin .append, args := #[s, x], argTypes := #[t, t] })
    (ht : P.underlying t = some (.slice e)) (hinfo : (P.info? e).map (fun i => (i.zero, i.size, i.bytes)) = some (some z, size, bytes)) (hzs : z.cells.size = size) (hsz : 0 < size)
    (base : Nat) (v : Value) (n : Nat) (xs : List Value) (hs : a.eval s = v) (hown : w.ownsRow base e size v n xs)
    (ad : Addr) (m c : Nat) (news : List Value) (hx : a.eval x = .slice (some ad) m c) (hl : news.length = m * size) (hnews : ∀ j u, news[j]? = some u → w.cell? (ad.add j) = some u) (h1 : ∀ u ∈ news, u.oneCell' = true)
    (hm : 0 < m) (h63 : n + m ≤ 2147483648) (hb : bytes ≤ 4096) (hbase : base ≤ w.heap.size)
    (h : ∀ v' w', w'.ownsRow base e size v' (n + m) (xs ++ news) → Fr (fun i => v.ownBlock = some i) w w' → K (a.put o.dst v') w') :
    if Region.wanted o (yielded ops a.tmps) = true then Oper.wp P o a w K Q else E := by
  obtain ⟨i0, hi, hz0, hz1, hz2⟩ := info_parts hinfo
  refine step_append_lies w hgd s x t ho base e i0 z size bytes ht hi hz0 hz1 hz2 hzs hsz v n xs hs hown ad m c news hx hl hnews h1 hm (by unfold maxLen; omega) ?_ hbase w.heap.size rfl ?_
  · exact Nat.le_trans (Nat.mul_le_mul h63 hb) (by omega)
  · intro g cap w' h2 h3 _ _
    exact h _ w' h2 ((Fr.refl _ _).grown h3 (fun k hk => .inl hk))
end Go.Proofs.YteedndapbfihaaaGreat
/- Walks over package node: Tell. -/
namespace Go.Proofs.YteedndapbfihaaaGreat
open Go.RowKit Go.Deep

/-- A node's ways as one value. -/
def agg6w (f : Nat → Nd.Way) : Value := .agg #[.int .i64 (f 0).seq, .int .i64 (f 0).dist, .int .i64 (f 0).hop, .int .i64 (f 1).seq, .int .i64 (f 1).dist, .int .i64 (f 1).hop, .int .i64 (f 2).seq, .int .i64 (f 2).dist, .int .i64 (f 2).hop, .int .i64 (f 3).seq, .int .i64 (f 3).dist, .int .i64 (f 3).hop, .int .i64 (f 4).seq, .int .i64 (f 4).dist, .int .i64 (f 4).hop, .int .i64 (f 5).seq, .int .i64 (f 5).dist, .int .i64 (f 5).hop]
theorem indexW_0 (f : Nat → Nd.Way) (w : World) : (Instr.index 134 (agg6w f) (.int .i64 0)).run Tryz.prog w = .ok (way3 (f 0)) w := by kernel_rfl
theorem indexW_1 (f : Nat → Nd.Way) (w : World) : (Instr.index 134 (agg6w f) (.int .i64 1)).run Tryz.prog w = .ok (way3 (f 1)) w := by kernel_rfl
theorem indexW_2 (f : Nat → Nd.Way) (w : World) : (Instr.index 134 (agg6w f) (.int .i64 2)).run Tryz.prog w = .ok (way3 (f 2)) w := by kernel_rfl
theorem indexW_3 (f : Nat → Nd.Way) (w : World) : (Instr.index 134 (agg6w f) (.int .i64 3)).run Tryz.prog w = .ok (way3 (f 3)) w := by kernel_rfl
theorem indexW_4 (f : Nat → Nd.Way) (w : World) : (Instr.index 134 (agg6w f) (.int .i64 4)).run Tryz.prog w = .ok (way3 (f 4)) w := by kernel_rfl
theorem indexW_5 (f : Nat → Nd.Way) (w : World) : (Instr.index 134 (agg6w f) (.int .i64 5)).run Tryz.prog w = .ok (way3 (f 5)) w := by kernel_rfl
theorem indexW (n : Nat) (hn : n < 6) (f : Nat → Nd.Way) (w : World) : (Instr.index 134 (agg6w f) (.int .i64 n)).run Tryz.prog w = .ok (way3 (f n)) w := by
  match n, hn with
  | 0, _ => exact indexW_0 f w
  | 1, _ => exact indexW_1 f w
  | 2, _ => exact indexW_2 f w
  | 3, _ => exact indexW_3 f w
  | 4, _ => exact indexW_4 f w
  | 5, _ => exact indexW_5 f w

def waysL (s : Nd.NS) : List Value := [.int .i64 (s.wS 0), .int .i64 (s.wD 0), .int .i64 (s.wH 0), .int .i64 (s.wS 1), .int .i64 (s.wD 1), .int .i64 (s.wH 1), .int .i64 (s.wS 2), .int .i64 (s.wD 2), .int .i64 (s.wH 2), .int .i64 (s.wS 3), .int .i64 (s.wD 3), .int .i64 (s.wH 3), .int .i64 (s.wS 4), .int .i64 (s.wD 4), .int .i64 (s.wH 4), .int .i64 (s.wS 5), .int .i64 (s.wD 5), .int .i64 (s.wH 5)]
theorem NAt.ways {w : World} {b : Nat} {t : TypeId} {s : Nd.NS} (h : NAt w b t s) : w.rangeAt b 79 (waysL s) := by
  intro j v hv
  unfold waysL at hv
  match j, hv with
  | 0, hv => simp at hv; subst hv; exact h.wS (k := 0) (by omega)
  | 1, hv => simp at hv; subst hv; exact h.wD (k := 0) (by omega)
  | 2, hv => simp at hv; subst hv; exact h.wH (k := 0) (by omega)
  | 3, hv => simp at hv; subst hv; exact h.wS (k := 1) (by omega)
  | 4, hv => simp at hv; subst hv; exact h.wD (k := 1) (by omega)
  | 5, hv => simp at hv; subst hv; exact h.wH (k := 1) (by omega)
  | 6, hv => simp at hv; subst hv; exact h.wS (k := 2) (by omega)
  | 7, hv => simp at hv; subst hv; exact h.wD (k := 2) (by omega)
  | 8, hv => simp at hv; subst hv; exact h.wH (k := 2) (by omega)
  | 9, hv => simp at hv; subst hv; exact h.wS (k := 3) (by omega)
  | 10, hv => simp at hv; subst hv; exact h.wD (k := 3) (by omega)
  | 11, hv => simp at hv; subst hv; exact h.wH (k := 3) (by omega)
  | 12, hv => simp at hv; subst hv; exact h.wS (k := 4) (by omega)
  | 13, hv => simp at hv; subst hv; exact h.wD (k := 4) (by omega)
  | 14, hv => simp at hv; subst hv; exact h.wH (k := 4) (by omega)
  | 15, hv => simp at hv; subst hv; exact h.wS (k := 5) (by omega)
  | 16, hv => simp at hv; subst hv; exact h.wD (k := 5) (by omega)
  | 17, hv => simp at hv; subst hv; exact h.wH (k := 5) (by omega)
theorem Tryz.info112 : (Tryz.prog.info? 112).map (fun i => (i.zero, i.size, i.bytes)) = some (some (.agg #[.int .i64 0, .int .i64 0, .int .i64 0, .int .i64 0, .int .i64 0]), 5, 40) := by kernel_rfl
/-- A slice of n news of the call's own. -/
def SlN (w : World) (base : Nat) (v : Value) (n : Nat) (xs : List Int) : Prop := w.ownsRow base 112 5 v n (xs.map (Value.int .i64))
def TellPost (s : Nd.NS) (who : Int) (w : World) (e : Ending) (w' : World) : Prop := ∃ v, e = .returned v ∧ SlN w' w.heap.size v 6 (Nd.tellL s who 6) ∧ Fr NoB w w'
def TlRel (s : Nd.NS) (who : Int) (w : World) (v i : Value) (wr : World) : Prop :=
  ∃ k : Nat, k ≤ 6 ∧ i = .int .i64 k ∧ SlN wr w.heap.size v k (Nd.tellL s who k) ∧ Fr NoB w wr

set_option maxRecDepth 100000 in
set_option maxHeartbeats 2000000 in
theorem Tell_any (b : Nat) (who : Int) (s : Nd.NS) (w : World) (hn : NAt w b 136 s) :
    Calls Tryz.prog 63 #[.pointer (some ⟨b, 0, none⟩), .int .i64 who] w (TellPost s who w) := by
  have HN := Lib.hid hn; clear hn
  go_enter Tryz.func63, Tryz.ntmps63
  go_wp2_with (refine wpList_load_mid rfl 134 (.tmp 10) rfl b 79 rfl (waysL s) _ (NAt.ways HN.out) Tryz.underlying134 rfl (by kernel_rfl) ?_)
  go_loopw [5, 12] (fun v i wr => TlRel s who w v i wr) (fun _ i _ => 6 - (intOf i).toNat)
  case atStart => exact ⟨0, by omega, rfl, World.ownsRow_nil _ _ _ _, Fr.refl _ _⟩
  case round =>
    obtain ⟨k, hk, rfl, ho, hf⟩ := hrel
    have HO := Lib.hid ho; clear ho; have HF := Lib.hid hf; clear hf
    by_cases hk6 : k < 6
    · have hkb : decide ((k : Int) < 6) = true := by simp; omega
      have hix := fun w => indexW k hk6 (Nd.wayOf s) w
      simp only [agg6w, way3, Nd.wayOf] at hix
      unfold waysL
      have hst := Nd.tellL_succ s who k
      have HST := Lib.hid hst; clear hst
      go_upto_region 5 with fail
      clear hix
      refine wp_name fun w1 hw1 => ?_
      have hf1 : Fr NoB wr w1 := by rw [hw1]; exact (Fr.refl _ wr).alloc _
      have b0 : w1.cell? ⟨wr.heap.size, 0, none⟩ = some (.int .i64 (s.wS k)) := by rw [hw1]; simp
      have b1 : w1.cell? ⟨wr.heap.size, 1, none⟩ = some (.int .i64 (s.wD k)) := by rw [hw1]; simp
      have c0 := (HN.out.keep (HF.out.trans hf1) (fun h => h)).me
      have ho1 : SlN w1 w.heap.size u5 k (Nd.tellL s who k) := own_keep HO.out hf1 (fun _ _ h => h)
      have hf2 := HF.out.trans hf1
      clear hw1 hf1
      have HO1 := Lib.hid ho1; clear ho1; have HF1 := Lib.hid hf2; clear hf2
      have hlb : b < w1.heap.size := by have := HN.out.lt; have := HF1.out.size; omega
      have hlr := World.block_lt_of_cell? w1 _ b0
      have key : ∀ (o : Obj) (W : World), Fr (fun i => u5.ownBlock = some i) ((w1.alloc o).drew) W → W.cell? ⟨b, 0, none⟩ = some (.int .i64 s.me) ∧ W.cell? ⟨wr.heap.size, 0, none⟩ = some (.int .i64 (s.wS k)) ∧ W.cell? ⟨wr.heap.size, 1, none⟩ = some (.int .i64 (s.wD k)) := by
        intro o W h
        have hb := HN.out.lt
        have hv := World.ownsRow.lt HO.out
        have hF : Fr (fun i => u5.ownBlock = some i) w1 W := ((Fr.refl _ w1).alloc o).drew.trans h
        have n1 : ¬ u5.ownBlock = some b := fun e => by have := (hv _ e).1; omega
        have n2 : ¬ u5.ownBlock = some wr.heap.size := fun e => by have := (hv _ e).2; omega
        exact ⟨cell_fr hF c0 n1, cell_fr hF b0 n2, cell_fr hF b1 n2⟩
      have KEY := Lib.hid key; clear key
      go_region_held3 (fun W => W.cell? ⟨b, 0, none⟩ = some (.int .i64 s.me) ∧ W.cell? ⟨wr.heap.size, 0, none⟩ = some (.int .i64 (s.wS k)) ∧ W.cell? ⟨wr.heap.size, 1, none⟩ = some (.int .i64 (s.wD k)))
        (first | exact ⟨c0, b0, b1⟩ | exact KEY.out _ _ h2 | go_keep)
        ((refine step_app (by rfl) (.tmp 16) (.tmp 28) 36 112 5 40 (.agg #[.int .i64 0, .int .i64 0, .int .i64 0, .int .i64 0, .int .i64 0]) (by rfl) Tryz.underlying36 Tryz.info112 rfl (by omega) w.heap.size u5 k _ (by rfl) (World.ownsRow.drew (World.ownsRow.alloc HO1.out _)) ⟨w1.heap.size, 0, none⟩ 1 1 [.int .i64 s.me, .int .i64 who, .int .i64 k, .int .i64 (s.wS k), .int .i64 (s.wD k)] (by rfl) (by rfl) (World.news_of_block (cs := #[.int .i64 s.me, .int .i64 who, .int .i64 k, .int .i64 (s.wS k), .int .i64 (s.wD k)]) (t := 112) (fr := (0, 0)) (heap_alloc_new w1 _)) (by simp [Value.oneCell']) (by omega) (by omega) (by omega) (by have := HF1.out.size; simp; omega) ?_; intro v' w2 h1 h2))
      have r2 : Fr NoB w w2 := ((HF1.out.alloc _).drew).ownB (World.ownsRow.drew (World.ownsRow.alloc HO1.out _)) (Nat.le_refl _) h2
      clear h2 b0 b1 c0
      have H1 := Lib.hid h1; clear h1; have R2 := Lib.hid r2; clear r2
      go_wp2
      go_roundw
      case rel => exact ⟨k + 1, by omega, by go_num, by rw [HST.out]; unfold SlN; rw [List.map_append]; exact H1.out, R2.out⟩
      case measure => simp [intOf]; omega
    · obtain rfl : k = 6 := by omega
      go_wp2
      go_ret
      exact ⟨_, rfl, HO.out, HF.out⟩
end Go.Proofs.YteedndapbfihaaaGreat
