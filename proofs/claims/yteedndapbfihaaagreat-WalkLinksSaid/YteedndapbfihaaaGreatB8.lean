/- Walks over handpostref: Mind.Link, Hear, Tick. -/
import Derived.Test.YteedndapbfihaaaGreatB7
import Derived.Test.YteedndapbfihaaaGreatB6
namespace Go.Proofs.YteedndapbfihaaaGreat
open Go.RowKit Go.Deep

def FgRelM (b : Nat) (s : Nd.NS) (who : Nat) (w : World) (i : Value) (wr : World) : Prop := ∃ k : Nat, k ≤ 6 ∧ i = .int .i64 k ∧ NAt wr b 151 (Nd.forgetK s who k) ∧ Fr (OneB b) w wr
def AlRelM (b : Nat) (s : Nd.NS) (w : World) (i : Value) (wr : World) : Prop :=
  ∃ k : Nat, k ≤ 6 ∧ i = .int .i64 k ∧ NAt wr b 151 (Nd.all s k) ∧ Fr (OneB b) w wr

set_option maxRecDepth 100000 in
set_option maxHeartbeats 2000000 in
theorem MLink_ok (b who : Nat) (c : Int) (s : Nd.NS) (w : World) (ok : Nd.Ok s) (hw : who < 6) (hm : who ≠ s.me) (h0 : 0 ≤ c) (h1 : c ≤ 15) (hn : NAt w b 151 s) :
    Calls Tryz.prog 69 #[.pointer (some ⟨b, 0, none⟩), .int .i64 who, .int .i64 c] w (CodeFr b 151 (Nd.link s who c) 0 w) := by
  have c0 := hn.me
  have c1 := hn.cost hw
  have f1 := hn.fz (1 + who)
  have hb : ((who : Int) == (s.me : Int)) = false := by simp; omega
  have HN := Lib.hid hn; clear hn; have HM := Lib.hid hm; clear hm
  by_cases hz : c = 0
  · subst hz
    have hl : Nd.link s who 0 = Nd.all (Nd.forget { s with cost := Nd.up s.cost who 0 } who) 6 := rfl
    have HL := Lib.hid hl; clear hl
    go_enter Tryz.func69, Tryz.ntmps69
    go_wp2_with fail
    refine (RNode_yes _ _ (by omega) (by omega)).mono ?_; rintro e w' ⟨rfl, rfl⟩
    go_wp2
    go_loopw [7] (fun i wr => FgRelM b { s with cost := Nd.up s.cost who 0 } who w i wr) (fun i _ => 6 - (intOf i).toNat)
    case atStart => exact ⟨0, by omega, rfl, by rw [Nd.forgetK_zero]; exact HN.out.setC hw 0, (Fr.refl _ _).set1 _ _⟩
    case round =>
      obtain ⟨k, hk, rfl, hn, hf⟩ := hrel
      have HN1 := Lib.hid hn; clear hn; have HF := Lib.hid hf; clear hf
      clear c0 c1 f1
      by_cases hk6 : k < 6
      · have g1 := HN1.out.hS hw hk6
        have g2 := HN1.out.hD hw hk6
        have f1 := HN1.out.fz (7 + who * 12 + k * 2)
        have f2 := HN1.out.fz (7 + who * 12 + k * 2 + 1)
        go_wp2
        go_roundw
        case rel => exact ⟨k + 1, by omega, by go_num, by rw [Nd.forgetK_succ]; exact HN1.out.setH hw hk6 0 200, (HF.out.set1 _ _).set1 _ _⟩
        case measure => simp [intOf]; omega
      · have hk6b : decide ((k : Int) < 6) = false := by simp; omega
        have hn2 : NAt wr b 151 (Nd.forget { s with cost := Nd.up s.cost who 0 } who) := by rw [Nd.forget, ← (show k = 6 from by omega)]; exact HN1.out
        clear HN1
        have HN2 := Lib.hid hn2; clear hn2
        go_wp2
        obtain ⟨w1, rfl⟩ : ∃ w1 : World, w1 = wr := ⟨_, rfl⟩
        go_loopw [8] (fun i wr => AlRelM b (Nd.forget { s with cost := Nd.up s.cost who 0 } who) w i wr) (fun i _ => 6 - (intOf i).toNat)
        case atStart => exact ⟨0, by omega, rfl, HN2.out, HF.out⟩
        case round =>
          clear HN2 HF hk6b
          obtain ⟨k, hk, rfl, hn, hf⟩ := hrel
          have HN := Lib.hid hn; clear hn; have HF := Lib.hid hf; clear hf
          by_cases hk6 : k < 6
          · go_wp2_with fail
            refine (look_any b k _ _ (Nd.Ok.all (Nd.Ok.forget (Nd.Ok.cost' ok who 0 (by omega) (by omega)) who) k) hk6 HN.out).mono ?_
            rintro e w2 ⟨rfl, hn2, hf2⟩
            have hf3 := HF.out.trans hf2
            clear hf2
            have HN2 := Lib.hid hn2; clear hn2; have HF2 := Lib.hid hf3; clear hf3
            go_wp2
            go_roundw
            case rel => exact ⟨k + 1, by omega, by go_num, HN2.out, HF2.out⟩
            case measure => simp [intOf]; omega
          · obtain rfl : k = 6 := by omega
            go_wp2
            go_ret
            exact ⟨rfl, by rw [HL.out]; exact HN.out, HF.out⟩
  · have hl : Nd.link s who c = Nd.all { s with cost := Nd.up s.cost who c } 6 := by simp [Nd.link, hz]
    have hzb : (c == 0) = false := by simpa using hz
    have HL := Lib.hid hl; clear hl; have HZ := Lib.hid hz; clear hz
    go_enter Tryz.func69, Tryz.ntmps69
    go_wp2_with fail
    refine (RNode_yes _ _ (by omega) (by omega)).mono ?_; rintro e w' ⟨rfl, rfl⟩
    go_wp2
    refine wp_loop_rounds 1 ?_
    rw [rounds_succ]
    go_wp2
    go_loopw [8] (fun i wr => AlRelM b { s with cost := Nd.up s.cost who c } w i wr) (fun i _ => 6 - (intOf i).toNat)
    case atStart => exact ⟨0, by omega, rfl, HN.out.setC hw c, (Fr.refl _ _).set1 _ _⟩
    case round =>
      clear c0 c1 f1
      obtain ⟨k, hk, rfl, hn, hf⟩ := hrel
      have HN := Lib.hid hn; clear hn; have HF := Lib.hid hf; clear hf
      by_cases hk6 : k < 6
      · go_wp2_with fail
        refine (look_any b k _ _ (Nd.Ok.all (Nd.Ok.cost' ok who c (by omega) (by omega)) k) hk6 HN.out).mono ?_
        rintro e w2 ⟨rfl, hn2, hf2⟩
        have hf3 := HF.out.trans hf2
        clear hf2
        have HN2 := Lib.hid hn2; clear hn2; have HF2 := Lib.hid hf3; clear hf3
        go_wp2
        go_roundw
        case rel => exact ⟨k + 1, by omega, by go_num, HN2.out, HF2.out⟩
        case measure => simp [intOf]; omega
      · obtain rfl : k = 6 := by omega
        go_wp2
        go_ret
        exact ⟨rfl, by rw [HL.out]; exact HN.out, HF.out⟩

set_option maxRecDepth 100000 in
set_option maxHeartbeats 1000000 in
theorem MLink_no (b : Nat) (who c : Int) (s : Nd.NS) (w : World) (h : Nd.linkBad s who c) (hn : NAt w b 151 s) :
    Calls Tryz.prog 69 #[.pointer (some ⟨b, 0, none⟩), .int .i64 who, .int .i64 c] w fun e w' => e = .returned (.int .i64 1) ∧ w = w' := by
  have c0 := hn.me
  clear hn
  by_cases hw : 0 ≤ who ∧ who < 6
  · obtain ⟨hw0, hw1⟩ := hw
    by_cases hm : who = s.me
    · have hb : (who == (s.me : Int)) = true := by simp [hm]
      clear h hm
      go_enter Tryz.func69, Tryz.ntmps69
      go_wp2_with fail
      refine (RNode_yes _ _ hw0 hw1).mono ?_; rintro e w' ⟨rfl, rfl⟩
      go_wp2
      go_ret
      exact ⟨rfl, rfl⟩
    · have hb : (who == (s.me : Int)) = false := by simpa using hm
      by_cases hc : c < 0
      · clear h hm
        go_enter Tryz.func69, Tryz.ntmps69
        go_wp2_with fail
        refine (RNode_yes _ _ hw0 hw1).mono ?_; rintro e w' ⟨rfl, rfl⟩
        go_wp2
        go_ret
        exact ⟨rfl, rfl⟩
      · have hc0 : 0 ≤ c := by omega
        have hc1 : 15 < c := by
          rcases h with h | h | h | h
          · exact absurd ⟨hw0, hw1⟩ h
          · exact absurd h hm
          · exact absurd h hc
          · exact h
        clear h hm hc
        go_enter Tryz.func69, Tryz.ntmps69
        go_wp2_with fail
        refine (RNode_yes _ _ hw0 hw1).mono ?_; rintro e w' ⟨rfl, rfl⟩
        go_wp2
        go_ret
        exact ⟨rfl, rfl⟩
  · have HW := Lib.hid hw; clear hw h
    go_enter Tryz.func69, Tryz.ntmps69
    go_wp2_with fail
    refine (RNode_no _ _ HW.out).mono ?_; rintro e w' ⟨rfl, rfl⟩
    go_wp2
    go_ret
    exact ⟨rfl, rfl⟩

theorem MLink_any (b : Nat) (who c : Int) (s : Nd.NS) (w : World) (ok : Nd.Ok s) (hn : NAt w b 151 s) :
    Calls Tryz.prog 69 #[.pointer (some ⟨b, 0, none⟩), .int .i64 who, .int .i64 c] w (CodeFr b 151 (Nd.linkC s who c).1 (Nd.linkC s who c).2 w) := by
  by_cases h : Nd.linkBad s who c
  · have e : Nd.linkC s who c = (s, 1) := by rw [Nd.linkC, if_pos h]
    rw [e]
    refine (MLink_no b who c s w h hn).mono ?_
    rintro e w' ⟨rfl, rfl⟩
    exact ⟨rfl, hn, Fr.refl _ _⟩
  · have e : Nd.linkC s who c = (Nd.link s who.toNat c, 0) := by rw [Nd.linkC, if_neg h]
    rw [e]
    simp only [Nd.linkBad] at h
    obtain ⟨x, rfl⟩ := Int.eq_ofNat_of_zero_le (a := who) (by omega)
    rw [Int.toNat_natCast]
    exact MLink_ok b x c s w ok (by omega) (by omega) (by omega) (by omega) hn

theorem RNode_q (n : Int) (w : World) : Calls Tryz.prog 20 #[.int .i64 n] w fun e w' => e = .returned (.bool (isNode n)) ∧ w' = w :=
  (RNode_any n w).mono fun _ _ h => ⟨h.1, h.2.symm⟩
set_option maxRecDepth 100000 in
set_option maxHeartbeats 2000000 in
theorem MHear_bad (b : Nat) (f r t q d : Int) (s : Nd.NS) (w : World) (h : Nd.hearBad s f t q d) (hn : NAt w b 151 s) :
    Calls Tryz.prog 72 #[.pointer (some ⟨b, 0, none⟩), news5 f r t q d] w (CodeFr b 151 s 1 w) := by
  have hl := hn.lt
  have H : (isNode f = false) ∨ (isNode f = true ∧ isNode t = false) ∨ (isNode f = true ∧ isNode t = true ∧ (f == (s.me : Int)) = true) ∨ (isNode f = true ∧ isNode t = true ∧ (f == (s.me : Int)) = false ∧ decide (q < 0) = true) ∨ (isNode f = true ∧ isNode t = true ∧ (f == (s.me : Int)) = false ∧ decide (q < 0) = false ∧ decide (d < 0) = true) ∨ (isNode f = true ∧ isNode t = true ∧ (f == (s.me : Int)) = false ∧ decide (q < 0) = false ∧ decide (d < 0) = false ∧ decide (200 < d) = true) := by
    by_cases h1 : 0 ≤ f ∧ f < 6
    · by_cases h2 : 0 ≤ t ∧ t < 6
      · by_cases h3 : f = s.me
        · exact .inr (.inr (.inl ⟨isNode_yes h1, isNode_yes h2, by simpa using h3⟩))
        · by_cases h4 : q < 0
          · exact .inr (.inr (.inr (.inl ⟨isNode_yes h1, isNode_yes h2, by simpa using h3, by simpa using h4⟩)))
          · by_cases h5 : d < 0
            · exact .inr (.inr (.inr (.inr (.inl ⟨isNode_yes h1, isNode_yes h2, by simpa using h3, by simpa using h4, by simpa using h5⟩))))
            · exact .inr (.inr (.inr (.inr (.inr ⟨isNode_yes h1, isNode_yes h2, by simpa using h3, by simpa using h4, by simpa using h5, by simp only [Nd.hearBad] at h; simp; omega⟩))))
      · exact .inr (.inl ⟨isNode_yes h1, isNode_no h2⟩)
    · exact .inl (isNode_no h1)
  have c0 := hn.me
  have HN := Lib.hid hn; clear hn
  clear h
  rcases H with h1 | ⟨h1, h2⟩ | ⟨h1, h2, h3⟩ | ⟨h1, h2, h3, h4⟩ | ⟨h1, h2, h3, h4, h5⟩ | ⟨h1, h2, h3, h4, h5, h6⟩
  all_goals
    go_enter Tryz.func72, Tryz.ntmps72
    unfold news5
    go_wp2
    refine wp_name fun w1 hw1 => ?_
    have hf1 : Fr NoB w w1 := by rw [hw1]; exact (Fr.refl _ w).alloc _
    have hn1 := HN.out.keep hf1 (fun h => h)
    have b0 : w1.cell? ⟨w.heap.size, 0, none⟩ = some (.int .i64 f) := by rw [hw1]; simp
    have b2 : w1.cell? ⟨w.heap.size, 2, none⟩ = some (.int .i64 t) := by rw [hw1]; simp
    have b3 : w1.cell? ⟨w.heap.size, 3, none⟩ = some (.int .i64 q) := by rw [hw1]; simp
    have b4 : w1.cell? ⟨w.heap.size, 4, none⟩ = some (.int .i64 d) := by rw [hw1]; simp
    clear hw1 c0
    have c0 := hn1.me
    have HF := Lib.hid hf1; clear hf1; have HN1 := Lib.hid hn1; clear hn1
    go_quiet ((go_at_call 20; exact Calls.quiet_of_same (RNode_q _ _)))
    go_wp2
    go_ret
    exact ⟨rfl, HN1.out, HF.out.one.drewN _⟩

set_option maxRecDepth 100000 in
set_option maxHeartbeats 2000000 in
theorem MHear_none (b x y : Nat) (r q d : Int) (s : Nd.NS) (w : World) (ok : Nd.Ok s) (hx : x < 6) (hy : y < 6) (hm : x ≠ s.me) (q0 : 0 ≤ q) (d0 : 0 ≤ d) (d1 : d ≤ 200) (hc : s.cost x = 0) (hn : NAt w b 151 s) :
    Calls Tryz.prog 72 #[.pointer (some ⟨b, 0, none⟩), news5 x r y q d] w (CodeFr b 151 s 6 w) := by
  have hl := hn.lt
  have h1 : isNode x = true := isNode_yes (by omega)
  have h2 : isNode y = true := isNode_yes (by omega)
  have h3 : ((x : Int) == (s.me : Int)) = false := by simp; omega
  have h4 : decide (q < 0) = false := by simpa using q0
  have h5 : decide (d < 0) = false := by simpa using d0
  have h6 : decide (200 < d) = false := by simpa using d1
  have hxi : (x : Int) < 6 := by omega
  have hyi : (y : Int) < 6 := by omega
  have hcb : (s.cost x == 0) = true := by simp [hc]
  clear hc
  have HN := Lib.hid hn; clear hn
  go_enter Tryz.func72, Tryz.ntmps72
  unfold news5
  go_wp2
  refine wp_name fun w1 hw1 => ?_
  have hf1 : Fr NoB w w1 := by rw [hw1]; exact (Fr.refl _ w).alloc _
  have hn1 := HN.out.keep hf1 (fun h => h)
  have b0 : w1.cell? ⟨w.heap.size, 0, none⟩ = some (.int .i64 x) := by rw [hw1]; simp
  have b2 : w1.cell? ⟨w.heap.size, 2, none⟩ = some (.int .i64 y) := by rw [hw1]; simp
  have b3 : w1.cell? ⟨w.heap.size, 3, none⟩ = some (.int .i64 q) := by rw [hw1]; simp
  have b4 : w1.cell? ⟨w.heap.size, 4, none⟩ = some (.int .i64 d) := by rw [hw1]; simp
  clear hw1
  have c0 := hn1.me
  have c1 := hn1.cost hx
  have g1 := hn1.hS hx hy
  have g2 := hn1.hD hx hy
  have f1 := hn1.fz (7 + x * 12 + y * 2)
  have f2 := hn1.fz (7 + x * 12 + y * 2 + 1)
  have HF := Lib.hid hf1; clear hf1; have HN1 := Lib.hid hn1; clear hn1; have HM := Lib.hid hm; clear hm; have HOk := Lib.hid ok; clear ok
  go_quiet ((go_at_call 20; exact Calls.quiet_of_same (RNode_q _ _)))
  go_wp2
  go_quiet (fail)
  go_wp2
  go_ret
  exact ⟨rfl, HN1.out, (HF.out.one.drewN _).drewN _⟩

set_option maxRecDepth 100000 in
set_option maxHeartbeats 2000000 in
theorem MHear_ok (b x y : Nat) (r q d : Int) (s : Nd.NS) (w : World) (ok : Nd.Ok s) (hx : x < 6) (hy : y < 6) (hm : x ≠ s.me) (q0 : 0 ≤ q) (d0 : 0 ≤ d) (d1 : d ≤ 200) (hc : s.cost x ≠ 0) (hn : NAt w b 151 s) :
    Calls Tryz.prog 72 #[.pointer (some ⟨b, 0, none⟩), news5 x r y q d] w (CodeFr b 151 (Nd.hear s x y q d) 0 w) := by
  have hl := hn.lt
  have h1 : isNode x = true := isNode_yes (by omega)
  have h2 : isNode y = true := isNode_yes (by omega)
  have h3 : ((x : Int) == (s.me : Int)) = false := by simp; omega
  have h4 : decide (q < 0) = false := by simpa using q0
  have h5 : decide (d < 0) = false := by simpa using d0
  have h6 : decide (200 < d) = false := by simpa using d1
  have hxi : (x : Int) < 6 := by omega
  have hyi : (y : Int) < 6 := by omega
  have hcb : (s.cost x == 0) = false := by simp [hc]
  clear hc
  have HN := Lib.hid hn; clear hn
  go_enter Tryz.func72, Tryz.ntmps72
  unfold news5
  go_wp2
  refine wp_name fun w1 hw1 => ?_
  have hf1 : Fr NoB w w1 := by rw [hw1]; exact (Fr.refl _ w).alloc _
  have hn1 := HN.out.keep hf1 (fun h => h)
  have b0 : w1.cell? ⟨w.heap.size, 0, none⟩ = some (.int .i64 x) := by rw [hw1]; simp
  have b2 : w1.cell? ⟨w.heap.size, 2, none⟩ = some (.int .i64 y) := by rw [hw1]; simp
  have b3 : w1.cell? ⟨w.heap.size, 3, none⟩ = some (.int .i64 q) := by rw [hw1]; simp
  have b4 : w1.cell? ⟨w.heap.size, 4, none⟩ = some (.int .i64 d) := by rw [hw1]; simp
  clear hw1
  have c0 := hn1.me
  have c1 := hn1.cost hx
  have g1 := hn1.hS hx hy
  have g2 := hn1.hD hx hy
  have f1 := hn1.fz (7 + x * 12 + y * 2)
  have f2 := hn1.fz (7 + x * 12 + y * 2 + 1)
  have HF := Lib.hid hf1; clear hf1; have HN1 := Lib.hid hn1; clear hn1; have HM := Lib.hid hm; clear hm; have HOk := Lib.hid ok; clear ok
  go_quiet ((go_at_call 20; exact Calls.quiet_of_same (RNode_q _ _)))
  go_wp2
  go_quiet (fail)
  go_wp2
  refine wp_name fun w2 hw2 => ?_
  have hn2 := HN1.out
  have hf2 : Fr (OneB b) w w2 := by rw [hw2]; exact (HF.out.one.drewN _).drewN _
  have hn2 : NAt w2 b 151 s := by rw [hw2]; exact HN1.out
  have b0 : w2.cell? ⟨w.heap.size, 0, none⟩ = some (.int .i64 x) := by rw [hw2]; exact b0
  have b2 : w2.cell? ⟨w.heap.size, 2, none⟩ = some (.int .i64 y) := by rw [hw2]; exact b2
  have b3 : w2.cell? ⟨w.heap.size, 3, none⟩ = some (.int .i64 q) := by rw [hw2]; exact b3
  have b4 : w2.cell? ⟨w.heap.size, 4, none⟩ = some (.int .i64 d) := by rw [hw2]; exact b4
  clear hw2 c0 c1 g1 g2 f1 f2
  have g1 := hn2.hS hx hy
  have g2 := hn2.hD hx hy
  have f1 := hn2.fz (7 + x * 12 + y * 2)
  have f2 := hn2.fz (7 + x * 12 + y * 2 + 1)
  clear HN1 HF
  have HN1 := Lib.hid hn2; clear hn2; have HF := Lib.hid hf2; clear hf2
  (refine still_tail 14 (by kernel_rfl) (by kernel_rfl) ?_; simp only [List.take_succ_cons, List.take_zero, List.drop_succ_cons, List.drop_zero]; (iterate 14 (refine wpStill_step (fun K hK => ?_); go_simp; (with_reducible refine hK _ ?_); clear hK K)); refine wpStill_nil ?_)
  go_wp2_with fail
  refine (look_any b y _ _ (Nd.Ok.heard HOk.out x y q d q0 d0 d1) hy (World.rowIs.drew (HN1.out.setH hx hy q d))).mono ?_
  rintro e w3 ⟨rfl, hn3, hf3⟩
  have hf4 : Fr (OneB b) w w3 := ((HF.out.set1 _ _).set1 _ _).drew.trans hf3
  clear hf3 b0 b2 b3 b4 g1 g2 f1 f2
  have HN3 := Lib.hid hn3; clear hn3; have HF4 := Lib.hid hf4; clear hf4
  go_wp2
  go_ret
  exact ⟨rfl, HN3.out, HF4.out⟩

theorem MHear_any (b : Nat) (f r t q d : Int) (s : Nd.NS) (w : World) (ok : Nd.Ok s) (hn : NAt w b 151 s) :
    Calls Tryz.prog 72 #[.pointer (some ⟨b, 0, none⟩), news5 f r t q d] w (CodeFr b 151 (Nd.hearC s f t q d).1 (Nd.hearC s f t q d).2 w) := by
  by_cases h : Nd.hearBad s f t q d
  · have e : Nd.hearC s f t q d = (s, 1) := by rw [Nd.hearC, if_pos h]
    rw [e]
    exact MHear_bad b f r t q d s w h hn
  · have h2 := h
    simp only [Nd.hearBad] at h2
    obtain ⟨x, rfl⟩ := Int.eq_ofNat_of_zero_le (a := f) (by omega)
    obtain ⟨y, rfl⟩ := Int.eq_ofNat_of_zero_le (a := t) (by omega)
    by_cases hc : s.cost x = 0
    · have e : Nd.hearC s x y q d = (s, 6) := by rw [Nd.hearC, if_neg h, Int.toNat_natCast, if_pos hc]
      rw [e]
      exact MHear_none b x y r q d s w ok (by omega) (by omega) (by omega) (by omega) (by omega) (by omega) hc hn
    · have e : Nd.hearC s x y q d = (Nd.hear s x y q d, 0) := by rw [Nd.hearC, if_neg h, Int.toNat_natCast, if_neg hc, Int.toNat_natCast]
      rw [e]
      exact MHear_ok b x y r q d s w ok (by omega) (by omega) (by omega) (by omega) (by omega) (by omega) hc hn

set_option maxRecDepth 100000 in
set_option maxHeartbeats 1000000 in
theorem MTick_any (b : Nat) (s : Nd.NS) (w : World) (hm : s.me < 6) (ho : Nd.Own s) (h0 : 0 ≤ s.wS s.me) (h1 : s.wS s.me < 1000000) (hn : NAt w b 151 s) :
    Calls Tryz.prog 70 #[.pointer (some ⟨b, 0, none⟩)] w (NilFr b 151 (Nd.tick s) w) := by
  have c0 := hn.me
  have c1 := hn.wS hm
  have f1 := hn.fz (79 + s.me * 3)
  have hmi : (s.me : Int) < 6 := by omega
  have hsum := IntWalk.i64_in (s.wS s.me + 1) (by omega)
  have HN := Lib.hid hn; clear hn; have HO := Lib.hid ho; clear ho
  go_enter Tryz.func70, Tryz.ntmps70
  go_wp2
  (refine still_tail 15 (by kernel_rfl) (by kernel_rfl) ?_; simp only [List.take_succ_cons, List.take_zero, List.drop_succ_cons, List.drop_zero]; (iterate 15 (refine wpStill_step (fun K hK => ?_); go_simp; (with_reducible refine hK _ ?_); clear hK K)); refine wpStill_nil ?_)
  go_upto_region 1 with fail
  refine wp_name fun w1 hw1 => ?_
  have hn1 : NAt w1 b 151 { s with wS := Nd.up s.wS s.me (s.wS s.me + 1) } := by
    rw [hw1]
    exact World.rowIs.drew (NAt.set HN.out _ _ (fun j _ => Nd.set_wS s hm (s.wS s.me + 1) j))
  have hf1 : Fr (OneB b) w w1 := by rw [hw1]; exact ((Fr.refl _ w).set1 _ _).drew
  clear hw1 c0 c1 f1 hsum
  have c0 := hn1.me
  have c1 := hn1.wS hm
  simp only [Nd.up_same] at c1
  have c2 := hn1.bS hm
  have c3 := hn1.bD hm
  have f1 := hn1.fz (97 + s.me * 2)
  have f2 := hn1.fz (97 + s.me * 2 + 1)
  have HN1 := Lib.hid hn1; clear hn1; have HF1 := Lib.hid hf1; clear hf1
  (refine still_tail 19 (by kernel_rfl) (by kernel_rfl) ?_; simp only [List.take_succ_cons, List.take_zero, List.drop_succ_cons, List.drop_zero]; (iterate 19 (refine wpStill_step (fun K hK => ?_); go_simp; (with_reducible refine hK _ ?_); clear hK K)); refine wpStill_nil ?_)
  go_wp2
  refine bodyPost_end (results_none rfl _ _ _) rfl ?_
  exact ⟨rfl, by rw [← Nd.tick_ref HO.out]; exact NAt.setB (w := w1.drew) HN1.out hm (s.wS s.me + 1) 0, (HF1.out.drew.set1 _ _).set1 _ _⟩
end Go.Proofs.YteedndapbfihaaaGreat
/- Walks over package node: New. -/
namespace Go.Proofs.YteedndapbfihaaaGreat
open Go.RowKit Go.Deep

theorem zcN : Tryz.zeroCells136 = Array.replicate 109 (.int .i64 0) := by kernel_rfl
theorem newK_zero (me j : Nat) (h0 : 0 < j) : Nd.flat (Nd.newK me 0) j = 0 := by
  unfold Nd.flat Nd.newK
  simp
  omega
theorem zeros109 (w : World) (me : Nat) (t : TypeId) : NAt (w.alloc (.cells ((Array.replicate 109 (.int .i64 0)).setIfInBounds 0 (.int .i64 me)) t)) w.heap.size t (Nd.newK me 0) := by
  have k := World.rowIs_alloc w ((Array.replicate 109 (.int .i64 0)).setIfInBounds 0 (.int .i64 me)) t (I (Nd.flat (Nd.newK me 0))) (by
    intro i hi
    have hi' : i < 109 := by simpa using hi
    match i with
    | 0 => rw [Array.getElem?_setIfInBounds]; simp [I, Nd.flat_me, Nd.newK]
    | i + 1 =>
      rw [Array.getElem?_setIfInBounds, if_neg (by omega), Array.getElem?_replicate, if_pos hi', I, newK_zero me (i + 1) (by omega)])
  simp at k
  exact k

def NewNPost (me : Nat) (t : TypeId) (w : World) (e : Ending) (w' : World) : Prop := e = .returned (.pointer (some ⟨w.heap.size, 0, none⟩)) ∧ NAt w' w.heap.size t (Nd.fresh me) ∧ Fr NoB w w'
def NwRel (me : Nat) (t : TypeId) (w : World) (i : Value) (wr : World) : Prop := ∃ k : Nat, k ≤ 6 ∧ i = .int .i64 k ∧ NAt wr w.heap.size t (Nd.newK me k) ∧ Fr NoB w wr

set_option maxRecDepth 100000 in
set_option maxHeartbeats 4000000 in
theorem New_yes (me : Nat) (w : World) (h : me < 6) : Calls Tryz.prog 95 #[.int .i64 me] w (NewNPost me 136 w) := by
  go_enter Tryz.func95, Tryz.ntmps95
  go_wp2_with fail
  refine (Node_yes _ _ (by omega) (by omega)).mono ?_; rintro e w' ⟨rfl, rfl⟩
  go_wp2
  refine wp_name fun w1 hw1 => ?_
  have hf1 : Fr NoB w w1 := by rw [hw1]; exact (Fr.refl _ w).alloc _
  have hn1 : NAt w1 w.heap.size 136 (Nd.newK me 0) := by
    rw [hw1, zcN]
    exact zeros109 w me _
  clear hw1
  have HF1 := Lib.hid hf1; clear hf1; have HN1 := Lib.hid hn1; clear hn1
  go_loopw [11] (fun i wr => NwRel me 136 w i wr) (fun i _ => 6 - (intOf i).toNat)
  case atStart => exact ⟨0, by omega, rfl, HN1.out, HF1.out⟩
  case round =>
    clear HN1 HF1
    obtain ⟨k, hk, rfl, hn, hf⟩ := hrel
    have hs := hf.size
    have HF := Lib.hid hf; clear hf; have HS := Lib.hid hs; clear hs
    by_cases hk6 : k < 6
    · have g0 := hn.wS hk6
      have g1 := hn.wD hk6
      have g2 := hn.wH hk6
      have e0 := hn.bS hk6
      have e1 := hn.bD hk6
      have f0 := hn.fz (79 + k * 3)
      have f1 := hn.fz (79 + k * 3 + 1)
      have f2 := hn.fz (79 + k * 3 + 2)
      have f3 := hn.fz (97 + k * 2)
      have f4 := hn.fz (97 + k * 2 + 1)
      have HN := Lib.hid hn; clear hn
      go_wp2_with fail
      refine (forget_any _ k (Nd.newW me k) _ hk6 ((HN.out.setW hk6 0 200 (-1)).setB hk6 0 200)).mono ?_
      rintro e w2 ⟨rfl, hn2, hf2⟩
      have hf3 : Fr NoB w w2 := ((((((HF.out.setNew (Nat.le_refl _) _ _).setNew (Nat.le_refl _) _ _).setNew (Nat.le_refl _) _ _).setNew (Nat.le_refl _) _ _).setNew (Nat.le_refl _) _ _).trans' hf2 (fun i hi h => absurd h (by unfold OneB; omega)))
      clear hf2 g0 g1 g2 e0 e1 f0 f1 f2 f3 f4
      have HN2 := Lib.hid hn2; clear hn2; have HF2 := Lib.hid hf3; clear hf3
      go_wp2
      go_roundw
      case rel => exact ⟨k + 1, by omega, by go_num, by rw [Nd.newK_succ]; exact HN2.out, HF2.out⟩
      case measure => simp [intOf]; omega
    · obtain rfl : k = 6 := by omega
      have HN := Lib.hid hn; clear hn
      go_wp2_with fail
      refine (own_any _ (Nd.newK me 6) _ h HN.out).mono ?_
      rintro e w2 ⟨rfl, hn2, hf2⟩
      have hf3 : Fr NoB w w2 := HF.out.trans' hf2 (fun i hi h => absurd h (by unfold OneB; omega))
      clear hf2
      have HN2 := Lib.hid hn2; clear hn2; have HF2 := Lib.hid hf3; clear hf3
      go_wp2
      go_ret
      exact ⟨rfl, HN2.out, HF2.out⟩

end Go.Proofs.YteedndapbfihaaaGreat
/- Walks over handpostref: Mind.Tell, Way; NewMind; SameNews. -/
namespace Go.Proofs.YteedndapbfihaaaGreat
open Go.RowKit Go.Deep

set_option maxHeartbeats 1000000 in
theorem MWay_any (b : Nat) (k : Int) (s : Nd.NS) (w : World) (hn : NAt w b 151 s) :
    Calls Tryz.prog 79 #[.pointer (some ⟨b, 0, none⟩), .int .i64 k] w (WayFr (Nd.wayAt s k) w) := by
  by_cases h : 0 ≤ k ∧ k < 6
  · obtain ⟨x, rfl⟩ := Int.eq_ofNat_of_zero_le h.1
    have hx : x < 6 := by omega
    have hw : Nd.wayAt s (x : Int) = Nd.wayOf s x := by rw [Nd.wayAt, if_pos h, Int.toNat_natCast]
    have c0 := hn.wS hx
    have c1 := hn.wD hx
    have c2 := hn.wH hx
    have hl := hn.lt
    clear hn h
    have HW := Lib.hid hw; clear hw
    go_enter Tryz.func79, Tryz.ntmps79
    go_wp2_with fail
    refine (RNode_yes _ _ (by omega) (by omega)).mono ?_; rintro e w' ⟨rfl, rfl⟩
    go_wp2
    refine bodyPost_ret (v := way3 (Nd.wayOf s x)) ?_ rfl ⟨by rw [HW.out], (Fr.refl _ _).alloc _⟩
    simp [results, Tryz.results79, go_sem, way3, Nd.wayOf]
  · have hw : Nd.wayAt s k = Nd.noWay := by rw [Nd.wayAt, if_neg h]
    clear hn
    have HW := Lib.hid hw; clear hw; have H := Lib.hid h; clear h
    go_enter Tryz.func79, Tryz.ntmps79
    go_wp2_with fail
    refine (RNode_no _ _ H.out).mono ?_; rintro e w' ⟨rfl, rfl⟩
    go_wp2
    refine bodyPost_ret (v := way3 Nd.noWay) ?_ rfl ⟨by rw [HW.out], (Fr.refl _ _).alloc _⟩
    simp [results, Tryz.results79, go_sem, way3, Nd.noWay]

set_option maxRecDepth 100000 in
set_option maxHeartbeats 2000000 in
theorem MTell_any (b : Nat) (who : Int) (s : Nd.NS) (w : World) (hn : NAt w b 151 s) :
    Calls Tryz.prog 97 #[.pointer (some ⟨b, 0, none⟩), .int .i64 who] w (TellPost s who w) := by
  have HN := Lib.hid hn; clear hn
  go_enter Tryz.func97, Tryz.ntmps97
  go_wp2
  go_loopw [5, 6] (fun v i wr => TlRel s who w v i wr) (fun _ i _ => 6 - (intOf i).toNat)
  case atStart => exact ⟨0, by omega, rfl, World.ownsRow_nil _ _ _ _, Fr.refl _ _⟩
  case round =>
    obtain ⟨k, hk, rfl, ho, hf⟩ := hrel
    have HO := Lib.hid ho; clear ho; have HF := Lib.hid hf; clear hf
    by_cases hk6 : k < 6
    · have hkb : decide ((k : Int) < 6) = true := by simp; omega
      have hst := Nd.tellL_succ s who k
      have HST := Lib.hid hst; clear hst
      go_upto_region 5 with fail
      have hn1 := HN.out.keep HF.out (fun h => h)
      have c0 := hn1.me
      have b0 := hn1.wS hk6
      have b1 := hn1.wD hk6
      have hki : (k : Int) < 6 := by omega
      clear hn1
      have hlb : b < wr.heap.size := by have := HN.out.lt; have := HF.out.size; omega
      have key : ∀ (o : Obj) (W : World), Fr (fun i => u5.ownBlock = some i) ((wr.alloc o).drew) W → W.cell? ⟨b, 0, none⟩ = some (.int .i64 s.me) ∧ W.cell? ⟨b, 79 + k * 3, none⟩ = some (.int .i64 (s.wS k)) ∧ W.cell? ⟨b, 79 + k * 3 + 1, none⟩ = some (.int .i64 (s.wD k)) := by
        intro o W h
        have hb := HN.out.lt
        have hv := World.ownsRow.lt HO.out
        have hF : Fr (fun i => u5.ownBlock = some i) wr W := ((Fr.refl _ wr).alloc o).drew.trans h
        have n1 : ¬ u5.ownBlock = some b := fun e => by have := (hv _ e).1; omega
        exact ⟨cell_fr hF c0 n1, cell_fr hF b0 n1, cell_fr hF b1 n1⟩
      have KEY := Lib.hid key; clear key
      go_region_held3 (fun W => W.cell? ⟨b, 0, none⟩ = some (.int .i64 s.me) ∧ W.cell? ⟨b, 79 + k * 3, none⟩ = some (.int .i64 (s.wS k)) ∧ W.cell? ⟨b, 79 + k * 3 + 1, none⟩ = some (.int .i64 (s.wD k)))
        (first | exact ⟨c0, b0, b1⟩ | exact KEY.out _ _ h2 | go_keep)
        ((refine step_app (by rfl) (.tmp 11) (.tmp 33) 36 112 5 40 (.agg #[.int .i64 0, .int .i64 0, .int .i64 0, .int .i64 0, .int .i64 0]) (by rfl) Tryz.underlying36 Tryz.info112 rfl (by omega) w.heap.size u5 k _ (by rfl) (World.ownsRow.drew (World.ownsRow.alloc HO.out _)) ⟨wr.heap.size, 0, none⟩ 1 1 [.int .i64 s.me, .int .i64 who, .int .i64 k, .int .i64 (s.wS k), .int .i64 (s.wD k)] (by rfl) (by rfl) (World.news_of_block (cs := #[.int .i64 s.me, .int .i64 who, .int .i64 k, .int .i64 (s.wS k), .int .i64 (s.wD k)]) (t := 112) (fr := (0, 0)) (heap_alloc_new wr _)) (by simp [Value.oneCell']) (by omega) (by omega) (by omega) (by have := HF.out.size; simp; omega) ?_; intro v' w2 h1 h2))
      have r2 : Fr NoB w w2 := ((HF.out.alloc _).drew).ownB (World.ownsRow.drew (World.ownsRow.alloc HO.out _)) (Nat.le_refl _) h2
      clear h2 b0 b1 c0
      have H1 := Lib.hid h1; clear h1; have R2 := Lib.hid r2; clear r2
      go_wp2
      go_roundw
      case rel => exact ⟨k + 1, by omega, by go_num, by rw [HST.out]; unfold SlN; rw [List.map_append]; exact H1.out, R2.out⟩
      case measure => simp [intOf]; omega
    · obtain rfl : k = 6 := by omega
      go_wp2
      go_ret
      exact ⟨_, rfl, HO.out, HF.out⟩

theorem zcM : Tryz.zeroCells151 = Array.replicate 109 (.int .i64 0) := by kernel_rfl
def NmRel (me : Nat) (w : World) (i : Value) (wr : World) : Prop := ∃ k : Nat, k ≤ 6 ∧ i = .int .i64 k ∧ NAt wr w.heap.size 151 (Nd.newK me k) ∧ Fr NoB w wr
def NmRelI (me k : Nat) (w : World) (i : Value) (wr : World) : Prop := ∃ j : Nat, j ≤ 6 ∧ i = .int .i64 j ∧ NAt wr w.heap.size 151 (Nd.forgetK (Nd.newW me k) k j) ∧ Fr NoB w wr

set_option maxRecDepth 100000 in
set_option maxHeartbeats 4000000 in
theorem NewMind_any (me : Nat) (w : World) (h : me < 6) : Calls Tryz.prog 67 #[.int .i64 me] w (NewNPost me 151 w) := by
  go_enter Tryz.func67, Tryz.ntmps67
  go_wp2
  refine wp_name fun w1 hw1 => ?_
  have hf1 : Fr NoB w w1 := by rw [hw1]; exact (Fr.refl _ w).alloc _
  have hn1 : NAt w1 w.heap.size 151 (Nd.newK me 0) := by
    rw [hw1, zcM]
    exact zeros109 w me _
  clear hw1
  have HF1 := Lib.hid hf1; clear hf1; have HN1 := Lib.hid hn1; clear hn1
  go_loopw [4] (fun i wr => NmRel me w i wr) (fun i _ => 6 - (intOf i).toNat)
  case atStart => exact ⟨0, by omega, rfl, HN1.out, HF1.out⟩
  case round =>
    clear HN1 HF1
    obtain ⟨k, hk, rfl, hn, hf⟩ := hrel
    have hs := hf.size
    have HF := Lib.hid hf; clear hf; have HS := Lib.hid hs; clear hs
    by_cases hk6 : k < 6
    · have hkb : decide ((k : Int) < 6) = true := by simp; omega
      have g0 := hn.wS hk6
      have g1 := hn.wD hk6
      have g2 := hn.wH hk6
      have e0 := hn.bS hk6
      have e1 := hn.bD hk6
      have f0 := hn.fz (79 + k * 3)
      have f1 := hn.fz (79 + k * 3 + 1)
      have f2 := hn.fz (79 + k * 3 + 2)
      have f3 := hn.fz (97 + k * 2)
      have f4 := hn.fz (97 + k * 2 + 1)
      have HN := Lib.hid hn; clear hn
      go_wp2
      refine wp_name fun w2 hw2 => ?_
      have hn2 : NAt w2 w.heap.size 151 (Nd.newW me k) := by rw [hw2]; exact (HN.out.setW hk6 0 200 (-1)).setB hk6 0 200
      have hf2 : Fr NoB w w2 := by rw [hw2]; exact ((((HF.out.setNew (Nat.le_refl _) _ _).setNew (Nat.le_refl _) _ _).setNew (Nat.le_refl _) _ _).setNew (Nat.le_refl _) _ _).setNew (Nat.le_refl _) _ _
      clear hw2 g0 g1 g2 e0 e1 f0 f1 f2 f3 f4 HN HF
      have HN := Lib.hid hn2; clear hn2; have HF := Lib.hid hf2; clear hf2
      go_loopw [5] (fun i wr => NmRelI me k w i wr) (fun i _ => 6 - (intOf i).toNat)
      case atStart => exact ⟨0, by omega, rfl, by rw [Nd.forgetK_zero]; exact HN.out, HF.out⟩
      case round =>
        clear HN HF
        obtain ⟨j, hj, rfl, hn, hf⟩ := hrel
        have HN := Lib.hid hn; clear hn; have HF := Lib.hid hf; clear hf
        by_cases hj6 : j < 6
        · have c1 := HN.out.hS hk6 hj6
          have c2 := HN.out.hD hk6 hj6
          have f1 := HN.out.fz (7 + k * 12 + j * 2)
          have f2 := HN.out.fz (7 + k * 12 + j * 2 + 1)
          go_wp2
          go_roundw
          case rel => exact ⟨j + 1, by omega, by go_num, by rw [Nd.forgetK_succ]; exact HN.out.setH hk6 hj6 0 200, (HF.out.setNew (Nat.le_refl _) _ _).setNew (Nat.le_refl _) _ _⟩
          case measure => simp [intOf]; omega
        · obtain rfl : j = 6 := by omega
          go_wp2
          go_roundw
          case rel => exact ⟨k + 1, by omega, by go_num, by rw [Nd.newK_succ]; exact HN.out, HF.out⟩
          case measure => simp [intOf]; omega
    · obtain rfl : k = 6 := by omega
      have g0 := hn.wS h
      have g1 := hn.wD h
      have g2 := hn.wH h
      have e0 := hn.bS h
      have e1 := hn.bD h
      have f0 := hn.fz (79 + me * 3)
      have f1 := hn.fz (79 + me * 3 + 1)
      have f2 := hn.fz (79 + me * 3 + 2)
      have f3 := hn.fz (97 + me * 2)
      have f4 := hn.fz (97 + me * 2 + 1)
      have HN := Lib.hid hn; clear hn
      go_wp2
      go_ret
      exact ⟨rfl, by rw [← Nd.fresh_ref]; exact (HN.out.setW h 0 0 me).setB h 0 0, ((((HF.out.setNew (Nat.le_refl _) _ _).setNew (Nat.le_refl _) _ _).setNew (Nat.le_refl _) _ _).setNew (Nat.le_refl _) _ _).setNew (Nat.le_refl _) _ _⟩

end Go.Proofs.YteedndapbfihaaaGreat
/- One step of a node's script. -/
namespace Go.Proofs.YteedndapbfihaaaGreat.Nd

def stepN (s : NS) (x0 x1 x2 x4 x5 x6 : Int) : NS := if x0 = 0 then (linkC s x2 x1).1 else if x0 = 1 then (hearC s x2 x4 x5 x6).1 else if x0 = 2 then tick s else s
theorem pick_wSme (s : NS) (k : Nat) : (pick s k).wS s.me = s.wS s.me := by
  unfold Nd.pick; split
  · rfl
  · rename_i hk
    exact up_other _ _ _ _ (fun e => hk e.symm)
theorem all_me (s : NS) : ∀ k, (all s k).me = s.me
  | 0 => rfl
  | k + 1 => by rw [Nd.all, pick_me, all_me s k]
theorem all_wSme (s : NS) : ∀ k, (all s k).wS s.me = s.wS s.me
  | 0 => rfl
  | k + 1 => by
    have := pick_wSme (all s k) k
    rw [all_me] at this
    rw [Nd.all, this, all_wSme s k]
theorem link_me (s : NS) (who : Nat) (c : Int) : (link s who c).me = s.me := by
  unfold Nd.link; dsimp only; split <;> rw [all_me] <;> rfl
theorem link_wSme (s : NS) (who : Nat) (c : Int) : (link s who c).wS s.me = s.wS s.me := by
  unfold Nd.link; dsimp only; split
  · exact all_wSme (forget { s with cost := up s.cost who c } who) 6
  · exact all_wSme { s with cost := up s.cost who c } 6
theorem hear_me (s : NS) (f t : Nat) (q d : Int) : (hear s f t q d).me = s.me := pick_me _ _
theorem hear_wSme (s : NS) (f t : Nat) (q d : Int) : (hear s f t q d).wS s.me = s.wS s.me := pick_wSme { s with hS := up2 s.hS f t q, hD := up2 s.hD f t d } t
theorem linkC_me (s : NS) (who c : Int) : (linkC s who c).1.me = s.me := by unfold linkC; split; rfl; exact link_me _ _ _
theorem hearC_me (s : NS) (f t q d : Int) : (hearC s f t q d).1.me = s.me := by
  unfold hearC; split
  · rfl
  · split
    · rfl
    · exact hear_me _ _ _ _ _
theorem linkC_wSme (s : NS) (who c : Int) : (linkC s who c).1.wS s.me = s.wS s.me := by unfold linkC; split; rfl; exact link_wSme _ _ _
theorem hearC_wSme (s : NS) (f t q d : Int) : (hearC s f t q d).1.wS s.me = s.wS s.me := by
  unfold hearC; split
  · rfl
  · split
    · rfl
    · exact hear_wSme _ _ _ _ _
theorem tick_me (s : NS) : (tick s).me = s.me := rfl
theorem tick_wSme (s : NS) : (tick s).wS s.me = s.wS s.me + 1 := by simp [tick, own]

/-- What holds of a node behind at most n steps. -/
structure Run (s : NS) (n : Nat) : Prop where
  ok : Ok s
  own : Own s
  lo : 0 ≤ s.wS s.me
  hi : s.wS s.me ≤ n
theorem Run.mono {s : NS} {n m : Nat} (h : Run s n) (hm : n ≤ m) : Run s m := ⟨h.ok, h.own, h.lo, by have := h.hi; omega⟩
theorem Run.linkC {s : NS} {n : Nat} (h : Run s n) (who c : Int) : Run (linkC s who c).1 n := ⟨h.ok.linkC who c, h.own.linkC who c, by rw [linkC_me, linkC_wSme]; exact h.lo, by rw [linkC_me, linkC_wSme]; exact h.hi⟩
theorem Run.hearC {s : NS} {n : Nat} (h : Run s n) (f t q d : Int) : Run (hearC s f t q d).1 n := ⟨h.ok.hearC f t q d, h.own.hearC f t q d, by rw [hearC_me, hearC_wSme]; exact h.lo, by rw [hearC_me, hearC_wSme]; exact h.hi⟩
theorem Run.tick {s : NS} {n : Nat} (h : Run s n) : Run (tick s) (n + 1) := ⟨h.ok.tick, Own.tick s, by rw [tick_me, tick_wSme]; have := h.lo; omega, by rw [tick_me, tick_wSme]; have := h.hi; omega⟩
theorem Run.fresh {me : Nat} (h : me < 6) : Run (fresh me) 0 := ⟨Ok.fresh h, Own.fresh me, by simp [Nd.fresh, Nd.own, newK], by simp [Nd.fresh, Nd.own, newK]⟩
theorem Run.step {s : NS} {n : Nat} (h : Run s n) (x0 x1 x2 x4 x5 x6 : Int) : Run (stepN s x0 x1 x2 x4 x5 x6) (n + 1) := by
  unfold stepN
  split
  · exact (h.linkC _ _).mono (by omega)
  · split
    · exact (h.hearC _ _ _ _).mono (by omega)
    · split
      · exact h.tick
      · exact h.mono (by omega)
end Go.Proofs.YteedndapbfihaaaGreat.Nd
/- Walks: handpostlaw.nodeBegun; Way and Best of a node that there is. -/
namespace Go.Proofs.YteedndapbfihaaaGreat
open Go.RowKit Go.Deep

theorem fieldHop (a b c : Int) (w : World) : (Instr.field 47 (.agg #[.int .i64 a, .int .i64 b, .int .i64 c]) 2).run Tryz.prog w = .ok (.int .i64 c) w := by kernel_rfl
end Go.Proofs.YteedndapbfihaaaGreat
