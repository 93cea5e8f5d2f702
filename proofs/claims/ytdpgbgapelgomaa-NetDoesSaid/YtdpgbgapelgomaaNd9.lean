/- Walks over handpostref: Mind.Link, Hear, Tick. -/
import Derived.Test.YtdpgbgapelgomaaNd8
import Derived.Test.YtdpgbgapelgomaaNdMath2
namespace Go.Proofs.Ytdpgbgapelgomaa
open Go.RowKit Go.Deep

def FgRelM (b : Nat) (s : Nd.NS) (who : Nat) (w : World) (i : Value) (wr : World) : Prop := ∃ k : Nat, k ≤ 6 ∧ i = .int .i64 k ∧ NAt wr b 68 (Nd.forgetK s who k) ∧ Fr (OneB b) w wr
def AlRelM (b : Nat) (s : Nd.NS) (w : World) (i : Value) (wr : World) : Prop :=
  ∃ k : Nat, k ≤ 6 ∧ i = .int .i64 k ∧ NAt wr b 68 (Nd.all s k) ∧ Fr (OneB b) w wr

set_option maxRecDepth 100000 in
set_option maxHeartbeats 2000000 in
theorem MLink_ok (b who : Nat) (c : Int) (s : Nd.NS) (w : World) (ok : Nd.Ok s) (hw : who < 6) (hm : who ≠ s.me) (h0 : 0 ≤ c) (h1 : c ≤ 15) (hn : NAt w b 68 s) :
    Calls Try.prog 63 #[.pointer (some ⟨b, 0, none⟩), .int .i64 who, .int .i64 c] w (CodeFr b 68 (Nd.link s who c) 0 w) := by
  have c0 := hn.me
  have c1 := hn.cost hw
  have f1 := hn.fz (1 + who)
  have hb : ((who : Int) == (s.me : Int)) = false := by simp; omega
  have HN := Lib.hid hn; clear hn; have HM := Lib.hid hm; clear hm
  by_cases hz : c = 0
  · subst hz
    have hl : Nd.link s who 0 = Nd.all (Nd.forget { s with cost := Nd.up s.cost who 0 } who) 6 := rfl
    have HL := Lib.hid hl; clear hl
    go_enter Try.func63, Try.ntmps63
    go_wp2_with fail
    refine (RNode_yes _ _ (by omega) (by omega)).mono ?_; rintro e w' ⟨rfl, rfl⟩
    go_wp2
    go_loopw [7] (fun i wr => FgRelM b { s with cost := Nd.up s.cost who 0 } who w i wr) (fun i _ => 6 - (intOf i).toNat)
    case atStart => exact ⟨0, by omega, rfl, by rw [Nd.forgetK_zero]; exact HN.out.setC hw 0, (Fr.refl _ _).set1 _ _⟩
    case round =>
      obtain ⟨k, hk, rfl, hn, hf⟩ := hrel
      have HN1 := Lib.hid hn; clear hn; have HF := Lib.hid hf; clear hf
      clear c0 c1 f1
      by_cases hk6 : k < 6
      · have g1 := HN1.out.hS hw hk6
        have g2 := HN1.out.hD hw hk6
        have f1 := HN1.out.fz (7 + who * 12 + k * 2)
        have f2 := HN1.out.fz (7 + who * 12 + k * 2 + 1)
        go_wp2
        go_roundw
        case rel => exact ⟨k + 1, by omega, by go_num, by rw [Nd.forgetK_succ]; exact HN1.out.setH hw hk6 0 200, (HF.out.set1 _ _).set1 _ _⟩
        case measure => simp [intOf]; omega
      · have hk6b : decide ((k : Int) < 6) = false := by simp; omega
        have hn2 : NAt wr b 68 (Nd.forget { s with cost := Nd.up s.cost who 0 } who) := by rw [Nd.forget, ← (show k = 6 from by omega)]; exact HN1.out
        clear HN1
        have HN2 := Lib.hid hn2; clear hn2
        go_wp2
        obtain ⟨w1, rfl⟩ : ∃ w1 : World, w1 = wr := ⟨_, rfl⟩
        go_loopw [8] (fun i wr => AlRelM b (Nd.forget { s with cost := Nd.up s.cost who 0 } who) w i wr) (fun i _ => 6 - (intOf i).toNat)
        case atStart => exact ⟨0, by omega, rfl, HN2.out, HF.out⟩
        case round =>
          clear HN2 HF hk6b
          obtain ⟨k, hk, rfl, hn, hf⟩ := hrel
          have HN := Lib.hid hn; clear hn; have HF := Lib.hid hf; clear hf
          by_cases hk6 : k < 6
          · go_wp2_with fail
            refine (look_any b k _ _ (Nd.Ok.all (Nd.Ok.forget (Nd.Ok.cost' ok who 0 (by omega) (by omega)) who) k) hk6 HN.out).mono ?_
            rintro e w2 ⟨rfl, hn2, hf2⟩
            have hf3 := HF.out.trans hf2
            clear hf2
            have HN2 := Lib.hid hn2; clear hn2; have HF2 := Lib.hid hf3; clear hf3
            go_wp2
            go_roundw
            case rel => exact ⟨k + 1, by omega, by go_num, HN2.out, HF2.out⟩
            case measure => simp [intOf]; omega
          · obtain rfl : k = 6 := by omega
            go_wp2
            go_ret
            exact ⟨rfl, by rw [HL.out]; exact HN.out, HF.out⟩
  · have hl : Nd.link s who c = Nd.all { s with cost := Nd.up s.cost who c } 6 := by simp [Nd.link, hz]
    have hzb : (c == 0) = false := by simpa using hz
    have HL := Lib.hid hl; clear hl; have HZ := Lib.hid hz; clear hz
    go_enter Try.func63, Try.ntmps63
    go_wp2_with fail
    refine (RNode_yes _ _ (by omega) (by omega)).mono ?_; rintro e w' ⟨rfl, rfl⟩
    go_wp2
    refine wp_loop_rounds 1 ?_
    rw [rounds_succ]
    go_wp2
    go_loopw [8] (fun i wr => AlRelM b { s with cost := Nd.up s.cost who c } w i wr) (fun i _ => 6 - (intOf i).toNat)
    case atStart => exact ⟨0, by omega, rfl, HN.out.setC hw c, (Fr.refl _ _).set1 _ _⟩
    case round =>
      clear c0 c1 f1
      obtain ⟨k, hk, rfl, hn, hf⟩ := hrel
      have HN := Lib.hid hn; clear hn; have HF := Lib.hid hf; clear hf
      by_cases hk6 : k < 6
      · go_wp2_with fail
        refine (look_any b k _ _ (Nd.Ok.all (Nd.Ok.cost' ok who c (by omega) (by omega)) k) hk6 HN.out).mono ?_
        rintro e w2 ⟨rfl, hn2, hf2⟩
        have hf3 := HF.out.trans hf2
        clear hf2
        have HN2 := Lib.hid hn2; clear hn2; have HF2 := Lib.hid hf3; clear hf3
        go_wp2
        go_roundw
        case rel => exact ⟨k + 1, by omega, by go_num, HN2.out, HF2.out⟩
        case measure => simp [intOf]; omega
      · obtain rfl : k = 6 := by omega
        go_wp2
        go_ret
        exact ⟨rfl, by rw [HL.out]; exact HN.out, HF.out⟩

set_option maxRecDepth 100000 in
set_option maxHeartbeats 1000000 in
theorem MLink_no (b : Nat) (who c : Int) (s : Nd.NS) (w : World) (h : Nd.linkBad s who c) (hn : NAt w b 68 s) :
    Calls Try.prog 63 #[.pointer (some ⟨b, 0, none⟩), .int .i64 who, .int .i64 c] w fun e w' => e = .returned (.int .i64 1) ∧ w = w' := by
  have c0 := hn.me
  clear hn
  by_cases hw : 0 ≤ who ∧ who < 6
  · obtain ⟨hw0, hw1⟩ := hw
    by_cases hm : who = s.me
    · have hb : (who == (s.me : Int)) = true := by simp [hm]
      clear h hm
      go_enter Try.func63, Try.ntmps63
      go_wp2_with fail
      refine (RNode_yes _ _ hw0 hw1).mono ?_; rintro e w' ⟨rfl, rfl⟩
      go_wp2
      go_ret
      exact ⟨rfl, rfl⟩
    · have hb : (who == (s.me : Int)) = false := by simpa using hm
      by_cases hc : c < 0
      · clear h hm
        go_enter Try.func63, Try.ntmps63
        go_wp2_with fail
        refine (RNode_yes _ _ hw0 hw1).mono ?_; rintro e w' ⟨rfl, rfl⟩
        go_wp2
        go_ret
        exact ⟨rfl, rfl⟩
      · have hc0 : 0 ≤ c := by omega
        have hc1 : 15 < c := by
          rcases h with h | h | h | h
          · exact absurd ⟨hw0, hw1⟩ h
          · exact absurd h hm
          · exact absurd h hc
          · exact h
        clear h hm hc
        go_enter Try.func63, Try.ntmps63
        go_wp2_with fail
        refine (RNode_yes _ _ hw0 hw1).mono ?_; rintro e w' ⟨rfl, rfl⟩
        go_wp2
        go_ret
        exact ⟨rfl, rfl⟩
  · have HW := Lib.hid hw; clear hw h
    go_enter Try.func63, Try.ntmps63
    go_wp2_with fail
    refine (RNode_no _ _ HW.out).mono ?_; rintro e w' ⟨rfl, rfl⟩
    go_wp2
    go_ret
    exact ⟨rfl, rfl⟩

theorem MLink_any (b : Nat) (who c : Int) (s : Nd.NS) (w : World) (ok : Nd.Ok s) (hn : NAt w b 68 s) :
    Calls Try.prog 63 #[.pointer (some ⟨b, 0, none⟩), .int .i64 who, .int .i64 c] w (CodeFr b 68 (Nd.linkC s who c).1 (Nd.linkC s who c).2 w) := by
  by_cases h : Nd.linkBad s who c
  · have e : Nd.linkC s who c = (s, 1) := by rw [Nd.linkC, if_pos h]
    rw [e]
    refine (MLink_no b who c s w h hn).mono ?_
    rintro e w' ⟨rfl, rfl⟩
    exact ⟨rfl, hn, Fr.refl _ _⟩
  · have e : Nd.linkC s who c = (Nd.link s who.toNat c, 0) := by rw [Nd.linkC, if_neg h]
    rw [e]
    simp only [Nd.linkBad] at h
    obtain ⟨x, rfl⟩ := Int.eq_ofNat_of_zero_le (a := who) (by omega)
    rw [Int.toNat_natCast]
    exact MLink_ok b x c s w ok (by omega) (by omega) (by omega) (by omega) hn

theorem RNode_q (n : Int) (w : World) : Calls Try.prog 19 #[.int .i64 n] w fun e w' => e = .returned (.bool (isNode n)) ∧ w' = w :=
  (RNode_any n w).mono fun _ _ h => ⟨h.1, h.2.symm⟩
set_option maxRecDepth 100000 in
set_option maxHeartbeats 2000000 in
theorem MHear_bad (b : Nat) (f r t q d : Int) (s : Nd.NS) (w : World) (h : Nd.hearBad s f t q d) (hn : NAt w b 68 s) :
    Calls Try.prog 64 #[.pointer (some ⟨b, 0, none⟩), news5 f r t q d] w (CodeFr b 68 s 1 w) := by
  have hl := hn.lt
  have H : (isNode f = false) ∨ (isNode f = true ∧ isNode t = false) ∨ (isNode f = true ∧ isNode t = true ∧ (f == (s.me : Int)) = true) ∨ (isNode f = true ∧ isNode t = true ∧ (f == (s.me : Int)) = false ∧ decide (q < 0) = true) ∨ (isNode f = true ∧ isNode t = true ∧ (f == (s.me : Int)) = false ∧ decide (q < 0) = false ∧ decide (d < 0) = true) ∨ (isNode f = true ∧ isNode t = true ∧ (f == (s.me : Int)) = false ∧ decide (q < 0) = false ∧ decide (d < 0) = false ∧ decide (200 < d) = true) := by
    by_cases h1 : 0 ≤ f ∧ f < 6
    · by_cases h2 : 0 ≤ t ∧ t < 6
      · by_cases h3 : f = s.me
        · exact .inr (.inr (.inl ⟨isNode_yes h1, isNode_yes h2, by simpa using h3⟩))
        · by_cases h4 : q < 0
          · exact .inr (.inr (.inr (.inl ⟨isNode_yes h1, isNode_yes h2, by simpa using h3, by simpa using h4⟩)))
          · by_cases h5 : d < 0
            · exact .inr (.inr (.inr (.inr (.inl ⟨isNode_yes h1, isNode_yes h2, by simpa using h3, by simpa using h4, by simpa using h5⟩))))
            · exact .inr (.inr (.inr (.inr (.inr ⟨isNode_yes h1, isNode_yes h2, by simpa using h3, by simpa using h4, by simpa using h5, by simp only [Nd.hearBad] at h; simp; omega⟩))))
      · exact .inr (.inl ⟨isNode_yes h1, isNode_no h2⟩)
    · exact .inl (isNode_no h1)
  have c0 := hn.me
  have HN := Lib.hid hn; clear hn
  clear h
  rcases H with h1 | ⟨h1, h2⟩ | ⟨h1, h2, h3⟩ | ⟨h1, h2, h3, h4⟩ | ⟨h1, h2, h3, h4, h5⟩ | ⟨h1, h2, h3, h4, h5, h6⟩
  all_goals
    go_enter Try.func64, Try.ntmps64
    unfold news5
    go_wp2
    refine wp_name fun w1 hw1 => ?_
    have hf1 : Fr NoB w w1 := by rw [hw1]; exact (Fr.refl _ w).alloc _
    have hn1 := HN.out.keep hf1 (fun h => h)
    have b0 : w1.cell? ⟨w.heap.size, 0, none⟩ = some (.int .i64 f) := by rw [hw1]; simp
    have b2 : w1.cell? ⟨w.heap.size, 2, none⟩ = some (.int .i64 t) := by rw [hw1]; simp
    have b3 : w1.cell? ⟨w.heap.size, 3, none⟩ = some (.int .i64 q) := by rw [hw1]; simp
    have b4 : w1.cell? ⟨w.heap.size, 4, none⟩ = some (.int .i64 d) := by rw [hw1]; simp
    clear hw1 c0
    have c0 := hn1.me
    have HF := Lib.hid hf1; clear hf1; have HN1 := Lib.hid hn1; clear hn1
    go_quiet ((go_at_call 19; exact Calls.quiet_of_same (RNode_q _ _)))
    go_wp2
    go_ret
    exact ⟨rfl, HN1.out, HF.out.one.drewN _⟩

set_option maxRecDepth 100000 in
set_option maxHeartbeats 2000000 in
theorem MHear_none (b x y : Nat) (r q d : Int) (s : Nd.NS) (w : World) (ok : Nd.Ok s) (hx : x < 6) (hy : y < 6) (hm : x ≠ s.me) (q0 : 0 ≤ q) (d0 : 0 ≤ d) (d1 : d ≤ 200) (hc : s.cost x = 0) (hn : NAt w b 68 s) :
    Calls Try.prog 64 #[.pointer (some ⟨b, 0, none⟩), news5 x r y q d] w (CodeFr b 68 s 6 w) := by
  have hl := hn.lt
  have h1 : isNode x = true := isNode_yes (by omega)
  have h2 : isNode y = true := isNode_yes (by omega)
  have h3 : ((x : Int) == (s.me : Int)) = false := by simp; omega
  have h4 : decide (q < 0) = false := by simpa using q0
  have h5 : decide (d < 0) = false := by simpa using d0
  have h6 : decide (200 < d) = false := by simpa using d1
  have hxi : (x : Int) < 6 := by omega
  have hyi : (y : Int) < 6 := by omega
  have hcb : (s.cost x == 0) = true := by simp [hc]
  clear hc
  have HN := Lib.hid hn; clear hn
  go_enter Try.func64, Try.ntmps64
  unfold news5
  go_wp2
  refine wp_name fun w1 hw1 => ?_
  have hf1 : Fr NoB w w1 := by rw [hw1]; exact (Fr.refl _ w).alloc _
  have hn1 := HN.out.keep hf1 (fun h => h)
  have b0 : w1.cell? ⟨w.heap.size, 0, none⟩ = some (.int .i64 x) := by rw [hw1]; simp
  have b2 : w1.cell? ⟨w.heap.size, 2, none⟩ = some (.int .i64 y) := by rw [hw1]; simp
  have b3 : w1.cell? ⟨w.heap.size, 3, none⟩ = some (.int .i64 q) := by rw [hw1]; simp
  have b4 : w1.cell? ⟨w.heap.size, 4, none⟩ = some (.int .i64 d) := by rw [hw1]; simp
  clear hw1
  have c0 := hn1.me
  have c1 := hn1.cost hx
  have g1 := hn1.hS hx hy
  have g2 := hn1.hD hx hy
  have f1 := hn1.fz (7 + x * 12 + y * 2)
  have f2 := hn1.fz (7 + x * 12 + y * 2 + 1)
  have HF := Lib.hid hf1; clear hf1; have HN1 := Lib.hid hn1; clear hn1; have HM := Lib.hid hm; clear hm; have HOk := Lib.hid ok; clear ok
  go_quiet ((go_at_call 19; exact Calls.quiet_of_same (RNode_q _ _)))
  go_wp2
  go_quiet (fail)
  go_wp2
  go_ret
  exact ⟨rfl, HN1.out, (HF.out.one.drewN _).drewN _⟩

set_option maxRecDepth 100000 in
set_option maxHeartbeats 2000000 in
theorem MHear_ok (b x y : Nat) (r q d : Int) (s : Nd.NS) (w : World) (ok : Nd.Ok s) (hx : x < 6) (hy : y < 6) (hm : x ≠ s.me) (q0 : 0 ≤ q) (d0 : 0 ≤ d) (d1 : d ≤ 200) (hc : s.cost x ≠ 0) (hn : NAt w b 68 s) :
    Calls Try.prog 64 #[.pointer (some ⟨b, 0, none⟩), news5 x r y q d] w (CodeFr b 68 (Nd.hear s x y q d) 0 w) := by
  have hl := hn.lt
  have h1 : isNode x = true := isNode_yes (by omega)
  have h2 : isNode y = true := isNode_yes (by omega)
  have h3 : ((x : Int) == (s.me : Int)) = false := by simp; omega
  have h4 : decide (q < 0) = false := by simpa using q0
  have h5 : decide (d < 0) = false := by simpa using d0
  have h6 : decide (200 < d) = false := by simpa using d1
  have hxi : (x : Int) < 6 := by omega
  have hyi : (y : Int) < 6 := by omega
  have hcb : (s.cost x == 0) = false := by simp [hc]
  clear hc
  have HN := Lib.hid hn; clear hn
  go_enter Try.func64, Try.ntmps64
  unfold news5
  go_wp2
  refine wp_name fun w1 hw1 => ?_
  have hf1 : Fr NoB w w1 := by rw [hw1]; exact (Fr.refl _ w).alloc _
  have hn1 := HN.out.keep hf1 (fun h => h)
  have b0 : w1.cell? ⟨w.heap.size, 0, none⟩ = some (.int .i64 x) := by rw [hw1]; simp
  have b2 : w1.cell? ⟨w.heap.size, 2, none⟩ = some (.int .i64 y) := by rw [hw1]; simp
  have b3 : w1.cell? ⟨w.heap.size, 3, none⟩ = some (.int .i64 q) := by rw [hw1]; simp
  have b4 : w1.cell? ⟨w.heap.size, 4, none⟩ = some (.int .i64 d) := by rw [hw1]; simp
  clear hw1
  have c0 := hn1.me
  have c1 := hn1.cost hx
  have g1 := hn1.hS hx hy
  have g2 := hn1.hD hx hy
  have f1 := hn1.fz (7 + x * 12 + y * 2)
  have f2 := hn1.fz (7 + x * 12 + y * 2 + 1)
  have HF := Lib.hid hf1; clear hf1; have HN1 := Lib.hid hn1; clear hn1; have HM := Lib.hid hm; clear hm; have HOk := Lib.hid ok; clear ok
  go_quiet ((go_at_call 19; exact Calls.quiet_of_same (RNode_q _ _)))
  go_wp2
  go_quiet (fail)
  go_wp2
  refine wp_name fun w2 hw2 => ?_
  have hn2 := HN1.out
  have hf2 : Fr (OneB b) w w2 := by rw [hw2]; exact (HF.out.one.drewN _).drewN _
  have hn2 : NAt w2 b 68 s := by rw [hw2]; exact HN1.out
  have b0 : w2.cell? ⟨w.heap.size, 0, none⟩ = some (.int .i64 x) := by rw [hw2]; exact b0
  have b2 : w2.cell? ⟨w.heap.size, 2, none⟩ = some (.int .i64 y) := by rw [hw2]; exact b2
  have b3 : w2.cell? ⟨w.heap.size, 3, none⟩ = some (.int .i64 q) := by rw [hw2]; exact b3
  have b4 : w2.cell? ⟨w.heap.size, 4, none⟩ = some (.int .i64 d) := by rw [hw2]; exact b4
  clear hw2 c0 c1 g1 g2 f1 f2
  have g1 := hn2.hS hx hy
  have g2 := hn2.hD hx hy
  have f1 := hn2.fz (7 + x * 12 + y * 2)
  have f2 := hn2.fz (7 + x * 12 + y * 2 + 1)
  clear HN1 HF
  have HN1 := Lib.hid hn2; clear hn2; have HF := Lib.hid hf2; clear hf2
  (refine still_tail 14 (by kernel_rfl) (by kernel_rfl) ?_; simp only [List.take_succ_cons, List.take_zero, List.drop_succ_cons, List.drop_zero]; (iterate 14 (refine wpStill_step (fun K hK => ?_); go_simp; (with_reducible refine hK _ ?_); clear hK K)); refine wpStill_nil ?_)
  go_wp2_with fail
  refine (look_any b y _ _ (Nd.Ok.heard HOk.out x y q d q0 d0 d1) hy (World.rowIs.drew (HN1.out.setH hx hy q d))).mono ?_
  rintro e w3 ⟨rfl, hn3, hf3⟩
  have hf4 : Fr (OneB b) w w3 := ((HF.out.set1 _ _).set1 _ _).drew.trans hf3
  clear hf3 b0 b2 b3 b4 g1 g2 f1 f2
  have HN3 := Lib.hid hn3; clear hn3; have HF4 := Lib.hid hf4; clear hf4
  go_wp2
  go_ret
  exact ⟨rfl, HN3.out, HF4.out⟩

theorem MHear_any (b : Nat) (f r t q d : Int) (s : Nd.NS) (w : World) (ok : Nd.Ok s) (hn : NAt w b 68 s) :
    Calls Try.prog 64 #[.pointer (some ⟨b, 0, none⟩), news5 f r t q d] w (CodeFr b 68 (Nd.hearC s f t q d).1 (Nd.hearC s f t q d).2 w) := by
  by_cases h : Nd.hearBad s f t q d
  · have e : Nd.hearC s f t q d = (s, 1) := by rw [Nd.hearC, if_pos h]
    rw [e]
    exact MHear_bad b f r t q d s w h hn
  · have h2 := h
    simp only [Nd.hearBad] at h2
    obtain ⟨x, rfl⟩ := Int.eq_ofNat_of_zero_le (a := f) (by omega)
    obtain ⟨y, rfl⟩ := Int.eq_ofNat_of_zero_le (a := t) (by omega)
    by_cases hc : s.cost x = 0
    · have e : Nd.hearC s x y q d = (s, 6) := by rw [Nd.hearC, if_neg h, Int.toNat_natCast, if_pos hc]
      rw [e]
      exact MHear_none b x y r q d s w ok (by omega) (by omega) (by omega) (by omega) (by omega) (by omega) hc hn
    · have e : Nd.hearC s x y q d = (Nd.hear s x y q d, 0) := by rw [Nd.hearC, if_neg h, Int.toNat_natCast, if_neg hc, Int.toNat_natCast]
      rw [e]
      exact MHear_ok b x y r q d s w ok (by omega) (by omega) (by omega) (by omega) (by omega) (by omega) hc hn

set_option maxRecDepth 100000 in
set_option maxHeartbeats 1000000 in
theorem MTick_any (b : Nat) (s : Nd.NS) (w : World) (hm : s.me < 6) (ho : Nd.Own s) (h0 : 0 ≤ s.wS s.me) (h1 : s.wS s.me < 1000000) (hn : NAt w b 68 s) :
    Calls Try.prog 65 #[.pointer (some ⟨b, 0, none⟩)] w (NilFr b 68 (Nd.tick s) w) := by
  have c0 := hn.me
  have c1 := hn.wS hm
  have f1 := hn.fz (79 + s.me * 3)
  have hmi : (s.me : Int) < 6 := by omega
  have hsum := IntWalk.i64_in (s.wS s.me + 1) (by omega)
  have HN := Lib.hid hn; clear hn; have HO := Lib.hid ho; clear ho
  go_enter Try.func65, Try.ntmps65
  go_wp2
  (refine still_tail 15 (by kernel_rfl) (by kernel_rfl) ?_; simp only [List.take_succ_cons, List.take_zero, List.drop_succ_cons, List.drop_zero]; (iterate 15 (refine wpStill_step (fun K hK => ?_); go_simp; (with_reducible refine hK _ ?_); clear hK K)); refine wpStill_nil ?_)
  go_upto_region 1 with fail
  refine wp_name fun w1 hw1 => ?_
  have hn1 : NAt w1 b 68 { s with wS := Nd.up s.wS s.me (s.wS s.me + 1) } := by
    rw [hw1]
    exact World.rowIs.drew (NAt.set HN.out _ _ (fun j _ => Nd.set_wS s hm (s.wS s.me + 1) j))
  have hf1 : Fr (OneB b) w w1 := by rw [hw1]; exact ((Fr.refl _ w).set1 _ _).drew
  clear hw1 c0 c1 f1 hsum
  have c0 := hn1.me
  have c1 := hn1.wS hm
  simp only [Nd.up_same] at c1
  have c2 := hn1.bS hm
  have c3 := hn1.bD hm
  have f1 := hn1.fz (97 + s.me * 2)
  have f2 := hn1.fz (97 + s.me * 2 + 1)
  have HN1 := Lib.hid hn1; clear hn1; have HF1 := Lib.hid hf1; clear hf1
  (refine still_tail 19 (by kernel_rfl) (by kernel_rfl) ?_; simp only [List.take_succ_cons, List.take_zero, List.drop_succ_cons, List.drop_zero]; (iterate 19 (refine wpStill_step (fun K hK => ?_); go_simp; (with_reducible refine hK _ ?_); clear hK K)); refine wpStill_nil ?_)
  go_wp2
  refine bodyPost_end (results_none rfl _ _ _) rfl ?_
  exact ⟨rfl, by rw [← Nd.tick_ref HO.out]; exact NAt.setB (w := w1.drew) HN1.out hm (s.wS s.me + 1) 0, (HF1.out.drew.set1 _ _).set1 _ _⟩
end Go.Proofs.Ytdpgbgapelgomaa
