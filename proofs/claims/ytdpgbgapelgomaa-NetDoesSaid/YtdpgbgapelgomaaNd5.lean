/- Walks over package node: Hear, New. -/
import Derived.Test.YtdpgbgapelgomaaNd4
namespace Go.Proofs.Ytdpgbgapelgomaa
open Go.RowKit Go.Deep

def news5 (f r t q d : Int) : Value := .agg #[.int .i64 f, .int .i64 r, .int .i64 t, .int .i64 q, .int .i64 d]
theorem Node_q (n : Int) (w : World) : Calls Try.prog 18 #[.int .i64 n] w fun e w' => e = .returned (.bool (isNode n)) ∧ w' = w :=
  (Node_any n w).mono fun _ _ h => ⟨h.1, h.2.symm⟩
theorem isNode_yes {n : Int} (h : 0 ≤ n ∧ n < 6) : isNode n = true := by simp [isNode, h]
theorem isNode_no {n : Int} (h : ¬ (0 ≤ n ∧ n < 6)) : isNode n = false := by simp only [isNode, h, decide_false]

set_option maxRecDepth 100000 in
set_option maxHeartbeats 2000000 in
theorem Hear_bad (b : Nat) (f r t q d : Int) (s : Nd.NS) (w : World) (h : Nd.hearBad s f t q d) (hn : NAt w b 110 s) :
    Calls Try.prog 34 #[.pointer (some ⟨b, 0, none⟩), news5 f r t q d] w (CodeFr b 110 s 1 w) := by
  have hl := hn.lt
  have H : (isNode f = false) ∨ (isNode f = true ∧ isNode t = false) ∨ (isNode f = true ∧ isNode t = true ∧ (f == (s.me : Int)) = true) ∨ (isNode f = true ∧ isNode t = true ∧ (f == (s.me : Int)) = false ∧ decide (q < 0) = true) ∨ (isNode f = true ∧ isNode t = true ∧ (f == (s.me : Int)) = false ∧ decide (q < 0) = false ∧ decide (d < 0) = true) ∨ (isNode f = true ∧ isNode t = true ∧ (f == (s.me : Int)) = false ∧ decide (q < 0) = false ∧ decide (d < 0) = false ∧ decide (200 < d) = true) := by
    by_cases h1 : 0 ≤ f ∧ f < 6
    · by_cases h2 : 0 ≤ t ∧ t < 6
      · by_cases h3 : f = s.me
        · exact .inr (.inr (.inl ⟨isNode_yes h1, isNode_yes h2, by simpa using h3⟩))
        · by_cases h4 : q < 0
          · exact .inr (.inr (.inr (.inl ⟨isNode_yes h1, isNode_yes h2, by simpa using h3, by simpa using h4⟩)))
          · by_cases h5 : d < 0
            · exact .inr (.inr (.inr (.inr (.inl ⟨isNode_yes h1, isNode_yes h2, by simpa using h3, by simpa using h4, by simpa using h5⟩))))
            · exact .inr (.inr (.inr (.inr (.inr ⟨isNode_yes h1, isNode_yes h2, by simpa using h3, by simpa using h4, by simpa using h5, by simp only [Nd.hearBad] at h; simp; omega⟩))))
      · exact .inr (.inl ⟨isNode_yes h1, isNode_no h2⟩)
    · exact .inl (isNode_no h1)
  have c0 := hn.me
  have HN := Lib.hid hn; clear hn
  clear h
  rcases H with h1 | ⟨h1, h2⟩ | ⟨h1, h2, h3⟩ | ⟨h1, h2, h3, h4⟩ | ⟨h1, h2, h3, h4, h5⟩ | ⟨h1, h2, h3, h4, h5, h6⟩
  all_goals
    go_enter Try.func34, Try.ntmps34
    unfold news5
    go_wp2
    refine wp_name fun w1 hw1 => ?_
    have hf1 : Fr NoB w w1 := by rw [hw1]; exact (Fr.refl _ w).alloc _
    have hn1 := HN.out.keep hf1 (fun h => h)
    have b0 : w1.cell? ⟨w.heap.size, 0, none⟩ = some (.int .i64 f) := by rw [hw1]; simp
    have b2 : w1.cell? ⟨w.heap.size, 2, none⟩ = some (.int .i64 t) := by rw [hw1]; simp
    have b3 : w1.cell? ⟨w.heap.size, 3, none⟩ = some (.int .i64 q) := by rw [hw1]; simp
    have b4 : w1.cell? ⟨w.heap.size, 4, none⟩ = some (.int .i64 d) := by rw [hw1]; simp
    clear hw1 c0
    have c0 := hn1.me
    have HF := Lib.hid hf1; clear hf1; have HN1 := Lib.hid hn1; clear hn1
    go_quiet ((go_at_call 18; exact Calls.quiet_of_same (Node_q _ _)))
    go_wp2
    go_ret
    exact ⟨rfl, HN1.out, HF.out.one.drewN _⟩

set_option maxRecDepth 100000 in
set_option maxHeartbeats 2000000 in
theorem Hear_none (b x y : Nat) (r q d : Int) (s : Nd.NS) (w : World) (ok : Nd.Ok s) (hx : x < 6) (hy : y < 6) (hm : x ≠ s.me) (q0 : 0 ≤ q) (d0 : 0 ≤ d) (d1 : d ≤ 200) (hc : s.cost x = 0) (hn : NAt w b 110 s) :
    Calls Try.prog 34 #[.pointer (some ⟨b, 0, none⟩), news5 x r y q d] w (CodeFr b 110 s 6 w) := by
  have hl := hn.lt
  have h1 : isNode x = true := isNode_yes (by omega)
  have h2 : isNode y = true := isNode_yes (by omega)
  have h3 : ((x : Int) == (s.me : Int)) = false := by simp; omega
  have h4 : decide (q < 0) = false := by simpa using q0
  have h5 : decide (d < 0) = false := by simpa using d0
  have h6 : decide (200 < d) = false := by simpa using d1
  have hxi : (x : Int) < 6 := by omega
  have hyi : (y : Int) < 6 := by omega
  have hcb : (s.cost x == 0) = true := by simp [hc]
  clear hc
  have HN := Lib.hid hn; clear hn
  go_enter Try.func34, Try.ntmps34
  unfold news5
  go_wp2
  refine wp_name fun w1 hw1 => ?_
  have hf1 : Fr NoB w w1 := by rw [hw1]; exact (Fr.refl _ w).alloc _
  have hn1 := HN.out.keep hf1 (fun h => h)
  have b0 : w1.cell? ⟨w.heap.size, 0, none⟩ = some (.int .i64 x) := by rw [hw1]; simp
  have b2 : w1.cell? ⟨w.heap.size, 2, none⟩ = some (.int .i64 y) := by rw [hw1]; simp
  have b3 : w1.cell? ⟨w.heap.size, 3, none⟩ = some (.int .i64 q) := by rw [hw1]; simp
  have b4 : w1.cell? ⟨w.heap.size, 4, none⟩ = some (.int .i64 d) := by rw [hw1]; simp
  clear hw1
  have c0 := hn1.me
  have c1 := hn1.cost hx
  have g1 := hn1.hS hx hy
  have g2 := hn1.hD hx hy
  have f1 := hn1.fz (7 + x * 12 + y * 2)
  have f2 := hn1.fz (7 + x * 12 + y * 2 + 1)
  have HF := Lib.hid hf1; clear hf1; have HN1 := Lib.hid hn1; clear hn1; have HM := Lib.hid hm; clear hm; have HOk := Lib.hid ok; clear ok
  go_quiet ((go_at_call 18; exact Calls.quiet_of_same (Node_q _ _)))
  go_wp2
  go_quiet (fail)
  go_wp2
  go_ret
  exact ⟨rfl, HN1.out, (HF.out.one.drewN _).drewN _⟩

set_option maxRecDepth 100000 in
set_option maxHeartbeats 2000000 in
theorem Hear_ok (b x y : Nat) (r q d : Int) (s : Nd.NS) (w : World) (ok : Nd.Ok s) (hx : x < 6) (hy : y < 6) (hm : x ≠ s.me) (q0 : 0 ≤ q) (d0 : 0 ≤ d) (d1 : d ≤ 200) (hc : s.cost x ≠ 0) (hn : NAt w b 110 s) :
    Calls Try.prog 34 #[.pointer (some ⟨b, 0, none⟩), news5 x r y q d] w (CodeFr b 110 (Nd.hear s x y q d) 0 w) := by
  have hl := hn.lt
  have h1 : isNode x = true := isNode_yes (by omega)
  have h2 : isNode y = true := isNode_yes (by omega)
  have h3 : ((x : Int) == (s.me : Int)) = false := by simp; omega
  have h4 : decide (q < 0) = false := by simpa using q0
  have h5 : decide (d < 0) = false := by simpa using d0
  have h6 : decide (200 < d) = false := by simpa using d1
  have hxi : (x : Int) < 6 := by omega
  have hyi : (y : Int) < 6 := by omega
  have hcb : (s.cost x == 0) = false := by simp [hc]
  clear hc
  have HN := Lib.hid hn; clear hn
  go_enter Try.func34, Try.ntmps34
  unfold news5
  go_wp2
  refine wp_name fun w1 hw1 => ?_
  have hf1 : Fr NoB w w1 := by rw [hw1]; exact (Fr.refl _ w).alloc _
  have hn1 := HN.out.keep hf1 (fun h => h)
  have b0 : w1.cell? ⟨w.heap.size, 0, none⟩ = some (.int .i64 x) := by rw [hw1]; simp
  have b2 : w1.cell? ⟨w.heap.size, 2, none⟩ = some (.int .i64 y) := by rw [hw1]; simp
  have b3 : w1.cell? ⟨w.heap.size, 3, none⟩ = some (.int .i64 q) := by rw [hw1]; simp
  have b4 : w1.cell? ⟨w.heap.size, 4, none⟩ = some (.int .i64 d) := by rw [hw1]; simp
  clear hw1
  have c0 := hn1.me
  have c1 := hn1.cost hx
  have g1 := hn1.hS hx hy
  have g2 := hn1.hD hx hy
  have f1 := hn1.fz (7 + x * 12 + y * 2)
  have f2 := hn1.fz (7 + x * 12 + y * 2 + 1)
  have HF := Lib.hid hf1; clear hf1; have HN1 := Lib.hid hn1; clear hn1; have HM := Lib.hid hm; clear hm; have HOk := Lib.hid ok; clear ok
  go_quiet ((go_at_call 18; exact Calls.quiet_of_same (Node_q _ _)))
  go_wp2
  go_quiet (fail)
  go_wp2
  refine wp_name fun w2 hw2 => ?_
  have hn2 := HN1.out
  have hf2 : Fr (OneB b) w w2 := by rw [hw2]; exact (HF.out.one.drewN _).drewN _
  have hn2 : NAt w2 b 110 s := by rw [hw2]; exact HN1.out
  have b0 : w2.cell? ⟨w.heap.size, 0, none⟩ = some (.int .i64 x) := by rw [hw2]; exact b0
  have b2 : w2.cell? ⟨w.heap.size, 2, none⟩ = some (.int .i64 y) := by rw [hw2]; exact b2
  have b3 : w2.cell? ⟨w.heap.size, 3, none⟩ = some (.int .i64 q) := by rw [hw2]; exact b3
  have b4 : w2.cell? ⟨w.heap.size, 4, none⟩ = some (.int .i64 d) := by rw [hw2]; exact b4
  clear hw2 c0 c1 g1 g2 f1 f2
  have g1 := hn2.hS hx hy
  have g2 := hn2.hD hx hy
  have f1 := hn2.fz (7 + x * 12 + y * 2)
  have f2 := hn2.fz (7 + x * 12 + y * 2 + 1)
  clear HN1 HF
  have HN1 := Lib.hid hn2; clear hn2; have HF := Lib.hid hf2; clear hf2
  (refine still_tail 14 (by kernel_rfl) (by kernel_rfl) ?_; simp only [List.take_succ_cons, List.take_zero, List.drop_succ_cons, List.drop_zero]; (iterate 14 (refine wpStill_step (fun K hK => ?_); go_simp; (with_reducible refine hK _ ?_); clear hK K)); refine wpStill_nil ?_)
  go_wp2_with fail
  refine (pick_any b y _ _ (Nd.Ok.heard HOk.out x y q d q0 d0 d1) hy (World.rowIs.drew (HN1.out.setH hx hy q d))).mono ?_
  rintro e w3 ⟨rfl, hn3, hf3⟩
  have hf4 : Fr (OneB b) w w3 := ((HF.out.set1 _ _).set1 _ _).drew.trans hf3
  clear hf3 b0 b2 b3 b4 g1 g2 f1 f2
  have HN3 := Lib.hid hn3; clear hn3; have HF4 := Lib.hid hf4; clear hf4
  go_wp2
  go_ret
  exact ⟨rfl, HN3.out, HF4.out⟩

theorem Hear_any (b : Nat) (f r t q d : Int) (s : Nd.NS) (w : World) (ok : Nd.Ok s) (hn : NAt w b 110 s) :
    Calls Try.prog 34 #[.pointer (some ⟨b, 0, none⟩), news5 f r t q d] w (CodeFr b 110 (Nd.hearC s f t q d).1 (Nd.hearC s f t q d).2 w) := by
  by_cases h : Nd.hearBad s f t q d
  · have e : Nd.hearC s f t q d = (s, 1) := by rw [Nd.hearC, if_pos h]
    rw [e]
    exact Hear_bad b f r t q d s w h hn
  · have h2 := h
    simp only [Nd.hearBad] at h2
    obtain ⟨x, rfl⟩ := Int.eq_ofNat_of_zero_le (a := f) (by omega)
    obtain ⟨y, rfl⟩ := Int.eq_ofNat_of_zero_le (a := t) (by omega)
    by_cases hc : s.cost x = 0
    · have e : Nd.hearC s x y q d = (s, 6) := by rw [Nd.hearC, if_neg h, Int.toNat_natCast, if_pos hc]
      rw [e]
      exact Hear_none b x y r q d s w ok (by omega) (by omega) (by omega) (by omega) (by omega) (by omega) hc hn
    · have e : Nd.hearC s x y q d = (Nd.hear s x y q d, 0) := by rw [Nd.hearC, if_neg h, Int.toNat_natCast, if_neg hc, Int.toNat_natCast]
      rw [e]
      exact Hear_ok b x y r q d s w ok (by omega) (by omega) (by omega) (by omega) (by omega) (by omega) hc hn
end Go.Proofs.Ytdpgbgapelgomaa
