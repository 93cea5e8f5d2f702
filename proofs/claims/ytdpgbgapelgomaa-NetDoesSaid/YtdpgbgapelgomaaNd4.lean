/- Walks over package node: Link, Hear, Tick, Way, Best, New. -/
import Derived.Test.YtdpgbgapelgomaaNd3
namespace Go.Proofs.Ytdpgbgapelgomaa
open Go.RowKit Go.Deep

def CodeFr (b : Nat) (t : TypeId) (s : Nd.NS) (c : Int) (w : World) (e : Ending) (w' : World) : Prop := e = .returned (.int .i64 c) ∧ NAt w' b t s ∧ Fr (OneB b) w w'

set_option maxRecDepth 100000 in
set_option maxHeartbeats 1000000 in
theorem Link_ok (b who : Nat) (c : Int) (s : Nd.NS) (w : World) (ok : Nd.Ok s) (hw : who < 6) (hm : who ≠ s.me) (h0 : 0 ≤ c) (h1 : c ≤ 15) (hn : NAt w b 110 s) :
    Calls Try.prog 32 #[.pointer (some ⟨b, 0, none⟩), .int .i64 who, .int .i64 c] w (CodeFr b 110 (Nd.link s who c) 0 w) := by
  have c0 := hn.me
  have c1 := hn.cost hw
  have f1 := hn.fz (1 + who)
  have hb : ((who : Int) == (s.me : Int)) = false := by simp; omega
  have HN := Lib.hid hn; clear hn; have HM := Lib.hid hm; clear hm
  by_cases hz : c = 0
  · subst hz
    have hl : Nd.link s who 0 = Nd.all (Nd.forget { s with cost := Nd.up s.cost who 0 } who) 6 := rfl
    have HL := Lib.hid hl; clear hl
    go_enter Try.func32, Try.ntmps32
    go_wp2_with fail
    refine (Node_yes _ _ (by omega) (by omega)).mono ?_; rintro e w' ⟨rfl, rfl⟩
    go_wp2_with fail
    refine (forget_any b who { s with cost := Nd.up s.cost who 0 } _ hw (HN.out.setC hw 0)).mono ?_
    rintro e w2 ⟨rfl, hn2, hf2⟩
    have hf3 : Fr (OneB b) w w2 := ((Fr.refl _ w).set1 _ _).trans hf2
    clear hf2 c0 c1 f1
    have HN2 := Lib.hid hn2; clear hn2; have HF2 := Lib.hid hf3; clear hf3
    go_wp2_with fail
    refine (all_any b _ _ (Nd.Ok.forget (Nd.Ok.cost' ok who 0 (by omega) (by omega)) who) HN2.out).mono ?_
    rintro e w3 ⟨rfl, hn3, hf3⟩
    have hf4 := HF2.out.trans hf3
    clear hf3
    have HN3 := Lib.hid hn3; clear hn3; have HF3 := Lib.hid hf4; clear hf4
    go_wp2
    go_ret
    exact ⟨rfl, by rw [HL.out]; exact HN3.out, HF3.out⟩
  · have hl : Nd.link s who c = Nd.all { s with cost := Nd.up s.cost who c } 6 := by simp [Nd.link, hz]
    have hzb : (c == 0) = false := by simpa using hz
    have HL := Lib.hid hl; clear hl; have HZ := Lib.hid hz; clear hz
    go_enter Try.func32, Try.ntmps32
    go_wp2_with fail
    refine (Node_yes _ _ (by omega) (by omega)).mono ?_; rintro e w' ⟨rfl, rfl⟩
    go_wp2_with fail
    refine (all_any b _ _ (Nd.Ok.cost' ok who c (by omega) (by omega)) (HN.out.setC hw c)).mono ?_
    rintro e w3 ⟨rfl, hn3, hf3⟩
    have hf4 : Fr (OneB b) w w3 := ((Fr.refl _ w).set1 _ _).trans hf3
    clear hf3 c0 c1 f1
    have HN3 := Lib.hid hn3; clear hn3; have HF3 := Lib.hid hf4; clear hf4
    go_wp2
    go_ret
    exact ⟨rfl, by rw [HL.out]; exact HN3.out, HF3.out⟩

set_option maxRecDepth 100000 in
set_option maxHeartbeats 1000000 in
theorem Link_no (b : Nat) (who c : Int) (s : Nd.NS) (w : World) (h : Nd.linkBad s who c) (hn : NAt w b 110 s) :
    Calls Try.prog 32 #[.pointer (some ⟨b, 0, none⟩), .int .i64 who, .int .i64 c] w fun e w' => e = .returned (.int .i64 1) ∧ w = w' := by
  have c0 := hn.me
  clear hn
  by_cases hw : 0 ≤ who ∧ who < 6
  · obtain ⟨hw0, hw1⟩ := hw
    by_cases hm : who = s.me
    · have hb : (who == (s.me : Int)) = true := by simp [hm]
      clear h hm
      go_enter Try.func32, Try.ntmps32
      go_wp2_with fail
      refine (Node_yes _ _ hw0 hw1).mono ?_; rintro e w' ⟨rfl, rfl⟩
      go_wp2
      go_ret
      exact ⟨rfl, rfl⟩
    · have hb : (who == (s.me : Int)) = false := by simpa using hm
      by_cases hc : c < 0
      · clear h hm
        go_enter Try.func32, Try.ntmps32
        go_wp2_with fail
        refine (Node_yes _ _ hw0 hw1).mono ?_; rintro e w' ⟨rfl, rfl⟩
        go_wp2
        go_ret
        exact ⟨rfl, rfl⟩
      · have hc0 : 0 ≤ c := by omega
        have hc1 : 15 < c := by
          rcases h with h | h | h | h
          · exact absurd ⟨hw0, hw1⟩ h
          · exact absurd h hm
          · exact absurd h hc
          · exact h
        clear h hm hc
        go_enter Try.func32, Try.ntmps32
        go_wp2_with fail
        refine (Node_yes _ _ hw0 hw1).mono ?_; rintro e w' ⟨rfl, rfl⟩
        go_wp2
        go_ret
        exact ⟨rfl, rfl⟩
  · have HW := Lib.hid hw; clear hw h
    go_enter Try.func32, Try.ntmps32
    go_wp2_with fail
    refine (Node_no _ _ HW.out).mono ?_; rintro e w' ⟨rfl, rfl⟩
    go_wp2
    go_ret
    exact ⟨rfl, rfl⟩

theorem Link_any (b : Nat) (who c : Int) (s : Nd.NS) (w : World) (ok : Nd.Ok s) (hn : NAt w b 110 s) :
    Calls Try.prog 32 #[.pointer (some ⟨b, 0, none⟩), .int .i64 who, .int .i64 c] w (CodeFr b 110 (Nd.linkC s who c).1 (Nd.linkC s who c).2 w) := by
  by_cases h : Nd.linkBad s who c
  · have e : Nd.linkC s who c = (s, 1) := by rw [Nd.linkC, if_pos h]
    rw [e]
    refine (Link_no b who c s w h hn).mono ?_
    rintro e w' ⟨rfl, rfl⟩
    exact ⟨rfl, hn, Fr.refl _ _⟩
  · have e : Nd.linkC s who c = (Nd.link s who.toNat c, 0) := by rw [Nd.linkC, if_neg h]
    rw [e]
    simp only [Nd.linkBad] at h
    obtain ⟨x, rfl⟩ := Int.eq_ofNat_of_zero_le (a := who) (by omega)
    rw [Int.toNat_natCast]
    exact Link_ok b x c s w ok (by omega) (by omega) (by omega) (by omega) hn

set_option maxRecDepth 100000 in
set_option maxHeartbeats 1000000 in
theorem Tick_any (b : Nat) (s : Nd.NS) (w : World) (hm : s.me < 6) (h0 : 0 ≤ s.wS s.me) (h1 : s.wS s.me < 1000000) (hn : NAt w b 110 s) :
    Calls Try.prog 42 #[.pointer (some ⟨b, 0, none⟩)] w (NilFr b 110 (Nd.tick s) w) := by
  have c0 := hn.me
  have c1 := hn.wS hm
  have f1 := hn.fz (79 + s.me * 3)
  have hmi : (s.me : Int) < 6 := by omega
  have hsum := IntWalk.i64_in (s.wS s.me + 1) (by omega)
  have HN := Lib.hid hn; clear hn
  go_enter Try.func42, Try.ntmps42
  go_wp2
  (refine still_tail 15 (by kernel_rfl) (by kernel_rfl) ?_; simp only [List.take_succ_cons, List.take_zero, List.drop_succ_cons, List.drop_zero]; (iterate 15 (refine wpStill_step (fun K hK => ?_); go_simp; (with_reducible refine hK _ ?_); clear hK K)); refine wpStill_nil ?_)
  go_wp2_with fail
  refine (own_any b { s with wS := Nd.up s.wS s.me (s.wS s.me + 1) } _ hm (World.rowIs.drew (NAt.set HN.out _ _ (fun j _ => Nd.set_wS s hm (s.wS s.me + 1) j)))).mono ?_
  rintro e w2 ⟨rfl, hn2, hf2⟩
  have hf3 : Fr (OneB b) w w2 := ((Fr.refl _ w).set1 _ _).drew.trans hf2
  clear hf2 c0 c1 f1
  have HN2 := Lib.hid hn2; clear hn2; have HF2 := Lib.hid hf3; clear hf3
  go_wp2
  refine bodyPost_end (results_none rfl _ _ _) rfl ?_
  exact ⟨rfl, HN2.out, HF2.out⟩

def way3 (x : Nd.Way) : Value := .agg #[.int .i64 x.seq, .int .i64 x.dist, .int .i64 x.hop]
def WayFr (x : Nd.Way) (w : World) (e : Ending) (w' : World) : Prop := e = .returned (way3 x) ∧ Fr NoB w w'

set_option maxHeartbeats 1000000 in
theorem Way_any (b : Nat) (k : Int) (s : Nd.NS) (w : World) (hn : NAt w b 110 s) :
    Calls Try.prog 35 #[.pointer (some ⟨b, 0, none⟩), .int .i64 k] w (WayFr (Nd.wayAt s k) w) := by
  by_cases h : 0 ≤ k ∧ k < 6
  · obtain ⟨x, rfl⟩ := Int.eq_ofNat_of_zero_le h.1
    have hx : x < 6 := by omega
    have hw : Nd.wayAt s (x : Int) = Nd.wayOf s x := by rw [Nd.wayAt, if_pos h, Int.toNat_natCast]
    have c0 := hn.wS hx
    have c1 := hn.wD hx
    have c2 := hn.wH hx
    have hl := hn.lt
    clear hn h
    have HW := Lib.hid hw; clear hw
    go_enter Try.func35, Try.ntmps35
    go_wp2_with fail
    refine (Node_yes _ _ (by omega) (by omega)).mono ?_; rintro e w' ⟨rfl, rfl⟩
    go_wp2
    refine bodyPost_ret (v := way3 (Nd.wayOf s x)) ?_ rfl ⟨by rw [HW.out], (Fr.refl _ _).alloc _⟩
    simp [results, Try.results35, go_sem, way3, Nd.wayOf]
  · have hw : Nd.wayAt s k = Nd.noWay := by rw [Nd.wayAt, if_neg h]
    clear hn
    have HW := Lib.hid hw; clear hw; have H := Lib.hid h; clear h
    go_enter Try.func35, Try.ntmps35
    go_wp2_with fail
    refine (Node_no _ _ H.out).mono ?_; rintro e w' ⟨rfl, rfl⟩
    go_wp2
    refine bodyPost_ret (v := way3 Nd.noWay) ?_ rfl ⟨by rw [HW.out], (Fr.refl _ _).alloc _⟩
    simp [results, Try.results35, go_sem, way3, Nd.noWay]

def BestFr (x : Int × Int) (w : World) (e : Ending) (w' : World) : Prop := e = .returned (.tuple #[.int .i64 x.1, .int .i64 x.2]) ∧ ∃ n, w' = w.drewN n

set_option maxHeartbeats 1000000 in
theorem Best_any (b : Nat) (k : Int) (s : Nd.NS) (w : World) (hn : NAt w b 110 s) :
    Calls Try.prog 39 #[.pointer (some ⟨b, 0, none⟩), .int .i64 k] w (BestFr (Nd.bestAt s k) w) := by
  by_cases h : 0 ≤ k ∧ k < 6
  · obtain ⟨x, rfl⟩ := Int.eq_ofNat_of_zero_le h.1
    have hx : x < 6 := by omega
    have hxi : (x : Int) < 6 := by omega
    have hw : Nd.bestAt s (x : Int) = (s.bS x, s.bD x) := by rw [Nd.bestAt, if_pos h, Int.toNat_natCast]
    have c0 := hn.bS hx
    have c1 := hn.bD hx
    clear hn h
    have HW := Lib.hid hw; clear hw
    go_enter Try.func39, Try.ntmps39
    go_wp2_with fail
    refine (Node_yes _ _ (by omega) (by omega)).mono ?_; rintro e w' ⟨rfl, rfl⟩
    go_wp2
    go_quiet (fail)
    go_wp2
    go_ret2
    exact ⟨by rw [HW.out]; rfl, _, rfl⟩
  · have hw : Nd.bestAt s k = (0, 200) := by rw [Nd.bestAt, if_neg h]
    clear hn
    have HW := Lib.hid hw; clear hw; have H := Lib.hid h; clear h
    go_enter Try.func39, Try.ntmps39
    go_wp2_with fail
    refine (Node_no _ _ H.out).mono ?_; rintro e w' ⟨rfl, rfl⟩
    go_wp2
    go_ret2
    exact ⟨by rw [HW.out]; rfl, 0, rfl⟩
end Go.Proofs.Ytdpgbgapelgomaa
