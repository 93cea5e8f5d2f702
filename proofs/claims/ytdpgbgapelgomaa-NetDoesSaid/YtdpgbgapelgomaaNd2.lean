import Derived.Test.YtdpgbgapelgomaaNd1
namespace Go.Proofs.Ytdpgbgapelgomaa
open Go.RowKit Go.Deep
set_option maxRecDepth 100000 in
set_option maxHeartbeats 1000000 in
theorem may_any (b who tn : Nat) (s : Nd.NS) (w : World) (hw : who < 6) (ht : tn < 6) (hc : 0 ≤ s.cost who ∧ s.cost who ≤ 15) (hd : 0 ≤ s.hD who tn ∧ s.hD who tn ≤ 200) (hn : NAt w b 110 s) :
    Calls Try.prog 79 #[.pointer (some ⟨b, 0, none⟩), .int .i64 who, .int .i64 tn] w (BoolFr (Nd.may s who tn) w) := by
  have c0 := hn.cost hw
  have c1 := hn.hS hw ht
  have c2 := hn.hD hw ht
  have c3 := hn.bS ht
  have c4 := hn.bD ht
  have hl := hn.lt
  have hwi : (who : Int) < 6 := by omega
  have hti : (tn : Int) < 6 := by omega
  clear hn
  obtain ⟨k0, k1⟩ := hc
  obtain ⟨d0, d1⟩ := hd
  by_cases g1 : 0 < s.cost who
  · by_cases g2 : s.hD who tn + s.cost who < 200
    · have hmay : Nd.may s who tn = Nd.betB (s.hS who tn) (s.hD who tn) (s.bS tn) (s.bD tn) := by simp [Nd.may, g1, g2]
      have HM := Lib.hid hmay; clear hmay
      go_enter Try.func79, Try.ntmps79
      go_wp2
      refine wp_name fun w1 hw1 => ?_
      have hf1 : Fr NoB w w1 := by rw [hw1]; exact (Fr.refl _ w).alloc _
      have b0 : w1.cell? ⟨w.heap.size, 0, none⟩ = some (.int .i64 (s.hS who tn)) := by rw [hw1]; simp
      have b1 : w1.cell? ⟨w.heap.size, 1, none⟩ = some (.int .i64 (s.hD who tn)) := by rw [hw1]; simp
      have c0 := cell_fr hf1 c0 (fun h => h)
      have c3 := cell_fr hf1 c3 (fun h => h)
      have c4 := cell_fr hf1 c4 (fun h => h)
      clear hw1
      have HF := Lib.hid hf1; clear hf1
      have hsum := IntWalk.i64_in (s.hD who tn + s.cost who) (by omega)
      (refine still_tail 27 (by kernel_rfl) (by kernel_rfl) ?_; simp only [List.take_succ_cons, List.take_zero, List.drop_succ_cons, List.drop_zero]; (iterate 27 (refine wpStill_step (fun K hK => ?_); go_simp; (with_reducible refine hK _ ?_); clear hK K)); refine wpStill_nil ?_)
      go_wp2_with fail
      refine (better_any _ _ _ _ _).mono ?_
      rintro e w2 ⟨rfl, hF⟩
      have hF1 : Fr NoB w w2 := HF.out.drew.trans hF
      clear hF HF
      have HF := Lib.hid hF1; clear hF1
      go_wp2
      go_ret
      exact ⟨ret_bool HM.out.symm, HF.out⟩
    · have hmay : Nd.may s who tn = false := by simp only [Nd.may]; rw [decide_eq_false (by omega)]; rfl
      have g3 : decide (s.hD who tn + s.cost who < 200) = false := by simpa using g2
      have HM := Lib.hid hmay; clear hmay
      clear g2
      go_enter Try.func79, Try.ntmps79
      go_wp2
      go_quiet (fail)
      go_wp2
      go_ret
      exact ⟨ret_bool HM.out.symm, ((Fr.refl _ _).alloc _).drewN _⟩
  · have hmay : Nd.may s who tn = false := by simp only [Nd.may]; rw [decide_eq_false (by omega)]; rfl
    have g3 : decide (0 < s.cost who) = false := by simpa using g1
    have HM := Lib.hid hmay; clear hmay
    clear g1
    go_enter Try.func79, Try.ntmps79
    go_wp2
    go_quiet (fail)
    go_wp2
    go_ret
    exact ⟨ret_bool HM.out.symm, ((Fr.refl _ _).alloc _).drewN _⟩
end Go.Proofs.Ytdpgbgapelgomaa
