/- Walks: handpostlaw.nodeStep. -/
import Derived.Test.YtdpgbgapelgomaaNd10
import Derived.Test.YtdpgbgapelgomaaNdMath3
namespace Go.Proofs.Ytdpgbgapelgomaa
open Go.RowKit Go.Deep

/-- Two blocks may have turned. -/
def TwoB (a b : Nat) : Nat → Prop := fun k => k = a ∨ k = b
def StepPost (N M : Nat) (s : Nd.NS) (w : World) (e : Ending) (w' : World) : Prop :=
  e = .returned (.bool true) ∧ NAt w' N 110 s ∧ NAt w' M 68 s ∧ Fr (TwoB N M) w w'
def step7 (x0 x1 x2 x3 x4 x5 x6 : Int) : Value := .agg #[.int .i64 x0, .int .i64 x1, .int .i64 x2, .int .i64 x3, .int .i64 x4, .int .i64 x5, .int .i64 x6]
theorem Fr.onel {a b : Nat} {w w' : World} (h : Fr (OneB a) w w') : Fr (TwoB a b) w w' := h.mono (fun _ _ h => .inl h)
theorem Fr.oner {a b : Nat} {w w' : World} (h : Fr (OneB b) w w') : Fr (TwoB a b) w w' := h.mono (fun _ _ h => .inr h)

set_option maxRecDepth 100000 in
set_option maxHeartbeats 4000000 in
theorem nodeStep_any (N M : Nat) (x0 x1 x2 x3 x4 x5 x6 : Int) (s : Nd.NS) (n : Nat) (w : World) (hr : Nd.Run s n) (hn : n ≤ 1000) (hNM : N ≠ M) (h1 : NAt w N 110 s) (h2 : NAt w M 68 s) :
    Calls Try.prog 31 #[.pointer (some ⟨N, 0, none⟩), .pointer (some ⟨M, 0, none⟩), step7 x0 x1 x2 x3 x4 x5 x6] w (StepPost N M (Nd.stepN s x0 x1 x2 x4 x5 x6) w) := by
  have hlN := h1.lt
  have hlM := h2.lt
  have hpN : w.heap.size ≠ N := by omega
  have hpM : w.heap.size ≠ M := by omega
  have H1 := Lib.hid h1; clear h1; have H2 := Lib.hid h2; clear h2; have HR := Lib.hid hr; clear hr; have HNM := Lib.hid hNM; clear hNM; have PN := Lib.hid hpN; clear hpN; have PM := Lib.hid hpM; clear hpM
  clear hlN hlM
  by_cases e0 : x0 = 0
  · subst e0
    go_enter Try.func31, Try.ntmps31
    unfold step7
    go_upto_region 3 with fail
    refine wp_name fun w1 hw1 => ?_
    have hf1 : Fr NoB w w1 := by rw [hw1]; exact (Fr.refl _ w).alloc _
    have n1 := H1.out.keep hf1 (fun h => h)
    have n2 := H2.out.keep hf1 (fun h => h)
    have c1 : w1.cell? ⟨w.heap.size, 1, none⟩ = some (.int .i64 x1) := by rw [hw1]; simp
    have c2 : w1.cell? ⟨w.heap.size, 2, none⟩ = some (.int .i64 x2) := by rw [hw1]; simp
    clear hw1
    have HF := Lib.hid hf1; clear hf1; have N1 := Lib.hid n1; clear n1; have N2 := Lib.hid n2; clear n2
    go_region_held3 (fun W => W.cell? ⟨w.heap.size, 1, none⟩ = some (.int .i64 x1) ∧ W.cell? ⟨w.heap.size, 2, none⟩ = some (.int .i64 x2)) (first | exact ⟨t1, t2⟩ | exact ⟨s1, s2⟩ | exact ⟨c1, c2⟩)
      (first | (go_at_call 32; refine (Link_any N x2 x1 s _ HR.out.ok (by exact N1.out)).mono ?_; rintro e w2 ⟨rfl, hn2, hF2⟩; have s1 := cell_fr hF2 c1 (fun h => PN.out h); have s2 := cell_fr hF2 c2 (fun h => PN.out h)) | (go_at_call 63; refine (MLink_any M x2 x1 s _ HR.out.ok (hF2.row (by exact N2.out) (fun h => HNM.out h.symm))).mono ?_; rintro e w3 ⟨rfl, hn3, hF3⟩; have t1 := cell_fr hF3 s1 (fun h => PM.out h); have t2 := cell_fr hF3 s2 (fun h => PM.out h)))
    have r1 : NAt w3 N 110 (Nd.linkC s x2 x1).1 := hF3.row hn2 (fun h => HNM.out h)
    have r3 : Fr (TwoB N M) w w3 := ((HF.out.mono (fun _ _ h => h.elim)).drew.trans hF2.onel).trans hF3.oner
    clear hn2 hF2 hF3
    have R1 := Lib.hid r1; clear r1; have R2 := Lib.hid hn3; clear hn3; have R3 := Lib.hid r3; clear r3
    go_wp2
    go_ret
    exact ⟨rfl, R1.out, R2.out, R3.out⟩
  · by_cases e1 : x0 = 1
    · subst e1
      go_enter Try.func31, Try.ntmps31
      unfold step7
      go_upto_region 5 with fail
      refine wp_name fun w1 hw1 => ?_
      have hf1 : Fr NoB w w1 := by rw [hw1]; exact (Fr.refl _ w).alloc _
      have n1 := H1.out.keep hf1 (fun h => h)
      have n2 := H2.out.keep hf1 (fun h => h)
      have c2 : w1.cell? ⟨w.heap.size, 2, none⟩ = some (.int .i64 x2) := by rw [hw1]; simp
      have c3 : w1.cell? ⟨w.heap.size, 3, none⟩ = some (.int .i64 x3) := by rw [hw1]; simp
      have c4 : w1.cell? ⟨w.heap.size, 4, none⟩ = some (.int .i64 x4) := by rw [hw1]; simp
      have c5 : w1.cell? ⟨w.heap.size, 5, none⟩ = some (.int .i64 x5) := by rw [hw1]; simp
      have c6 : w1.cell? ⟨w.heap.size, 6, none⟩ = some (.int .i64 x6) := by rw [hw1]; simp
      clear hw1 e0
      have HF := Lib.hid hf1; clear hf1; have N1 := Lib.hid n1; clear n1; have N2 := Lib.hid n2; clear n2
      go_region_held3 (fun W => W.cell? ⟨w.heap.size, 2, none⟩ = some (.int .i64 x2) ∧ W.cell? ⟨w.heap.size, 3, none⟩ = some (.int .i64 x3) ∧ W.cell? ⟨w.heap.size, 4, none⟩ = some (.int .i64 x4) ∧ W.cell? ⟨w.heap.size, 5, none⟩ = some (.int .i64 x5) ∧ W.cell? ⟨w.heap.size, 6, none⟩ = some (.int .i64 x6)) (first | exact ⟨t2, t3, t4, t5, t6⟩ | exact ⟨s2, s3, s4, s5, s6⟩ | exact ⟨c2, c3, c4, c5, c6⟩)
        (first | (go_at_call 34; refine (Hear_any N x2 x3 x4 x5 x6 s _ HR.out.ok (by exact N1.out)).mono ?_; rintro e w2 ⟨rfl, hn2, hF2⟩; have s2 := cell_fr hF2 c2 (fun h => PN.out h); have s3 := cell_fr hF2 c3 (fun h => PN.out h); have s4 := cell_fr hF2 c4 (fun h => PN.out h); have s5 := cell_fr hF2 c5 (fun h => PN.out h); have s6 := cell_fr hF2 c6 (fun h => PN.out h)) | (go_at_call 64; refine (MHear_any M x2 x3 x4 x5 x6 s _ HR.out.ok (hF2.row (by exact N2.out) (fun h => HNM.out h.symm))).mono ?_; rintro e w3 ⟨rfl, hn3, hF3⟩; have t2 := cell_fr hF3 s2 (fun h => PM.out h); have t3 := cell_fr hF3 s3 (fun h => PM.out h); have t4 := cell_fr hF3 s4 (fun h => PM.out h); have t5 := cell_fr hF3 s5 (fun h => PM.out h); have t6 := cell_fr hF3 s6 (fun h => PM.out h)))
      have r1 : NAt w3 N 110 (Nd.hearC s x2 x4 x5 x6).1 := hF3.row hn2 (fun h => HNM.out h)
      have r3 : Fr (TwoB N M) w w3 := ((HF.out.mono (fun _ _ h => h.elim)).drew.trans hF2.onel).trans hF3.oner
      clear hn2 hF2 hF3
      have R1 := Lib.hid r1; clear r1; have R2 := Lib.hid hn3; clear hn3; have R3 := Lib.hid r3; clear r3
      go_wp2
      go_ret
      exact ⟨rfl, R1.out, R2.out, R3.out⟩
    · by_cases e2 : x0 = 2
      · subst e2
        clear e0 e1
        go_enter Try.func31, Try.ntmps31
        unfold step7
        go_wp2_with fail
        refine (Tick_any N s _ HR.out.ok.me HR.out.lo (by have := HR.out.hi; omega) (H1.out.alloc _)).mono ?_
        rintro e w2 ⟨rfl, hn2, hF2⟩
        have hm2 := hF2.row (H2.out.alloc _) (fun h => HNM.out h.symm)
        have hf2 := ((Fr.refl (OneB N) w).alloc _).trans hF2
        clear hF2
        have N1 := Lib.hid hn2; clear hn2; have N2 := Lib.hid hm2; clear hm2; have HF := Lib.hid hf2; clear hf2
        go_wp2_with fail
        refine (MTick_any M s _ HR.out.ok.me HR.out.own HR.out.lo (by have := HR.out.hi; omega) N2.out).mono ?_
        rintro e w3 ⟨rfl, hn3, hF3⟩
        have r1 := hF3.row N1.out (fun h => HNM.out h)
        have r3 : Fr (TwoB N M) w w3 := HF.out.onel.trans hF3.oner
        clear hF3
        have R1 := Lib.hid r1; clear r1; have R2 := Lib.hid hn3; clear hn3; have R3 := Lib.hid r3; clear r3
        go_wp2
        go_ret
        exact ⟨rfl, R1.out, R2.out, R3.out⟩
      · have hst := Nd.stepN_no s x0 x1 x2 x4 x5 x6 e0 e1 e2
        have b0 : (x0 == 0) = false := by simpa using e0
        have b1 : (x0 == 1) = false := by simpa using e1
        have b2 : (x0 == 2) = false := by simpa using e2
        have HST := Lib.hid hst; clear hst
        clear e0 e1 e2
        go_enter Try.func31, Try.ntmps31
        unfold step7
        go_wp2
        go_ret
        exact ⟨rfl, by rw [HST.out]; exact H1.out.alloc _, by rw [HST.out]; exact H2.out.alloc _, (Fr.refl _ _).alloc _⟩
end Go.Proofs.Ytdpgbgapelgomaa
