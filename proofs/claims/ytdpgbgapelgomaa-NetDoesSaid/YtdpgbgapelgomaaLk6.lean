/- Walks: handpostlaw.maps: the program's links and the reference's map behind the same settings. -/
import Derived.Test.YtdpgbgapelgomaaLk5
import Derived.Deep.RegionHeld3
namespace Go.Proofs.Ytdpgbgapelgomaa
open Go.RowKit Go.Deep

def stepC (C : Nat → Nat → Int) (p q v : Int) : Nat → Nat → Int := if 0 ≤ p ∧ p < 6 ∧ 0 ≤ q ∧ q < 6 ∧ p ≠ q ∧ 0 ≤ v ∧ v ≤ 15 then setC C p.toNat q.toNat v else C
def mapsC (X : Nat → Int) : Nat → (Nat → Nat → Int)
  | 0 => fun _ _ => 0
  | k + 1 => stepC (mapsC X k) (X (k * 3)) (X (k * 3 + 1)) (X (k * 3 + 2))
theorem CostOK.zero : Lk.CostOK (fun _ _ => 0) := ⟨fun _ _ _ _ => by omega, fun _ _ _ _ => by omega, fun _ _ _ _ => rfl, fun _ _ => rfl⟩
theorem CostOK.set {C : Nat → Nat → Int} (h : Lk.CostOK C) {p q : Nat} (hpq : p ≠ q) {v : Int} (h0 : 0 ≤ v) (h1 : v ≤ 15) : Lk.CostOK (setC C p q v) where
  lo a b ha hb := by
    have := h.lo a b ha hb
    unfold setC updC; split
    · omega
    · split <;> omega
  hi a b ha hb := by
    have := h.hi a b ha hb
    unfold setC updC; split
    · omega
    · split <;> omega
  sym a b ha hb := by
    have := h.sym a b ha hb
    by_cases e1 : a = q ∧ b = p
    · have e2 : ¬ (b = q ∧ a = p) := by omega
      have e3 : b = p ∧ a = q := ⟨e1.2, e1.1⟩
      simp only [setC, updC, if_pos e1, if_neg e2, if_pos e3]
    · by_cases e2 : a = p ∧ b = q
      · have e3 : b = q ∧ a = p := ⟨e2.2, e2.1⟩
        simp only [setC, updC, if_neg e1, if_pos e2, if_pos e3]
      · have e3 : ¬ (b = q ∧ a = p) := fun h => e2 ⟨h.2, h.1⟩
        have e4 : ¬ (b = p ∧ a = q) := fun h => e1 ⟨h.2, h.1⟩
        simp only [setC, updC, if_neg e1, if_neg e2, if_neg e3, if_neg e4]
        exact this
  self a ha := by
    have := h.self a ha
    have e1 : ¬ (a = q ∧ a = p) := by omega
    have e2 : ¬ (a = p ∧ a = q) := by omega
    simp only [setC, updC, if_neg e1, if_neg e2]
    exact this
theorem CostOK.stepC {C : Nat → Nat → Int} (h : Lk.CostOK C) (p q v : Int) : Lk.CostOK (stepC C p q v) := by
  unfold Go.Proofs.Ytdpgbgapelgomaa.stepC
  split
  · rename_i hc
    exact CostOK.set h (by omega) hc.2.2.2.2.2.1 hc.2.2.2.2.2.2
  · exact h
theorem CostOK.maps (X : Nat → Int) : ∀ k, Lk.CostOK (mapsC X k)
  | 0 => CostOK.zero
  | k + 1 => CostOK.stepC (CostOK.maps X k) _ _ _

def MapsPost (X : Nat → Int) (n : Nat) (w : World) (e : Ending) (w' : World) : Prop :=
  ∃ L M, e = .returned (.tuple #[.pointer (some ⟨L, 0, none⟩), .pointer (some ⟨M, 0, none⟩), .bool true]) ∧ w.heap.size ≤ L ∧ w.heap.size ≤ M ∧ L ≠ M ∧ CAt w' L 103 (mapsC X n) ∧ CAt w' M 100 (mapsC X n) ∧ Fr NoB w w'
def MapsRel (X : Nat → Int) (n : Nat) (w : World) (L M : Nat) (p i : Value) (wr : World) : Prop :=
  ∃ k : Nat, k ≤ n ∧ i = .int .i64 k ∧ p = .bool true ∧ CAt wr L 103 (mapsC X k) ∧ CAt wr M 100 (mapsC X k) ∧ Fr NoB w wr

theorem cell_fr {S : Nat → Prop} {w w' : World} (h : Fr S w w') {a : Addr} {v : Value} (hc : w.cell? a = some v) (hS : ¬ S a.block) : w'.cell? a = some v := by
  rw [World.cell?_of_block (w := w) (h.block a.block (World.block_lt_of_cell? w a hc) hS)]
  exact hc

set_option maxRecDepth 100000 in
set_option maxHeartbeats 4000000 in
theorem Maps_any (a : Option Addr) (n c : Nat) (X : Nat → Int) (w : World) (hn : n ≤ 2147483648) (ha : Rd w a (n * 3) X) :
    Calls Try.prog 17 #[.slice a n c] w (MapsPost X n w) := by
  have HA := Lib.hid ha; clear ha
  go_enter Try.func17, Try.ntmps17
  go_wp2_with fail
  refine (NewL _).mono ?_
  rintro e w1 ⟨rfl, hL, hF⟩
  have hlt := World.rowIs.lt hL
  have k1 := World.rowIs.alloc hL (.cells (Array.replicate 36 (.int .i64 0)) 100)
  have k2 := rowIs_new w1 36 (.int .i64 0) 100
  have k3 := hF.alloc (.cells (Array.replicate 36 (.int .i64 0)) 100)
  have K1 := Lib.hid k1; clear k1
  have K2 := Lib.hid k2; clear k2
  have K3 := Lib.hid k3; clear k3
  have KL := Lib.hid hlt; clear hlt hL hF
  go_wp2
  go_loopw [7, 8] (fun p i wr => MapsRel X n w w.heap.size w1.heap.size p i wr) (fun _ i _ => n - (intOf i).toNat)
  case atStart => exact ⟨0, by omega, rfl, rfl, K1.out, K2.out, K3.out⟩
  case round =>
    clear K1 K2 K3
    obtain ⟨k, hk, rfl, rfl, h1, h2, h3⟩ := hrel
    have H1 := Lib.hid h1; clear h1
    have H2 := Lib.hid h2; clear h2
    have H3 := Lib.hid h3; clear h3
    by_cases hkn : k < n
    · obtain ⟨b1, o1, rfl, c1⟩ := HA.out (k * 3) (by omega)
      obtain ⟨b2, o2, e2, c2⟩ := HA.out (k * 3 + 1) (by omega)
      obtain ⟨b3, o3, e3, c3⟩ := HA.out (k * 3 + 2) (by omega)
      cases e2; cases e3
      have hst : mapsC X (k + 1) = stepC (mapsC X k) (X (k * 3)) (X (k * 3 + 1)) (X (k * 3 + 2)) := rfl
      generalize X (k * 3) = p at *
      generalize X (k * 3 + 1) = q at *
      generalize X (k * 3 + 2) = v at *
      have HS := Lib.hid hst; clear hst
      have hb : b1 < w.heap.size := World.block_lt_of_cell? w _ c1
      have c1 := cell_fr H3.out c1 (fun h => h)
      have c2 := cell_fr H3.out c2 (fun h => h)
      have c3 := cell_fr H3.out c3 (fun h => h)
      rw [← Nat.add_assoc] at c2 c3
      have hbL : b1 ≠ w.heap.size := by have := hb; omega
      have hbM : b1 ≠ w1.heap.size := by have := hb; have := KL.out; omega
      have hLM : w.heap.size ≠ w1.heap.size := by have := KL.out; omega
      have BL := Lib.hid hbL; clear hbL
      have BM := Lib.hid hbM; clear hbM hb
      have LM := Lib.hid hLM; clear hLM
      by_cases hv : 0 ≤ p ∧ p < 6 ∧ 0 ≤ q ∧ q < 6 ∧ p ≠ q ∧ 0 ≤ v ∧ v ≤ 15
      · obtain ⟨p0, p1, q0, q1, pq, v0, v1⟩ := hv
        obtain ⟨x, rfl⟩ := Int.eq_ofNat_of_zero_le p0
        obtain ⟨y, rfl⟩ := Int.eq_ofNat_of_zero_le q0
        go_wp2
        go_region_held3 (fun W => W.cell? ⟨b1, o1 + k * 3, none⟩ = some (.int .i64 x) ∧ W.cell? ⟨b1, o1 + k * 3 + 1, none⟩ = some (.int .i64 y) ∧ W.cell? ⟨b1, o1 + k * 3 + 2, none⟩ = some (.int .i64 v)) (first | exact ⟨t1, t2, t3⟩ | exact ⟨s1, s2, s3⟩ | exact ⟨c1, c2, c3⟩)
          (first | (go_at_call 27; refine (Set_ok _ x y v _ _ (by omega) (by omega) (by omega) v0 v1 (by exact H1.out)).mono ?_; rintro e w2 ⟨rfl, hC2, hF2⟩; have s1 := cell_fr hF2 c1 (fun h => BL.out h); have s2 := cell_fr hF2 c2 (fun h => BL.out h); have s3 := cell_fr hF2 c3 (fun h => BL.out h)) | (go_at_call 59; refine (MSet_ok _ x y v _ _ (by omega) (by omega) (by omega) v0 v1 (hF2.row H2.out (fun h => LM.out h.symm))).mono ?_; rintro e w3 ⟨rfl, hC3, hF3⟩; have t1 := cell_fr hF3 s1 (fun h => BM.out h); have t2 := cell_fr hF3 s2 (fun h => BM.out h); have t3 := cell_fr hF3 s3 (fun h => BM.out h)))
        have hS : mapsC X (k + 1) = setC (mapsC X k) x y v := by
          rw [HS.out, stepC, if_pos ⟨p0, p1, q0, q1, pq, v0, v1⟩]
          simp only [Int.toNat_natCast]
        have HS := Lib.hid hS; clear hS
        have r1 : CAt w3 w.heap.size 103 (mapsC X (k + 1)) := by rw [HS.out]; exact hF3.row hC2 (fun h => LM.out h)
        have r2 : CAt w3 w1.heap.size 100 (mapsC X (k + 1)) := by rw [HS.out]; exact hC3
        have r3 : Fr NoB w w3 := (H3.out.drew.trans' hF2 (fun i hi h => absurd h (Nat.ne_of_lt hi))).trans' hF3 (fun i hi h => absurd h (by have := KL.out; unfold OneB; omega))
        clear hC2 hF2 hC3 hF3
        have R1 := Lib.hid r1; clear r1
        have R2 := Lib.hid r2; clear r2
        have R3 := Lib.hid r3; clear r3
        go_wp2
        go_roundw
        case rel => exact ⟨k + 1, by omega, by go_num, rfl, R1.out, R2.out, R3.out⟩
        case measure => simp [intOf]; omega
      · have hS : mapsC X (k + 1) = mapsC X k := by rw [HS.out, stepC, if_neg hv]
        have HS := Lib.hid hS; clear hS
        have HV := Lib.hid hv; clear hv
        go_wp2
        go_region_held3 (fun W => W.cell? ⟨b1, o1 + k * 3, none⟩ = some (.int .i64 p) ∧ W.cell? ⟨b1, o1 + k * 3 + 1, none⟩ = some (.int .i64 q) ∧ W.cell? ⟨b1, o1 + k * 3 + 2, none⟩ = some (.int .i64 v)) (first | exact ⟨c1, c2, c3⟩)
          (first | (go_at_call 27; refine (Set_no _ p q v _ HV.out).mono ?_; rintro e w2 ⟨rfl, rfl⟩) | (go_at_call 59; refine (MSet_no _ p q v _ HV.out).mono ?_; rintro e w3 ⟨rfl, rfl⟩))
        go_wp2
        go_roundw
        case rel => exact ⟨k + 1, by omega, by go_num, rfl, by rw [HS.out]; exact H1.out, by rw [HS.out]; exact H2.out, H3.out.drew⟩
        case measure => simp [intOf]; omega
    · go_wp2
      go_ret3
      exact ⟨_, _, rfl, Nat.le_refl _, by have := KL.out; omega, by have := KL.out; omega, (show k = n from by omega) ▸ H1.out, (show k = n from by omega) ▸ H2.out, H3.out⟩
end Go.Proofs.Ytdpgbgapelgomaa
