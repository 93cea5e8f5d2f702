/- The walk of NodeDoes. -/
import Derived.Test.YtdpgbgapelgomaaNd12
namespace Go.Proofs.Ytdpgbgapelgomaa
open Go.RowKit Go.Deep

def NdRel (me : Nat) (X : Nat → Int) (n : Nat) (w : World) (N M : Nat) (i : Value) (wr : World) : Prop :=
  ∃ k : Nat, k ≤ n ∧ i = .int .i64 k ∧ NAt wr N 110 (Nd.runN me X k) ∧ NAt wr M 68 (Nd.runN me X k) ∧ Fr NoB w wr
def NdRelI (s : Nd.NS) (w : World) (N M : Nat) (i : Value) (wr : World) : Prop :=
  ∃ k : Nat, k ≤ 6 ∧ i = .int .i64 k ∧ NAt wr N 110 s ∧ NAt wr M 68 s ∧ Fr NoB w wr

theorem Fr.two {N M : Nat} {w a b : World} (h : Fr NoB w a) (k : Fr (TwoB N M) a b) (hN : w.heap.size ≤ N) (hM : w.heap.size ≤ M) : Fr NoB w b :=
  h.trans' k (fun i hi h => by rcases h with h | h <;> omega)

set_option maxRecDepth 100000 in
set_option maxHeartbeats 8000000 in
theorem NodeDoes_main (me : Nat) (a0 : Option Addr) (n c : Nat) (X : Nat → Int) (tn : Int) (w : World) (hn : n ≤ 200) (hme : me < 6) (hX : Rd w a0 (n * 7) X) :
    Calls Try.prog 7 #[.int .i64 me, .slice a0 n c, .int .i64 tn] w (TrueFr w) := by
  have HX := Lib.hid hX; clear hX
  go_enter Try.func7, Try.ntmps7
  go_wp2_with fail
  refine (nodeBegun_true _).mono ?_
  rintro e w1 ⟨rfl, hF⟩
  have HF := Lib.hid hF; clear hF
  go_wp2_with fail
  refine (New_yes me _ hme).mono ?_
  rintro e w2 ⟨rfl, hN, hF⟩
  have hNz := HF.out.size
  have hF := HF.out.trans hF
  clear HF
  have HN := Lib.hid hN; clear hN; have HF := Lib.hid hF; clear hF
  go_wp2_with fail
  refine (RNode_yes _ _ (by omega) (by omega)).mono ?_; rintro e w' ⟨rfl, rfl⟩
  go_wp2_with fail
  refine (NewMind_any me _ hme).mono ?_
  rintro e w3 ⟨rfl, hM, hF⟩
  have hMz := HF.out.size
  have hNM : w1.heap.size ≠ w2.heap.size := by have := HN.out.lt; omega
  have hN := HN.out.keep hF (fun h => h)
  have hF := HF.out.trans hF
  clear HF HN
  have HN := Lib.hid hN; clear hN; have HM := Lib.hid hM; clear hM; have HF := Lib.hid hF; clear hF; have HNM := Lib.hid hNM; clear hNM; have HNZ := Lib.hid hNz; clear hNz; have HMZ := Lib.hid hMz; clear hMz
  go_wp2
  go_loopw [9] (fun i wr => NdRel me X n w w1.heap.size w2.heap.size i wr) (fun i _ => n - (intOf i).toNat)
  case atStart => exact ⟨0, by omega, rfl, HN.out, HM.out, HF.out⟩
  case round =>
    clear HN HM HF
    obtain ⟨k, hk, rfl, h1, h2, h3⟩ := hrel
    have HN := Lib.hid h1; clear h1; have HM := Lib.hid h2; clear h2; have HF := Lib.hid h3; clear h3
    have HR := Lib.hid (Nd.runN_run hme X k)
    by_cases hkn : k < n
    · obtain ⟨b0, o0, rfl, c0⟩ := HX.out (k * 7) (by omega)
      obtain ⟨b1, o1, e1, c1⟩ := HX.out (k * 7 + 1) (by omega)
      obtain ⟨b2, o2, e2, c2⟩ := HX.out (k * 7 + 2) (by omega)
      obtain ⟨b3, o3, e3, c3⟩ := HX.out (k * 7 + 3) (by omega)
      obtain ⟨b4, o4, e4, c4⟩ := HX.out (k * 7 + 4) (by omega)
      obtain ⟨b5, o5, e5, c5⟩ := HX.out (k * 7 + 5) (by omega)
      obtain ⟨b6, o6, e6, c6⟩ := HX.out (k * 7 + 6) (by omega)
      cases e1; cases e2; cases e3; cases e4; cases e5; cases e6
      have hst : Nd.runN me X (k + 1) = Nd.stepN (Nd.runN me X k) (X (k * 7)) (X (k * 7 + 1)) (X (k * 7 + 2)) (X (k * 7 + 4)) (X (k * 7 + 5)) (X (k * 7 + 6)) := rfl
      have HR2 := Lib.hid (Nd.runN_run hme X (k + 1))
      generalize X (k * 7) = x0 at *
      generalize X (k * 7 + 1) = x1 at *
      generalize X (k * 7 + 2) = x2 at *
      generalize X (k * 7 + 3) = x3 at *
      generalize X (k * 7 + 4) = x4 at *
      generalize X (k * 7 + 5) = x5 at *
      generalize X (k * 7 + 6) = x6 at *
      have HST := Lib.hid hst; clear hst
      have D2 := Lib.hid c2; have D3 := Lib.hid c3; have D4 := Lib.hid c4; have D5 := Lib.hid c5; have D6 := Lib.hid c6
      have c0 := cell_fr HF.out c0 (fun h => h)
      have c1 := cell_fr HF.out c1 (fun h => h)
      have c2 := cell_fr HF.out c2 (fun h => h)
      have c3 := cell_fr HF.out c3 (fun h => h)
      have c4 := cell_fr HF.out c4 (fun h => h)
      have c5 := cell_fr HF.out c5 (fun h => h)
      have c6 := cell_fr HF.out c6 (fun h => h)
      rw [← Nat.add_assoc] at c1 c2 c3 c4 c5 c6
      go_wp2_with fail
      refine (nodeStep_any w1.heap.size w2.heap.size x0 x1 x2 x3 x4 x5 x6 _ k _ HR.out (by omega) HNM.out HN.out HM.out).mono ?_
      rintro e w4 ⟨rfl, h1, h2, h3⟩
      have h3 := HF.out.two h3 HNZ.out HMZ.out
      rw [← HST.out] at h1 h2
      generalize hsk : Nd.runN me X (k + 1) = s at *
      have HSK := Lib.hid hsk; clear hsk
      clear HN HM HF c0 c1 c2 c3 c4 c5 c6 HR
      have HN := Lib.hid h1; clear h1; have HM := Lib.hid h2; clear h2; have HF := Lib.hid h3; clear h3
      go_wp2_with fail
      refine (Tell_any _ tn s _ HN.out).mono ?_
      rintro e w5 ⟨v1, rfl, hv1, hf⟩
      have h1 := HN.out.keep hf (fun h => h)
      have h2 := HM.out.keep hf (fun h => h)
      have h3 := HF.out.trans hf
      clear HN HM HF hf
      obtain ⟨a1, cap1, rfl, hrd1, j1⟩ := ownsRow_rd hv1
      clear hv1 j1
      have HN := Lib.hid h1; clear h1; have HM := Lib.hid h2; clear h2; have HF := Lib.hid h3; clear h3; have HR1 := Lib.hid hrd1; clear hrd1
      go_wp2_with fail
      refine (MTell_any _ tn s _ HM.out).mono ?_
      rintro e w6 ⟨v2, rfl, hv2, hf⟩
      have h1 := HN.out.keep hf (fun h => h)
      have h2 := HM.out.keep hf (fun h => h)
      have h3 := HF.out.trans hf
      have hrd1 := HR1.out.keep hf (fun _ _ h => h)
      clear HN HM HF hf HR1
      obtain ⟨a2, cap2, rfl, hrd2, j2⟩ := ownsRow_rd hv2
      clear hv2 j2
      have HN := Lib.hid h1; clear h1; have HM := Lib.hid h2; clear h2; have HF := Lib.hid h3; clear h3; have HR1 := Lib.hid hrd1; clear hrd1; have HR3 := Lib.hid hrd2; clear hrd2
      go_wp2_with fail
      refine (SameNews_fr a1 a2 6 cap1 cap2 _ _ (by omega) HR1.out HR3.out).mono ?_
      rintro e w7 ⟨rfl, hf⟩
      have h1 := HN.out.keep hf (fun h => h)
      have h2 := HM.out.keep hf (fun h => h)
      have h3 := HF.out.trans hf
      clear HN HM HF hf HR1 HR3
      have HN := Lib.hid h1; clear h1; have HM := Lib.hid h2; clear h2; have HF := Lib.hid h3; clear h3
      go_wp2_with fail
      refine (Way_any _ tn s _ HN.out).mono ?_
      rintro e w8 ⟨rfl, hf⟩
      have h1 := HN.out.keep hf (fun h => h)
      have h2 := HM.out.keep hf (fun h => h)
      have h3 := HF.out.trans hf
      clear HN HM HF hf
      have HN := Lib.hid h1; clear h1; have HM := Lib.hid h2; clear h2; have HF := Lib.hid h3; clear h3
      unfold way3
      go_wp2_with fail
      refine (MWay_any _ tn s _ HM.out).mono ?_
      rintro e w9 ⟨rfl, hf⟩
      have h1 := HN.out.keep hf (fun h => h)
      have h2 := HM.out.keep hf (fun h => h)
      have h3 := HF.out.trans hf
      clear HN HM HF hf
      have HN := Lib.hid h1; clear h1; have HM := Lib.hid h2; clear h2; have HF := Lib.hid h3; clear h3
      unfold way3
      generalize (Nd.wayAt s tn).seq = y1 at *
      generalize (Nd.wayAt s tn).dist = y2 at *
      generalize (Nd.wayAt s tn).hop = y3 at *
      go_wp2_with fail
      obtain ⟨wo, rfl⟩ : ∃ wo : World, wo = w9 := ⟨_, rfl⟩
      go_loopw [10] (fun i wr => NdRelI s w w1.heap.size w2.heap.size i wr) (fun i _ => 6 - (intOf i).toNat)
      case atStart => exact ⟨0, by omega, rfl, HN.out, HM.out, HF.out⟩
      case round =>
        clear HN HM HF
        obtain ⟨j, hj, rfl, h1, h2, h3⟩ := hrel
        have HN := Lib.hid h1; clear h1; have HM := Lib.hid h2; clear h2; have HF := Lib.hid h3; clear h3
        by_cases hj6 : j < 6
        · go_wp2_with fail
          refine (Best_in _ j s _ hj6 HN.out).mono ?_
          rintro e w4 ⟨rfl, hf⟩
          have h1 := HN.out.keep hf (fun h => h)
          have h2 := HM.out.keep hf (fun h => h)
          have h3 := HF.out.trans hf
          clear HN HM HF hf
          have c0 := h2.wS hj6
          have c1 := h2.wD hj6
          have c2 := h2.wH hj6
          have c3 := h2.bS hj6
          have c4 := h2.bD hj6
          have hji : (j : Int) < 6 := by omega
          have HN := Lib.hid h1; clear h1; have HM := Lib.hid h2; clear h2; have HF := Lib.hid h3; clear h3
          go_wp2_with fail
          go_region_held3 (fun W => W.cell? ⟨w2.heap.size, 79 + j * 3, none⟩ = some (.int .i64 (s.wS j)) ∧ W.cell? ⟨w2.heap.size, 79 + j * 3 + 1, none⟩ = some (.int .i64 (s.wD j)) ∧ W.cell? ⟨w2.heap.size, 79 + j * 3 + 2, none⟩ = some (.int .i64 (s.wH j)) ∧ W.cell? ⟨w2.heap.size, 97 + j * 2, none⟩ = some (.int .i64 (s.bS j)) ∧ W.cell? ⟨w2.heap.size, 97 + j * 2 + 1, none⟩ = some (.int .i64 (s.bD j)))
            (first | exact ⟨c0, c1, c2, c3, c4⟩ | exact ⟨t0, t1, t2, t3, t4⟩)
            ((go_at_call 35; refine (Way_in _ j s _ hj6 (by exact HN.out)).mono ?_; rintro e w5 ⟨rfl, hf⟩; have t0 := cell_fr hf c0 (fun h => h); have t1 := cell_fr hf c1 (fun h => h); have t2 := cell_fr hf c2 (fun h => h); have t3 := cell_fr hf c3 (fun h => h); have t4 := cell_fr hf c4 (fun h => h)))
          have h1 := NAt.keep (w := w4.drew) HN.out hf (fun h => h)
          have h2 := NAt.keep (w := w4.drew) HM.out hf (fun h => h)
          have h3 := HF.out.drew.trans hf
          clear HN HM HF hf c0 c1 c2 c3 c4 t0 t1 t2 t3 t4
          have HN := Lib.hid h1; clear h1; have HM := Lib.hid h2; clear h2; have HF := Lib.hid h3; clear h3
          go_wp2
          go_roundw
          case rel => exact ⟨j + 1, by omega, by go_num, HN.out, HM.out, HF.out⟩
          case measure => simp [intOf]; omega
        · obtain rfl : j = 6 := by omega
          have d2 := cell_fr HF.out D2.out (fun h => h)
          have d3 := cell_fr HF.out D3.out (fun h => h)
          have d4 := cell_fr HF.out D4.out (fun h => h)
          have d5 := cell_fr HF.out D5.out (fun h => h)
          have d6 := cell_fr HF.out D6.out (fun h => h)
          rw [← Nat.add_assoc] at d2 d3 d4 d5 d6
          have e3 : wr.cell? ⟨b0, o0 + k * 7 + 2 + 1, none⟩ = some (.int .i64 x3) := d3
          have e4 : wr.cell? ⟨b0, o0 + k * 7 + 2 + 2, none⟩ = some (.int .i64 x4) := d4
          have e5 : wr.cell? ⟨b0, o0 + k * 7 + 2 + 3, none⟩ = some (.int .i64 x5) := d5
          have e6 : wr.cell? ⟨b0, o0 + k * 7 + 2 + 4, none⟩ = some (.int .i64 x6) := d6
          go_upto_region 23 with fail
          clear d2 d3 d4 d5 d6 e3 e4 e5 e6
          refine wp_name fun w5 hw5 => ?_
          have q0 : w5.cell? ⟨wr.heap.size, 0, none⟩ = some (.int .i64 x2) := by rw [hw5]; simp
          have q2 : w5.cell? ⟨wr.heap.size, 2, none⟩ = some (.int .i64 x4) := by rw [hw5]; simp
          have q3 : w5.cell? ⟨wr.heap.size, 3, none⟩ = some (.int .i64 x5) := by rw [hw5]; simp
          have q4 : w5.cell? ⟨wr.heap.size, 4, none⟩ = some (.int .i64 x6) := by rw [hw5]; simp
          have hf : Fr NoB wr w5 := by rw [hw5]; exact (Fr.refl _ _).alloc _
          have h1 := HN.out.keep hf (fun h => h)
          have h2 := HM.out.keep hf (fun h => h)
          have h3 := HF.out.trans hf
          clear HN HM HF hf hw5
          have HN := Lib.hid h1; clear h1; have HM := Lib.hid h2; clear h2; have HF := Lib.hid h3; clear h3
          go_region_held3 (fun W => W.cell? ⟨wr.heap.size, 0, none⟩ = some (.int .i64 x2) ∧ W.cell? ⟨wr.heap.size, 2, none⟩ = some (.int .i64 x4) ∧ W.cell? ⟨wr.heap.size, 3, none⟩ = some (.int .i64 x5) ∧ W.cell? ⟨wr.heap.size, 4, none⟩ = some (.int .i64 x6))
            (first | exact ⟨q0, q2, q3, q4⟩ | exact ⟨t0, t2, t3, t4⟩)
            (first | (go_at_call 40; refine (Better_any x5 x6 x2 x4 _).mono ?_; rintro e w6 ⟨rfl, hf⟩; have t0 := cell_fr hf q0 (fun h => h); have t2 := cell_fr hf q2 (fun h => h); have t3 := cell_fr hf q3 (fun h => h); have t4 := cell_fr hf q4 (fun h => h)) | (go_at_call 41; refine (RBetter_any x5 x6 x2 x4 _).mono ?_; rintro e w7 ⟨rfl, rfl⟩))
          have h1 := NAt.keep (w := w5.drew) HN.out hf (fun h => h)
          have h2 := NAt.keep (w := w5.drew) HM.out hf (fun h => h)
          have h3 := HF.out.drew.trans hf
          clear HN HM HF hf q0 q2 q3 q4 t0 t2 t3 t4
          have HN := Lib.hid h1; clear h1; have HM := Lib.hid h2; clear h2; have HF := Lib.hid h3; clear h3
          generalize Nd.betB x5 x6 x2 x4 = bb at *
          go_wp2
          go_roundw
          case rel => exact ⟨k + 1, by omega, by go_num, by rw [HSK.out]; exact HN.out, by rw [HSK.out]; exact HM.out, HF.out⟩
          case measure => simp [intOf]; omega
    · have hb : Nd.bestAt (Nd.runN me X k) (-1) = (0, 200) := by rw [Nd.bestAt, if_neg (by omega)]
      have hw6 : Nd.wayAt (Nd.runN me X k) 6 = Nd.noWay := by rw [Nd.wayAt, if_neg (by omega)]
      have HB := Lib.hid hb; clear hb; have HW6 := Lib.hid hw6; clear hw6
      go_wp2_with fail
      refine (Best_any _ (-1) _ _ HN.out).mono ?_
      rintro e w4 ⟨rfl, jd, rfl⟩
      rw [HB.out]
      go_wp2_with fail
      refine (Way_any _ 6 _ (wr.drewN jd) HN.out).mono ?_
      rintro e w5 ⟨rfl, hf⟩
      have h3 := (HF.out.drewN jd).trans hf
      clear HN HM HF hf
      rw [HW6.out]
      have HF := Lib.hid h3; clear h3
      unfold way3 Nd.noWay
      go_wp2
      go_ret
      exact ⟨rfl, HF.out⟩

set_option maxRecDepth 100000 in
set_option maxHeartbeats 2000000 in
theorem NodeDoes_early (me : Int) (a0 : Option Addr) (n c : Nat) (tn : Int) (w : World) (h : 200 < n ∨ (n ≤ 200 ∧ ¬ (0 ≤ me ∧ me < 6))) :
    Calls Try.prog 7 #[.int .i64 me, .slice a0 n c, .int .i64 tn] w (TrueFr w) := by
  rcases h with h | ⟨hn, h⟩
  · go_enter Try.func7, Try.ntmps7
    go_wp2_with fail
    refine (nodeBegun_true _).mono ?_
    rintro e w1 ⟨rfl, hF⟩
    have HF := Lib.hid hF; clear hF
    go_wp2
    go_ret
    exact ⟨rfl, HF.out⟩
  · have H := Lib.hid h; clear h
    go_enter Try.func7, Try.ntmps7
    go_wp2_with fail
    refine (nodeBegun_true _).mono ?_
    rintro e w1 ⟨rfl, hF⟩
    have HF := Lib.hid hF; clear hF
    go_wp2_with fail
    refine (New_no me _ H.out).mono ?_
    rintro e w2 ⟨rfl, rfl⟩
    go_wp2_with fail
    refine (RNode_no _ _ H.out).mono ?_; rintro e w' ⟨rfl, rfl⟩
    go_wp2
    go_ret
    exact ⟨rfl, HF.out⟩

theorem NodeDoes_all (me : Int) (a1 : Option Addr) (n1 c1 : Nat) (X1 : Nat → Int) (tn : Int) (w : World) (hX : Rd w a1 (n1 * 7) X1) :
    Calls Try.prog 7 #[.int .i64 me, .slice a1 n1 c1, .int .i64 tn] w (TrueFr w) := by
  by_cases hn : 200 < n1
  · exact NodeDoes_early me a1 n1 c1 tn w (.inl hn)
  · by_cases hm : 0 ≤ me ∧ me < 6
    · obtain ⟨m, rfl⟩ := Int.eq_ofNat_of_zero_le hm.1
      exact NodeDoes_main m a1 n1 c1 X1 tn w (by omega) (by omega) hX
    · exact NodeDoes_early me a1 n1 c1 tn w (.inr ⟨by omega, hm⟩)
end Go.Proofs.Ytdpgbgapelgomaa
